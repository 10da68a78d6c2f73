/-
  connlaw: Play.
-/
import Derived.Test.Qxb6500422aGreatCnS
import Derived.Test.Qxb6500422aGreatScript
set_option linter.unusedVariables false
set_option linter.unusedSimpArgs false
open Go.Vc
namespace Go.Proofs.Qxb6500422aGreat
def opArr (o : OpV) : Array Value := #[.int .i64 o.k, .int .i64 o.a, .int .i64 o.b, .int .i64 o.c, .string o.s, .string o.t]
section
variable {w0 w : World} {a : Nat} {D : DS} {K : KS} {dr : Hd} {qu : Bool} {N c : Nat}
theorem LX.draft {s : Nat} {n : Int} {dr' : Hd} {Q : World → Prop} (h : LX w0 w a D K dr qu N) (hput : (lcells D K dr qu).setIfInBounds s (.int .i64 n) = lcells D K dr' qu) (hs : s < 20)
    (hQ : ∀ w2, w2.heap.size = w.heap.size → LX w0 w2 a D K dr' qu N → Ext [a] w w2 → Q w2) : Sts [.int .i64 n] ⟨a, s, none⟩ 0 w Q :=
  h.store (K' := K) (Ext.refl [] w) (fun y hy => by cases hy) (fun y hy => by cases hy) h.kps (fun y hy => .inl hy) h.bp h.bm h.bi h.bo hput hs rfl hQ
theorem playNums_ok {o : OpV} {ob : Nat} {R : Bool → World → Prop} (h : LX w0 w a D K dr qu N) (oo : Own w ob (opArr o) T_api_Op) (hR : ∀ dr' w', LX w0 w' a D K dr' qu N → R true w') :
    (LdI .i64 ⟨ob, 1, none⟩ w fun x44 => LdI .i64 ⟨ob, 2, none⟩ w fun x46 => LdI .i64 ⟨ob, 3, none⟩ w fun x48 => Pn (some (⟨a, 0, none⟩ : Addr)) fun y => Sts [.int .i64 x44] ((y.add 9).add 2) 0 w fun w2 => w2.cell? ⟨ob, 3, none⟩ = some (.int .i64 x48) ∧ w2.cell? ⟨ob, 2, none⟩ = some (.int .i64 x46) ∧ Pn (some (⟨a, 0, none⟩ : Addr)) fun y1 => Sts [.int .i64 x46] ((y1.add 9).add 3) 0 w2 fun w3 => w3.cell? ⟨ob, 3, none⟩ = some (.int .i64 x48) ∧ Pn (some (⟨a, 0, none⟩ : Addr)) fun y2 => Sts [.int .i64 x48] ((y2.add 9).add 5) 0 w3 fun w4 => R true w4) ∧
    (LdI .i64 ⟨ob, 1, none⟩ w fun x63 => LdI .i64 ⟨ob, 2, none⟩ w fun x65 => Pn (some (⟨a, 0, none⟩ : Addr)) fun y => Sts [.int .i64 x63] (y.add 9) 0 w fun w5 => w5.cell? ⟨ob, 2, none⟩ = some (.int .i64 x65) ∧ Pn (some (⟨a, 0, none⟩ : Addr)) fun y1 => Sts [.int .i64 x65] ((y1.add 9).add 1) 0 w5 fun w6 => R true w6) := by
  have oc : ∀ {w' : World}, Ext [a] w w' → Own w' ob (opArr o) T_api_Op := fun he => ownT he (Tys.one h.own) oo (by decide)
  refine ⟨LdI.mk oo rfl (LdI.mk oo rfl (LdI.mk oo rfl (Pn.mk ?_))), LdI.mk oo rfl (LdI.mk oo rfl (Pn.mk ?_))⟩
  · rw [add_mk, add_mk]
    refine h.draft (dr' := { dr with sq := o.a }) rfl (by omega) fun w2 hs2 h2 he2 => ⟨(oc he2).cell rfl, (oc he2).cell rfl, Pn.mk ?_⟩
    rw [add_mk, add_mk]
    refine h2.draft (dr' := { dr with sq := o.a, ak := o.b }) rfl (by omega) fun w3 hs3 h3 he3 => ⟨(oc (he2.trans he3)).cell rfl, Pn.mk ?_⟩
    rw [add_mk, add_mk]
    exact h3.draft (dr' := { dr with sq := o.a, ak := o.b, wn := o.c }) rfl (by omega) fun w4 hs4 h4 he4 => hR _ w4 h4
  · rw [add_mk]
    refine h.draft (dr' := { dr with sp := o.a }) rfl (by omega) fun w2 hs2 h2 he2 => ⟨(oc he2).cell rfl, Pn.mk ?_⟩
    rw [add_mk, add_mk]
    exact h2.draft (dr' := { dr with sp := o.a, dp := o.b }) rfl (by omega) fun w4 hs4 h4 he4 => hR _ w4 h4
/-- The draft with flags and data. -/
theorem draftSeg {o : OpV} {ob f : Nat} {fl : Int} {Q : Nat → World → Prop} (h : LX w0 w a D K dr qu N) (oo : Own w ob (opArr o) T_api_Op) (hf : (opArr o)[f]? = some (.int .i64 fl))
    (hQ : ∀ s k cc z w', Own w' s #[.int .i64 dr.sp, .int .i64 dr.dp, .int .i64 dr.sq, .int .i64 dr.ak, .int .i64 fl, .int .i64 dr.wn, .slice (some ⟨k, 0, none⟩) o.s.size cc] T_api_Segment → Bf w' k (strB o.s ++ z) → Ext [] w w' → Q s w') :
    Pn (some (⟨a, 0, none⟩ : Addr)) fun y => LdI .i64 (Addr.add y 9) w fun x0 => LdI .i64 ((Addr.add y 9).add 1) w fun x1 => LdI .i64 ((Addr.add y 9).add 2) w fun x2 => LdI .i64 ((Addr.add y 9).add 3) w fun x3 => LdI .i64 ((Addr.add y 9).add 4) w fun x4 => LdI .i64 ((Addr.add y 9).add 5) w fun x5 => LdL ((Addr.add y 9).add 6) w fun x6 x7 x8 =>
      New (.cells #[.int .i64 0, .int .i64 0, .int .i64 0, .int .i64 0, .int .i64 0, .int .i64 0, .slice none 0 0] 45) w fun s_ w1 =>
      Sts [.int .i64 x0, .int .i64 x1, .int .i64 x2, .int .i64 x3, .int .i64 x4, .int .i64 x5, .slice x6 x7 x8] ⟨s_, 0, none⟩ 0 w1 fun w2 =>
      LdI .i64 ⟨ob, f, none⟩ w2 fun x89 => Sts [.int .i64 x89] ⟨s_, 4, none⟩ 0 w2 fun w3 => LdS ⟨ob, 4, none⟩ w3 fun x92 => ToBytes 5 x92 w3 fun b93 c93 w4 =>
      Sts [.slice (some ⟨b93, 0, none⟩) x92.size c93] ⟨s_, 6, none⟩ 0 w4 fun w5 => Q s_ w5 := by
  refine Pn.mk (h.ldDraft (NewSet.mk rfl rfl fun s w2 hs hz2 os he2 => LdI.mk (he2.own oo (by simp)) hf ?_))
  refine Sts.mk os (by simp) rfl fun w3 hs3 o3 he3 => ?_
  have hol := oo.lt
  have sz2 := he2.size
  have oo3 : Own w3 ob (opArr o) T_api_Op := he3.own (he2.own oo (by simp)) (by simp; omega)
  refine LdS.mk oo3 rfl (toBytes_ok fun k cc w4 z hc hk hs4 bf he4 => ?_)
  have o4 := he4.own o3 (by simp)
  refine Sts.mk o4 (by simp [putArr]) rfl fun w5 hs5 o5 he5 => ?_
  have l3 := o3.lt
  refine hQ s k cc z w5 o5 (bf.ext he5 (by simp; omega)) ?_
  exact ((he2.trans' he3 (fun y hy hlt => by simp at hy; omega)).trans he4).trans' he5 (fun y hy hlt => by simp at hy; omega)
theorem poolLd {i : Nat} {e : SegV × Nat} {Q : Int → Int → Int → Int → Int → Int → Option Addr → Nat → Nat → Prop} (h : LX w0 w a D K dr qu N) (hi : K.P[i]? = some e) (hK : Q e.1.1.sp e.1.1.dp e.1.1.sq e.1.1.ak e.1.1.fl e.1.1.wn (some ⟨e.2, 0, none⟩) e.1.2.length e.1.2.length) :
    Pn K.pb fun a => (0 ≤ (i : Int) ∧ (i : Int) < (K.pl : Int)) ∧ LdI .i64 (Addr.add a ((i : Int).toNat * 7)) w fun x0 => LdI .i64 ((Addr.add a ((i : Int).toNat * 7)).add 1) w fun x1 => LdI .i64 ((Addr.add a ((i : Int).toNat * 7)).add 2) w fun x2 => LdI .i64 ((Addr.add a ((i : Int).toNat * 7)).add 3) w fun x3 => LdI .i64 ((Addr.add a ((i : Int).toNat * 7)).add 4) w fun x4 => LdI .i64 ((Addr.add a ((i : Int).toNat * 7)).add 5) w fun x5 => LdL ((Addr.add a ((i : Int).toNat * 7)).add 6) w fun xb xl xc => Q x0 x1 x2 x3 x4 x5 xb xl xc := by
  have hlen := h.kps.prow.1
  have h2 := flat_length segC_len K.P
  have hlt := (List.getElem?_eq_some_iff.1 hi).1
  obtain ⟨k, ek, cs, ho, hc⟩ := h.kps.prow.at (i := i) (by omega) (by omega)
  have g : ∀ j, j < 7 → cs[i * 7 + j]? = (segC e)[j]? := fun j hj => by rw [hc j hj, flat_get segC_len hi hj]
  rw [ek]
  refine Pn.mk ⟨⟨by omega, by omega⟩, ?_⟩
  simp only [Int.toNat_natCast, add_mk, Nat.zero_add]
  exact LdI.mk ho (g 0 (by omega)) (LdI.mk ho (g 1 (by omega)) (LdI.mk ho (g 2 (by omega)) (LdI.mk ho (g 3 (by omega)) (LdI.mk ho (g 4 (by omega)) (LdI.mk ho (g 5 (by omega)) (LdL.mk ho (g 6 (by omega)) hK))))))
theorem poolLen (h : LX w0 w a D K dr qu N) : K.P.length = K.pl := by
  have hlen := h.kps.prow.1
  have h2 := flat_length segC_len K.P
  omega
theorem recv_data {mx : Int} {C : CS} : ∀ g ∈ (recvF mx C).2.G, g.2 = [] := by
  unfold recvF
  repeat' split
  all_goals intro g hg
  all_goals first
    | (cases hg; done)
    | (simp only [List.mem_singleton] at hg; subst hg; rfl)
    | (simp at hg; done)
/-- What both sides took out, and the list behind it. -/
theorem recvEnd {lo hi al ac bl bc gl gc hl hc' : Nat} {ab bb gb hb : Option Addr} {A B : List (SegV × Nat)} {V : List Int} {R : Bool → World → Prop} (q : Both w0 w a D K dr qu N lo hi ab bb al ac bl bc A B) (hN : N ≤ 999999800) (hV : V.length ≤ 16) (hd : ∀ g ∈ A.map (·.1), g.2 = [])
    (hg : (gb = none ∧ gl = 0 ∧ gc = 0 ∧ V = []) ∨ (∃ k, gb = some ⟨k, 0, none⟩ ∧ gl = V.length ∧ gc = V.length ∧ w0.heap.size ≤ k ∧ k < hi ∧ ¬ LF a D K k ∧ Bf w k V)) (hh : Rd w hb V) (hhl : hl = V.length)
    (hR : ∀ D' K' w', LX w0 w' a D' K' dr qu (N + 22) → R true w') :
    api_SameBytes.Call gb gl gc hb hl hc' w fun r334 w29 => connlaw_World_Play.B5 (some ⟨a, 0, none⟩) gb gl gc ab al ac bb bl bc (!r334) w29 R := by
  have rd : Rd w gb V := by
    rcases hg with ⟨rfl, _, _, rfl⟩ | ⟨k, rfl, _, _, _, _, _, b⟩
    · exact Rd.nil _ _
    · exact b.rd0
  have hgl : V.length = gl := by
    rcases hg with ⟨_, rfl, _, rfl⟩ | ⟨k, _, rfl, _⟩
    · rfl
    · rfl
  refine sameBytes_ok rd hh hgl hhl.symm (by omega) fun w1 he1 _ => ?_
  rw [decide_eq_true rfl]
  unfold connlaw_World_Play.B5
  refine Bm.neg rfl ?_
  have q1 := q.ext0 he1
  have nil : V = [] → connlaw_World_Own.Call (some ⟨a, 0, none⟩) gb gl gc w1 fun w1 => connlaw_World_Out.Call (some ⟨a, 0, none⟩) ab al ac bb bl bc w1 fun r343 w2 => R r343 w2 := fun e => by
    have : gc = 0 := by
      rcases hg with ⟨_, _, z, _⟩ | ⟨k, _, _, z, _⟩
      · exact z
      · rw [z, e]; rfl
    subst this
    exact lawOwn_nil (q1.out (by omega) fun D' K' w' h' => hR D' K' w' (h'.mono (by omega)))
  by_cases hne : V = []
  · exact nil hne
  rcases hg with ⟨_, _, _, z⟩ | ⟨k, rfl, rfl, rfl, h0, hk, hf, b⟩
  · exact absurd z hne
  have b1 : Bf w1 k V := b.ext0 he1
  refine lawOwn_ok q1.h (by omega) b1 hf h0 rfl (by omega) fun M' w2 h2 g2 wr2 => ?_
  have ne : ∀ e ∈ A, e.2 ≠ k := fun e he z => by
    have o := (q1.sa.dat e he).1
    rw [hd e.1 (List.mem_map.2 ⟨e, he, rfl⟩), z] at o
    have u := (o.unique b1.1).1
    have : V.length = 0 := by
      have := congrArg Array.size u
      simpa [U8] using this.symm
    exact hne (List.eq_nil_of_length_eq_zero this)
  have rne : ∀ {b : Option Addr} {l c : Nat} {vs : List Value}, Row w1 b l c 7 T_api_Segment vs → ∀ y ∈ rowBlk b, y ≠ k := fun {b l c vs} hr y hy z => by
    obtain ⟨cs, ho⟩ := hr.ty hy
    rw [z] at ho
    exact Own.ne_type ho b1.1 (by decide) rfl
  have up : ∀ {y}, y < w1.heap.size → ¬ LF a D K y → y ≠ k → ¬ LF a D { K with M := M' } y := fun {y} h1 h2 h3 z => by
    rcases g2 y z with z | z | z
    · exact h2 z
    · exact h3 z
    · omega
  refine out_ok h2 (by omega) (q1.sa.wr wr2 (fun y hy z => ?_) (fun e he z => ?_)) (q1.sb.wr wr2 (fun y hy z => ?_) (fun e he z => ?_)) q1.hE q1.hs q1.hal q1.hlo q1.sep (fun e he => up (q1.sa.dat e he).lt (q1.fa e he) (ne e he)) (fun y hy => up (q1.sa.row.lt y hy) (q1.far y hy) (rne q1.sa.row y hy)) (fun y hy => up (q1.sb.row.lt y hy) (q1.fbr y hy) (rne q1.sb.row y hy)) fun K' w' h' => hR D K' w' (h'.mono (by omega))
  · exact z.elim (rne q1.sa.row y hy) (fun z => q1.far y hy z.1)
  · exact z.elim (ne e he) (fun z => q1.fa e he z.1)
  · exact z.elim (rne q1.sb.row y hy) (fun z => q1.fbr y hy z.1)
  · refine z.elim (fun z => ?_) (fun z => z.2 _ (q1.sb.dat e he).1)
    have := q1.sb.ge e he
    omega
end
end Go.Proofs.Qxb6500422aGreat
