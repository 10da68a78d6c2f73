/-
  sock: the table on the heap: cells, loads, stores.
-/
import Derived.Test.Qxb6500424aGreatFs
import Derived.Test.Qxb6500424aGreatVcH
set_option linter.unusedVariables false
open Go.Vc
namespace Go.Proofs.Qxb6500424aGreat.Sk

structure Ent where
  sd : Int
  kind : Int
  lp : Int
  rh : Int
  rp : Int
  slot : Int
  par : Int
  rdy : Bool
structure Row where
  used : Bool
  e : Ent
  next : Int
  kids : Int
  r0 : Int
  r1 : Int
  head : Int
  n : Int
structure Tbl where
  rows : Nat → Row
  free : Int
  bkt : Nat → Int
  port : Nat → Int
  blk : Int
  lis : Int
  nsd : Int
  eph : Int
def zE : Ent := ⟨0, 0, 0, 0, 0, 0, 0, false⟩
def rv (r : Row) : Nat → Value
  | 0 => .bool r.used
  | 1 => .int .i64 r.e.sd
  | 2 => .int .i64 r.e.kind
  | 3 => .int .i64 r.e.lp
  | 4 => .int .i64 r.e.rh
  | 5 => .int .i64 r.e.rp
  | 6 => .int .i64 r.e.slot
  | 7 => .int .i64 r.e.par
  | 8 => .bool r.e.rdy
  | 9 => .int .i64 r.next
  | 10 => .int .i64 r.kids
  | 11 => .int .i64 r.r0
  | 12 => .int .i64 r.r1
  | 13 => .int .i64 r.head
  | 14 => .int .i64 r.n
  | _ => undef
def rowVs (r : Row) : List Value := [.bool r.used, .int .i64 r.e.sd, .int .i64 r.e.kind, .int .i64 r.e.lp, .int .i64 r.e.rh, .int .i64 r.e.rp, .int .i64 r.e.slot, .int .i64 r.e.par, .bool r.e.rdy, .int .i64 r.next, .int .i64 r.kids, .int .i64 r.r0, .int .i64 r.r1, .int .i64 r.head, .int .i64 r.n]
def entVs (e : Ent) : List Value := [.int .i64 e.sd, .int .i64 e.kind, .int .i64 e.lp, .int .i64 e.rh, .int .i64 e.rp, .int .i64 e.slot, .int .i64 e.par, .bool e.rdy]
def tF (T : Tbl) (o : Nat) : Value := if o < 90 then rv (T.rows (o / 15)) (o % 15) else if o = 90 then .int .i64 T.free else if o < 95 then .int .i64 (T.bkt (o - 91)) else if o < 103 then .int .i64 (T.port (o - 95)) else if o = 103 then .int .u8 T.blk else if o = 104 then .int .i64 T.lis else if o = 105 then .int .i64 T.nsd else .int .i64 T.eph
def TAt (w : World) (b : Nat) (T : Tbl) : Prop := Own w b (fnArr 107 (tF T)) T_sock_Table
def updR (T : Tbl) (i : Nat) (r : Row) : Tbl := { T with rows := fun j => if j = i then r else T.rows j }
theorem updR_eq (T : Tbl) (i : Nat) (r : Row) : (updR T i r).rows i = r := by simp [updR]
theorem updR_ne {T : Tbl} {i j : Nat} {r : Row} (h : j ≠ i) : (updR T i r).rows j = T.rows j := by simp [updR, h]
def updN (f : Nat → Int) (i : Nat) (v : Int) : Nat → Int := fun j => if j = i then v else f j
theorem updN_eq (f : Nat → Int) (i : Nat) (v : Int) : updN f i v i = v := by simp [updN]
theorem updN_ne {f : Nat → Int} {i j : Nat} {v : Int} (h : j ≠ i) : updN f i v j = f j := by simp [updN, h]
theorem tF_row {T : Tbl} {i j : Nat} (hi : i < 6) (hj : j < 15) : tF T (i * 15 + j) = rv (T.rows i) j := by
  unfold tF
  rw [if_pos (by omega), show (i * 15 + j) / 15 = i by omega, show (i * 15 + j) % 15 = j by omega]
section
variable {w : World} {b : Nat} {T : Tbl}
theorem TAt.ext {w' : World} {S : List Nat} (h : TAt w b T) (he : Ext S w w') (hb : b ∉ S) : TAt w' b T := he.own h hb
theorem TAt.ext0 {w' : World} (h : TAt w b T) (he : Ext [] w w') : TAt w' b T := he.own h (by simp)
theorem TAt.drew (h : TAt w b T) : TAt w.drew b T := Own.drew h
theorem TAt.lt (h : TAt w b T) : b < w.heap.size := Own.lt h
theorem TAt.ldI {A : Addr} {o : Nat} {v : Int} {K : Int → Prop} (h : TAt w b T) (hA : A = ⟨b, o, none⟩) (ho : o < 107) (hv : tF T o = .int .i64 v) (hk : K v) : LdI .i64 A w K := by
  subst hA
  exact LdI.fn h ho hv hk
theorem TAt.ldRI {A : Addr} {i j : Nat} {v : Int} {K : Int → Prop} (h : TAt w b T) (hi : i < 6) (hj : j < 15) (hA : A = ⟨b, i * 15 + j, none⟩) (hv : rv (T.rows i) j = .int .i64 v) (hk : K v) : LdI .i64 A w K :=
  h.ldI hA (by omega) (by rw [tF_row hi hj, hv]) hk
theorem TAt.ldRB {A : Addr} {i j : Nat} {v : Bool} {K : Bool → Prop} (h : TAt w b T) (hi : i < 6) (hj : j < 15) (hA : A = ⟨b, i * 15 + j, none⟩) (hv : rv (T.rows i) j = .bool v) (hk : K v) : LdB A w K := by
  subst hA
  exact LdB.fn h (by omega) (by rw [tF_row hi hj, hv]) hk
theorem TAt.stR {A : Addr} {i j : Nat} {vs : List Value} {K : World → Prop} (r : Row) (h : TAt w b T) (hi : i < 6) (hj : j + vs.length ≤ 15) (h1 : vs.all Value.oneCell' = true) (hA : A = ⟨b, i * 15 + j, none⟩) (hr : ∀ k, k < 15 → fnPut (rv (T.rows i)) j vs k = rv r k)
    (hk : ∀ w', w'.heap.size = w.heap.size → TAt w' b (updR T i r) → Ext [b] w w' → K w') : Sts vs A 0 w K := by
  subst hA
  refine Sts.fn (g := tF (updR T i r)) h (by omega) h1 (fun o ho => ?_) hk
  by_cases hc : i * 15 ≤ o ∧ o < i * 15 + 15
  · obtain ⟨k, rfl, hk15⟩ : ∃ k, o = i * 15 + k ∧ k < 15 := ⟨o - i * 15, by omega, by omega⟩
    rw [tF_row hi hk15, updR_eq, ← hr k hk15]
    unfold fnPut
    by_cases hc2 : j ≤ k ∧ k < j + vs.length
    · rw [if_pos (by omega), if_pos hc2, show i * 15 + k - (i * 15 + j) = k - j by omega]
    · rw [if_neg (by omega), if_neg hc2, tF_row hi hk15]
  · unfold fnPut
    rw [if_neg (by omega)]
    unfold tF
    by_cases h90 : o < 90
    · rw [if_pos h90, if_pos h90, updR_ne (by omega)]
    · rw [if_neg h90, if_neg h90]
      rfl
theorem TAt.ldUsed {i : Nat} {K : Bool → Prop} (h : TAt w b T) (hi : i < 6) (hk : K (T.rows i).used) : LdB (Addr.add ⟨b, 0, none⟩ ((i : Int).toNat * 15)) w K :=
  h.ldRB (j := 0) hi (by omega) (by simp [add_mk]) rfl hk
theorem TAt.stUsed {i : Nat} {x : Bool} {K : World → Prop} (h : TAt w b T) (hi : i < 6) (hk : ∀ w', w'.heap.size = w.heap.size → TAt w' b (updR T i { T.rows i with used := x }) → Ext [b] w w' → K w') : Sts [.bool x] (Addr.add ⟨b, 0, none⟩ ((i : Int).toNat * 15)) 0 w K :=
  h.stR (j := 0) { T.rows i with used := x } hi (by simp) rfl (by simp [add_mk]) (fun k hk => by
    match k, hk with
    | 0, _ | 1, _ | 2, _ | 3, _ | 4, _ | 5, _ | 6, _ | 7, _ | 8, _ | 9, _ | 10, _ | 11, _ | 12, _ | 13, _ | 14, _ => rfl) hk
theorem TAt.ldSd {i : Nat} {K : Int → Prop} (h : TAt w b T) (hi : i < 6) (hk : K (T.rows i).e.sd) : LdI .i64 ((Addr.add ⟨b, 0, none⟩ ((i : Int).toNat * 15)).add 1) w K :=
  h.ldRI (j := 1) hi (by omega) (by simp [add_mk]) rfl hk
theorem TAt.stSd {i : Nat} {x : Int} {K : World → Prop} (h : TAt w b T) (hi : i < 6) (hk : ∀ w', w'.heap.size = w.heap.size → TAt w' b (updR T i { T.rows i with e := { (T.rows i).e with sd := x } }) → Ext [b] w w' → K w') : Sts [.int .i64 x] ((Addr.add ⟨b, 0, none⟩ ((i : Int).toNat * 15)).add 1) 0 w K :=
  h.stR (j := 1) { T.rows i with e := { (T.rows i).e with sd := x } } hi (by simp) rfl (by simp [add_mk]) (fun k hk => by
    match k, hk with
    | 0, _ | 1, _ | 2, _ | 3, _ | 4, _ | 5, _ | 6, _ | 7, _ | 8, _ | 9, _ | 10, _ | 11, _ | 12, _ | 13, _ | 14, _ => rfl) hk
theorem TAt.ldKind {i : Nat} {K : Int → Prop} (h : TAt w b T) (hi : i < 6) (hk : K (T.rows i).e.kind) : LdI .i64 (((Addr.add ⟨b, 0, none⟩ ((i : Int).toNat * 15)).add 1).add 1) w K :=
  h.ldRI (j := 2) hi (by omega) (by simp [add_mk]) rfl hk
theorem TAt.stKind {i : Nat} {x : Int} {K : World → Prop} (h : TAt w b T) (hi : i < 6) (hk : ∀ w', w'.heap.size = w.heap.size → TAt w' b (updR T i { T.rows i with e := { (T.rows i).e with kind := x } }) → Ext [b] w w' → K w') : Sts [.int .i64 x] (((Addr.add ⟨b, 0, none⟩ ((i : Int).toNat * 15)).add 1).add 1) 0 w K :=
  h.stR (j := 2) { T.rows i with e := { (T.rows i).e with kind := x } } hi (by simp) rfl (by simp [add_mk]) (fun k hk => by
    match k, hk with
    | 0, _ | 1, _ | 2, _ | 3, _ | 4, _ | 5, _ | 6, _ | 7, _ | 8, _ | 9, _ | 10, _ | 11, _ | 12, _ | 13, _ | 14, _ => rfl) hk
theorem TAt.ldLp {i : Nat} {K : Int → Prop} (h : TAt w b T) (hi : i < 6) (hk : K (T.rows i).e.lp) : LdI .i64 (((Addr.add ⟨b, 0, none⟩ ((i : Int).toNat * 15)).add 1).add 2) w K :=
  h.ldRI (j := 3) hi (by omega) (by simp [add_mk]) rfl hk
theorem TAt.stLp {i : Nat} {x : Int} {K : World → Prop} (h : TAt w b T) (hi : i < 6) (hk : ∀ w', w'.heap.size = w.heap.size → TAt w' b (updR T i { T.rows i with e := { (T.rows i).e with lp := x } }) → Ext [b] w w' → K w') : Sts [.int .i64 x] (((Addr.add ⟨b, 0, none⟩ ((i : Int).toNat * 15)).add 1).add 2) 0 w K :=
  h.stR (j := 3) { T.rows i with e := { (T.rows i).e with lp := x } } hi (by simp) rfl (by simp [add_mk]) (fun k hk => by
    match k, hk with
    | 0, _ | 1, _ | 2, _ | 3, _ | 4, _ | 5, _ | 6, _ | 7, _ | 8, _ | 9, _ | 10, _ | 11, _ | 12, _ | 13, _ | 14, _ => rfl) hk
theorem TAt.ldRh {i : Nat} {K : Int → Prop} (h : TAt w b T) (hi : i < 6) (hk : K (T.rows i).e.rh) : LdI .i64 (((Addr.add ⟨b, 0, none⟩ ((i : Int).toNat * 15)).add 1).add 3) w K :=
  h.ldRI (j := 4) hi (by omega) (by simp [add_mk]) rfl hk
theorem TAt.stRh {i : Nat} {x : Int} {K : World → Prop} (h : TAt w b T) (hi : i < 6) (hk : ∀ w', w'.heap.size = w.heap.size → TAt w' b (updR T i { T.rows i with e := { (T.rows i).e with rh := x } }) → Ext [b] w w' → K w') : Sts [.int .i64 x] (((Addr.add ⟨b, 0, none⟩ ((i : Int).toNat * 15)).add 1).add 3) 0 w K :=
  h.stR (j := 4) { T.rows i with e := { (T.rows i).e with rh := x } } hi (by simp) rfl (by simp [add_mk]) (fun k hk => by
    match k, hk with
    | 0, _ | 1, _ | 2, _ | 3, _ | 4, _ | 5, _ | 6, _ | 7, _ | 8, _ | 9, _ | 10, _ | 11, _ | 12, _ | 13, _ | 14, _ => rfl) hk
theorem TAt.ldRp {i : Nat} {K : Int → Prop} (h : TAt w b T) (hi : i < 6) (hk : K (T.rows i).e.rp) : LdI .i64 (((Addr.add ⟨b, 0, none⟩ ((i : Int).toNat * 15)).add 1).add 4) w K :=
  h.ldRI (j := 5) hi (by omega) (by simp [add_mk]) rfl hk
theorem TAt.stRp {i : Nat} {x : Int} {K : World → Prop} (h : TAt w b T) (hi : i < 6) (hk : ∀ w', w'.heap.size = w.heap.size → TAt w' b (updR T i { T.rows i with e := { (T.rows i).e with rp := x } }) → Ext [b] w w' → K w') : Sts [.int .i64 x] (((Addr.add ⟨b, 0, none⟩ ((i : Int).toNat * 15)).add 1).add 4) 0 w K :=
  h.stR (j := 5) { T.rows i with e := { (T.rows i).e with rp := x } } hi (by simp) rfl (by simp [add_mk]) (fun k hk => by
    match k, hk with
    | 0, _ | 1, _ | 2, _ | 3, _ | 4, _ | 5, _ | 6, _ | 7, _ | 8, _ | 9, _ | 10, _ | 11, _ | 12, _ | 13, _ | 14, _ => rfl) hk
theorem TAt.ldSlot {i : Nat} {K : Int → Prop} (h : TAt w b T) (hi : i < 6) (hk : K (T.rows i).e.slot) : LdI .i64 (((Addr.add ⟨b, 0, none⟩ ((i : Int).toNat * 15)).add 1).add 5) w K :=
  h.ldRI (j := 6) hi (by omega) (by simp [add_mk]) rfl hk
theorem TAt.stSlot {i : Nat} {x : Int} {K : World → Prop} (h : TAt w b T) (hi : i < 6) (hk : ∀ w', w'.heap.size = w.heap.size → TAt w' b (updR T i { T.rows i with e := { (T.rows i).e with slot := x } }) → Ext [b] w w' → K w') : Sts [.int .i64 x] (((Addr.add ⟨b, 0, none⟩ ((i : Int).toNat * 15)).add 1).add 5) 0 w K :=
  h.stR (j := 6) { T.rows i with e := { (T.rows i).e with slot := x } } hi (by simp) rfl (by simp [add_mk]) (fun k hk => by
    match k, hk with
    | 0, _ | 1, _ | 2, _ | 3, _ | 4, _ | 5, _ | 6, _ | 7, _ | 8, _ | 9, _ | 10, _ | 11, _ | 12, _ | 13, _ | 14, _ => rfl) hk
theorem TAt.ldPar {i : Nat} {K : Int → Prop} (h : TAt w b T) (hi : i < 6) (hk : K (T.rows i).e.par) : LdI .i64 (((Addr.add ⟨b, 0, none⟩ ((i : Int).toNat * 15)).add 1).add 6) w K :=
  h.ldRI (j := 7) hi (by omega) (by simp [add_mk]) rfl hk
theorem TAt.stPar {i : Nat} {x : Int} {K : World → Prop} (h : TAt w b T) (hi : i < 6) (hk : ∀ w', w'.heap.size = w.heap.size → TAt w' b (updR T i { T.rows i with e := { (T.rows i).e with par := x } }) → Ext [b] w w' → K w') : Sts [.int .i64 x] (((Addr.add ⟨b, 0, none⟩ ((i : Int).toNat * 15)).add 1).add 6) 0 w K :=
  h.stR (j := 7) { T.rows i with e := { (T.rows i).e with par := x } } hi (by simp) rfl (by simp [add_mk]) (fun k hk => by
    match k, hk with
    | 0, _ | 1, _ | 2, _ | 3, _ | 4, _ | 5, _ | 6, _ | 7, _ | 8, _ | 9, _ | 10, _ | 11, _ | 12, _ | 13, _ | 14, _ => rfl) hk
theorem TAt.ldRdy {i : Nat} {K : Bool → Prop} (h : TAt w b T) (hi : i < 6) (hk : K (T.rows i).e.rdy) : LdB (((Addr.add ⟨b, 0, none⟩ ((i : Int).toNat * 15)).add 1).add 7) w K :=
  h.ldRB (j := 8) hi (by omega) (by simp [add_mk]) rfl hk
theorem TAt.stRdy {i : Nat} {x : Bool} {K : World → Prop} (h : TAt w b T) (hi : i < 6) (hk : ∀ w', w'.heap.size = w.heap.size → TAt w' b (updR T i { T.rows i with e := { (T.rows i).e with rdy := x } }) → Ext [b] w w' → K w') : Sts [.bool x] (((Addr.add ⟨b, 0, none⟩ ((i : Int).toNat * 15)).add 1).add 7) 0 w K :=
  h.stR (j := 8) { T.rows i with e := { (T.rows i).e with rdy := x } } hi (by simp) rfl (by simp [add_mk]) (fun k hk => by
    match k, hk with
    | 0, _ | 1, _ | 2, _ | 3, _ | 4, _ | 5, _ | 6, _ | 7, _ | 8, _ | 9, _ | 10, _ | 11, _ | 12, _ | 13, _ | 14, _ => rfl) hk
theorem TAt.ldNext {i : Nat} {K : Int → Prop} (h : TAt w b T) (hi : i < 6) (hk : K (T.rows i).next) : LdI .i64 ((Addr.add ⟨b, 0, none⟩ ((i : Int).toNat * 15)).add 9) w K :=
  h.ldRI (j := 9) hi (by omega) (by simp [add_mk]) rfl hk
theorem TAt.stNext {i : Nat} {x : Int} {K : World → Prop} (h : TAt w b T) (hi : i < 6) (hk : ∀ w', w'.heap.size = w.heap.size → TAt w' b (updR T i { T.rows i with next := x }) → Ext [b] w w' → K w') : Sts [.int .i64 x] ((Addr.add ⟨b, 0, none⟩ ((i : Int).toNat * 15)).add 9) 0 w K :=
  h.stR (j := 9) { T.rows i with next := x } hi (by simp) rfl (by simp [add_mk]) (fun k hk => by
    match k, hk with
    | 0, _ | 1, _ | 2, _ | 3, _ | 4, _ | 5, _ | 6, _ | 7, _ | 8, _ | 9, _ | 10, _ | 11, _ | 12, _ | 13, _ | 14, _ => rfl) hk
theorem TAt.ldKids {i : Nat} {K : Int → Prop} (h : TAt w b T) (hi : i < 6) (hk : K (T.rows i).kids) : LdI .i64 ((Addr.add ⟨b, 0, none⟩ ((i : Int).toNat * 15)).add 10) w K :=
  h.ldRI (j := 10) hi (by omega) (by simp [add_mk]) rfl hk
theorem TAt.stKids {i : Nat} {x : Int} {K : World → Prop} (h : TAt w b T) (hi : i < 6) (hk : ∀ w', w'.heap.size = w.heap.size → TAt w' b (updR T i { T.rows i with kids := x }) → Ext [b] w w' → K w') : Sts [.int .i64 x] ((Addr.add ⟨b, 0, none⟩ ((i : Int).toNat * 15)).add 10) 0 w K :=
  h.stR (j := 10) { T.rows i with kids := x } hi (by simp) rfl (by simp [add_mk]) (fun k hk => by
    match k, hk with
    | 0, _ | 1, _ | 2, _ | 3, _ | 4, _ | 5, _ | 6, _ | 7, _ | 8, _ | 9, _ | 10, _ | 11, _ | 12, _ | 13, _ | 14, _ => rfl) hk
theorem TAt.ldHead {i : Nat} {K : Int → Prop} (h : TAt w b T) (hi : i < 6) (hk : K (T.rows i).head) : LdI .i64 ((Addr.add ⟨b, 0, none⟩ ((i : Int).toNat * 15)).add 13) w K :=
  h.ldRI (j := 13) hi (by omega) (by simp [add_mk]) rfl hk
theorem TAt.stHead {i : Nat} {x : Int} {K : World → Prop} (h : TAt w b T) (hi : i < 6) (hk : ∀ w', w'.heap.size = w.heap.size → TAt w' b (updR T i { T.rows i with head := x }) → Ext [b] w w' → K w') : Sts [.int .i64 x] ((Addr.add ⟨b, 0, none⟩ ((i : Int).toNat * 15)).add 13) 0 w K :=
  h.stR (j := 13) { T.rows i with head := x } hi (by simp) rfl (by simp [add_mk]) (fun k hk => by
    match k, hk with
    | 0, _ | 1, _ | 2, _ | 3, _ | 4, _ | 5, _ | 6, _ | 7, _ | 8, _ | 9, _ | 10, _ | 11, _ | 12, _ | 13, _ | 14, _ => rfl) hk
theorem TAt.ldN {i : Nat} {K : Int → Prop} (h : TAt w b T) (hi : i < 6) (hk : K (T.rows i).n) : LdI .i64 ((Addr.add ⟨b, 0, none⟩ ((i : Int).toNat * 15)).add 14) w K :=
  h.ldRI (j := 14) hi (by omega) (by simp [add_mk]) rfl hk
theorem TAt.stN {i : Nat} {x : Int} {K : World → Prop} (h : TAt w b T) (hi : i < 6) (hk : ∀ w', w'.heap.size = w.heap.size → TAt w' b (updR T i { T.rows i with n := x }) → Ext [b] w w' → K w') : Sts [.int .i64 x] ((Addr.add ⟨b, 0, none⟩ ((i : Int).toNat * 15)).add 14) 0 w K :=
  h.stR (j := 14) { T.rows i with n := x } hi (by simp) rfl (by simp [add_mk]) (fun k hk => by
    match k, hk with
    | 0, _ | 1, _ | 2, _ | 3, _ | 4, _ | 5, _ | 6, _ | 7, _ | 8, _ | 9, _ | 10, _ | 11, _ | 12, _ | 13, _ | 14, _ => rfl) hk
def rg (r : Row) (k : Nat) : Int := if k = 0 then r.r0 else r.r1
def setRg (r : Row) (k : Nat) (x : Int) : Row := if k = 0 then { r with r0 := x } else { r with r1 := x }
theorem TAt.ldRing {i k : Nat} {K : Int → Prop} (h : TAt w b T) (hi : i < 6) (hk2 : k < 2) (hk : K (rg (T.rows i) k)) : LdI .i64 (Addr.add ((Addr.add ⟨b, 0, none⟩ ((i : Int).toNat * 15)).add 11) ((k : Int).toNat * 1)) w K :=
  h.ldRI (j := 11 + k) hi (by omega) (by simp [add_mk, Nat.add_assoc]) (by
    match k, hk2 with
    | 0, _ | 1, _ => rfl) hk
theorem TAt.stRing {i k : Nat} {x : Int} {K : World → Prop} (h : TAt w b T) (hi : i < 6) (hk2 : k < 2) (hk : ∀ w', w'.heap.size = w.heap.size → TAt w' b (updR T i (setRg (T.rows i) k x)) → Ext [b] w w' → K w') : Sts [.int .i64 x] (Addr.add ((Addr.add ⟨b, 0, none⟩ ((i : Int).toNat * 15)).add 11) ((k : Int).toNat * 1)) 0 w K :=
  h.stR (j := 11 + k) (setRg (T.rows i) k x) hi (by simp; omega) rfl (by simp [add_mk, Nat.add_assoc]) (fun q hq => by
    have : k = 0 ∨ k = 1 := by omega
    rcases this with rfl | rfl <;>
    · match q, hq with
      | 0, _ | 1, _ | 2, _ | 3, _ | 4, _ | 5, _ | 6, _ | 7, _ | 8, _ | 9, _ | 10, _ | 11, _ | 12, _ | 13, _ | 14, _ => rfl) hk
theorem TAt.stAll {i : Nat} {r : Row} {K : World → Prop} (h : TAt w b T) (hi : i < 6) (hk : ∀ w', w'.heap.size = w.heap.size → TAt w' b (updR T i r) → Ext [b] w w' → K w') : Sts (rowVs r) (Addr.add ⟨b, 0, none⟩ ((i : Int).toNat * 15)) 0 w K :=
  h.stR (j := 0) r hi (by simp [rowVs]) rfl (by simp [add_mk]) (fun q hq => by
    match q, hq with
    | 0, _ | 1, _ | 2, _ | 3, _ | 4, _ | 5, _ | 6, _ | 7, _ | 8, _ | 9, _ | 10, _ | 11, _ | 12, _ | 13, _ | 14, _ => rfl) hk
theorem TAt.stEnt {i : Nat} {e : Ent} {K : World → Prop} (h : TAt w b T) (hi : i < 6) (hk : ∀ w', w'.heap.size = w.heap.size → TAt w' b (updR T i { T.rows i with e := e }) → Ext [b] w w' → K w') : Sts (entVs e) ((Addr.add ⟨b, 0, none⟩ ((i : Int).toNat * 15)).add 1) 0 w K :=
  h.stR (j := 1) { T.rows i with e := e } hi (by simp [entVs]) rfl (by simp [add_mk]) (fun q hq => by
    match q, hq with
    | 0, _ | 1, _ | 2, _ | 3, _ | 4, _ | 5, _ | 6, _ | 7, _ | 8, _ | 9, _ | 10, _ | 11, _ | 12, _ | 13, _ | 14, _ => rfl) hk
theorem TAt.ldEnt {i : Nat} {K : Int → Int → Int → Int → Int → Int → Int → Bool → Prop} (h : TAt w b T) (hi : i < 6) (hk : K (T.rows i).e.sd (T.rows i).e.kind (T.rows i).e.lp (T.rows i).e.rh (T.rows i).e.rp (T.rows i).e.slot (T.rows i).e.par (T.rows i).e.rdy) :
    LdI .i64 ((Addr.add ⟨b, 0, none⟩ ((i : Int).toNat * 15)).add 1) w fun x0 => LdI .i64 (((Addr.add ⟨b, 0, none⟩ ((i : Int).toNat * 15)).add 1).add 1) w fun x1 => LdI .i64 (((Addr.add ⟨b, 0, none⟩ ((i : Int).toNat * 15)).add 1).add 2) w fun x2 => LdI .i64 (((Addr.add ⟨b, 0, none⟩ ((i : Int).toNat * 15)).add 1).add 3) w fun x3 => LdI .i64 (((Addr.add ⟨b, 0, none⟩ ((i : Int).toNat * 15)).add 1).add 4) w fun x4 => LdI .i64 (((Addr.add ⟨b, 0, none⟩ ((i : Int).toNat * 15)).add 1).add 5) w fun x5 => LdI .i64 (((Addr.add ⟨b, 0, none⟩ ((i : Int).toNat * 15)).add 1).add 6) w fun x6 => LdB (((Addr.add ⟨b, 0, none⟩ ((i : Int).toNat * 15)).add 1).add 7) w fun x7 => K x0 x1 x2 x3 x4 x5 x6 x7 :=
  h.ldSd hi (h.ldKind hi (h.ldLp hi (h.ldRh hi (h.ldRp hi (h.ldSlot hi (h.ldPar hi (h.ldRdy hi hk)))))))
/-! ### the table's own cells -/
theorem TAt.ldFree {K : Int → Prop} (h : TAt w b T) (hk : K T.free) : LdI .i64 (Addr.add ⟨b, 0, none⟩ 90) w K := h.ldI (o := 90) (by simp [add_mk]) (by omega) rfl hk
theorem TAt.ldBkt {i : Nat} {K : Int → Prop} (h : TAt w b T) (hi : i < 4) (hk : K (T.bkt i)) : LdI .i64 (Addr.add (Addr.add ⟨b, 0, none⟩ 91) ((i : Int).toNat * 1)) w K := h.ldI (o := 91 + i) (by simp [add_mk]) (by omega) (by
  unfold tF
  rw [if_neg (by omega), if_neg (by omega), if_pos (by omega), show 91 + i - 91 = i by omega]) hk
theorem TAt.ldPort {i : Nat} {K : Int → Prop} (h : TAt w b T) (hi : i < 8) (hk : K (T.port i)) : LdI .i64 (Addr.add (Addr.add ⟨b, 0, none⟩ 95) ((i : Int).toNat * 1)) w K := h.ldI (o := 95 + i) (by simp [add_mk]) (by omega) (by
  unfold tF
  rw [if_neg (by omega), if_neg (by omega), if_neg (by omega), if_pos (by omega), show 95 + i - 95 = i by omega]) hk
theorem TAt.ldBlk {K : Int → Prop} (h : TAt w b T) (hk : K T.blk) : LdI .u8 (Addr.add ⟨b, 0, none⟩ 103) w K := by
  rw [add_mk]
  exact LdI.fn (o := 103) h (by omega) rfl hk
theorem TAt.ldLis {K : Int → Prop} (h : TAt w b T) (hk : K T.lis) : LdI .i64 (Addr.add ⟨b, 0, none⟩ 104) w K := h.ldI (o := 104) (by simp [add_mk]) (by omega) rfl hk
theorem TAt.ldNsd {K : Int → Prop} (h : TAt w b T) (hk : K T.nsd) : LdI .i64 (Addr.add ⟨b, 0, none⟩ 105) w K := h.ldI (o := 105) (by simp [add_mk]) (by omega) rfl hk
theorem TAt.ldEph {K : Int → Prop} (h : TAt w b T) (hk : K T.eph) : LdI .i64 (Addr.add ⟨b, 0, none⟩ 106) w K := h.ldI (o := 106) (by simp [add_mk]) (by omega) rfl hk
theorem TAt.cellBlk (h : TAt w b T) : w.cell? (Addr.add ⟨b, 0, none⟩ 103) = some (.int .u8 T.blk) := by
  rw [add_mk]
  exact Own.cell h (fnArr_get (o := 103) _ (by omega))
theorem tF_hi {T T' : Tbl} (hr : T'.rows = T.rows) {o q : Nat} {v : Value} (hq : 90 ≤ q) (h : ∀ k, 90 ≤ k → k < 107 → (if k = q then v else tF T k) = tF T' k) (ho : o < 107) : fnPut (tF T) q [v] o = tF T' o := by
  unfold fnPut
  by_cases e : o = q
  · subst e
    rw [if_pos (by simp), ← h o hq ho, if_pos rfl]
    simp
  · rw [if_neg (by simp; omega)]
    by_cases h90 : 90 ≤ o
    · rw [← h o h90 ho, if_neg e]
    · unfold tF
      rw [if_pos (by omega), if_pos (by omega), hr]
theorem TAt.stHi {A : Addr} {q : Nat} {v : Value} {K : World → Prop} (T' : Tbl) (h : TAt w b T) (hq : 90 ≤ q) (hq2 : q < 107) (h1 : [v].all Value.oneCell' = true) (hA : A = ⟨b, q, none⟩) (hr : T'.rows = T.rows) (hh : ∀ k, 90 ≤ k → k < 107 → (if k = q then v else tF T k) = tF T' k)
    (hk : ∀ w', w'.heap.size = w.heap.size → TAt w' b T' → Ext [b] w w' → K w') : Sts [v] A 0 w K := by
  subst hA
  exact Sts.fn (g := tF T') h (by simp; omega) h1 (fun o ho => tF_hi hr hq hh ho) hk
theorem TAt.stFree {x : Int} {K : World → Prop} (h : TAt w b T) (hk : ∀ w', w'.heap.size = w.heap.size → TAt w' b { T with free := x } → Ext [b] w w' → K w') : Sts [.int .i64 x] (Addr.add ⟨b, 0, none⟩ 90) 0 w K :=
  h.stHi (q := 90) { T with free := x } (by omega) (by omega) rfl (by simp [add_mk]) rfl (fun k h1 h2 => by
    obtain ⟨d, rfl, hd⟩ : ∃ d, k = 90 + d ∧ d < 17 := ⟨k - 90, by omega, by omega⟩
    clear h1 h2
    match d, hd with
    | 0, _ | 1, _ | 2, _ | 3, _ | 4, _ | 5, _ | 6, _ | 7, _ | 8, _ | 9, _ | 10, _ | 11, _ | 12, _ | 13, _ | 14, _ | 15, _ | 16, _ => rfl
    | d + 17, h => omega) hk
theorem TAt.stBlk {x : Int} {K : World → Prop} (h : TAt w b T) (hk : ∀ w', w'.heap.size = w.heap.size → TAt w' b { T with blk := x } → Ext [b] w w' → K w') : Sts [.int .u8 x] (Addr.add ⟨b, 0, none⟩ 103) 0 w K :=
  h.stHi (q := 103) { T with blk := x } (by omega) (by omega) rfl (by simp [add_mk]) rfl (fun k h1 h2 => by
    obtain ⟨d, rfl, hd⟩ : ∃ d, k = 90 + d ∧ d < 17 := ⟨k - 90, by omega, by omega⟩
    clear h1 h2
    match d, hd with
    | 0, _ | 1, _ | 2, _ | 3, _ | 4, _ | 5, _ | 6, _ | 7, _ | 8, _ | 9, _ | 10, _ | 11, _ | 12, _ | 13, _ | 14, _ | 15, _ | 16, _ => rfl
    | d + 17, h => omega) hk
theorem TAt.stLis {x : Int} {K : World → Prop} (h : TAt w b T) (hk : ∀ w', w'.heap.size = w.heap.size → TAt w' b { T with lis := x } → Ext [b] w w' → K w') : Sts [.int .i64 x] (Addr.add ⟨b, 0, none⟩ 104) 0 w K :=
  h.stHi (q := 104) { T with lis := x } (by omega) (by omega) rfl (by simp [add_mk]) rfl (fun k h1 h2 => by
    obtain ⟨d, rfl, hd⟩ : ∃ d, k = 90 + d ∧ d < 17 := ⟨k - 90, by omega, by omega⟩
    clear h1 h2
    match d, hd with
    | 0, _ | 1, _ | 2, _ | 3, _ | 4, _ | 5, _ | 6, _ | 7, _ | 8, _ | 9, _ | 10, _ | 11, _ | 12, _ | 13, _ | 14, _ | 15, _ | 16, _ => rfl
    | d + 17, h => omega) hk
theorem TAt.stNsd {x : Int} {K : World → Prop} (h : TAt w b T) (hk : ∀ w', w'.heap.size = w.heap.size → TAt w' b { T with nsd := x } → Ext [b] w w' → K w') : Sts [.int .i64 x] (Addr.add ⟨b, 0, none⟩ 105) 0 w K :=
  h.stHi (q := 105) { T with nsd := x } (by omega) (by omega) rfl (by simp [add_mk]) rfl (fun k h1 h2 => by
    obtain ⟨d, rfl, hd⟩ : ∃ d, k = 90 + d ∧ d < 17 := ⟨k - 90, by omega, by omega⟩
    clear h1 h2
    match d, hd with
    | 0, _ | 1, _ | 2, _ | 3, _ | 4, _ | 5, _ | 6, _ | 7, _ | 8, _ | 9, _ | 10, _ | 11, _ | 12, _ | 13, _ | 14, _ | 15, _ | 16, _ => rfl
    | d + 17, h => omega) hk
theorem TAt.stEph {x : Int} {K : World → Prop} (h : TAt w b T) (hk : ∀ w', w'.heap.size = w.heap.size → TAt w' b { T with eph := x } → Ext [b] w w' → K w') : Sts [.int .i64 x] (Addr.add ⟨b, 0, none⟩ 106) 0 w K :=
  h.stHi (q := 106) { T with eph := x } (by omega) (by omega) rfl (by simp [add_mk]) rfl (fun k h1 h2 => by
    obtain ⟨d, rfl, hd⟩ : ∃ d, k = 90 + d ∧ d < 17 := ⟨k - 90, by omega, by omega⟩
    clear h1 h2
    match d, hd with
    | 0, _ | 1, _ | 2, _ | 3, _ | 4, _ | 5, _ | 6, _ | 7, _ | 8, _ | 9, _ | 10, _ | 11, _ | 12, _ | 13, _ | 14, _ | 15, _ | 16, _ => rfl
    | d + 17, h => omega) hk
theorem TAt.stBkt {i : Nat} {x : Int} {K : World → Prop} (h : TAt w b T) (hi : i < 4) (hk : ∀ w', w'.heap.size = w.heap.size → TAt w' b { T with bkt := updN T.bkt i x } → Ext [b] w w' → K w') : Sts [.int .i64 x] (Addr.add (Addr.add ⟨b, 0, none⟩ 91) ((i : Int).toNat * 1)) 0 w K :=
  h.stHi (q := 91 + i) { T with bkt := updN T.bkt i x } (by omega) (by omega) rfl (by simp [add_mk]) rfl (fun k h1 h2 => by
    obtain ⟨d, rfl, hd⟩ : ∃ d, k = 90 + d ∧ d < 17 := ⟨k - 90, by omega, by omega⟩
    clear h1 h2
    have : i = 0 ∨ i = 1 ∨ i = 2 ∨ i = 3 := by omega
    rcases this with rfl | rfl | rfl | rfl <;>
    · match d, hd with
      | 0, _ | 1, _ | 2, _ | 3, _ | 4, _ | 5, _ | 6, _ | 7, _ | 8, _ | 9, _ | 10, _ | 11, _ | 12, _ | 13, _ | 14, _ | 15, _ | 16, _ => rfl
      | d + 17, h => omega) hk
theorem TAt.stPort {i : Nat} {x : Int} {K : World → Prop} (h : TAt w b T) (hi : i < 8) (hk : ∀ w', w'.heap.size = w.heap.size → TAt w' b { T with port := updN T.port i x } → Ext [b] w w' → K w') : Sts [.int .i64 x] (Addr.add (Addr.add ⟨b, 0, none⟩ 95) ((i : Int).toNat * 1)) 0 w K :=
  h.stHi (q := 95 + i) { T with port := updN T.port i x } (by omega) (by omega) rfl (by simp [add_mk]) rfl (fun k h1 h2 => by
    obtain ⟨d, rfl, hd⟩ : ∃ d, k = 90 + d ∧ d < 17 := ⟨k - 90, by omega, by omega⟩
    clear h1 h2
    have : i = 0 ∨ i = 1 ∨ i = 2 ∨ i = 3 ∨ i = 4 ∨ i = 5 ∨ i = 6 ∨ i = 7 := by omega
    rcases this with rfl | rfl | rfl | rfl | rfl | rfl | rfl | rfl <;>
    · match d, hd with
      | 0, _ | 1, _ | 2, _ | 3, _ | 4, _ | 5, _ | 6, _ | 7, _ | 8, _ | 9, _ | 10, _ | 11, _ | 12, _ | 13, _ | 14, _ | 15, _ | 16, _ => rfl
      | d + 17, h => omega) hk
end
end Go.Proofs.Qxb6500424aGreat.Sk
