/-
  sock: Check of the real table, row by row; New.
-/
import Derived.Test.Qxb6500424aGreatSkJ
set_option linter.unusedVariables false
open Go.Vc
namespace Go.Proofs.Qxb6500424aGreat.Sk

section
variable {w : World} {b : Nat} {S : SkS} {T : Tbl} {F : List Nat} {C : Nat → List Nat} {occ : Nat → Bool}
theorem TAt.ldRow {i : Nat} {K : Bool → Int → Int → Int → Int → Int → Int → Int → Bool → Int → Int → Int → Int → Int → Int → Prop} (h : TAt w b T) (hi : i < 6) (hk : K (T.rows i).used (T.rows i).e.sd (T.rows i).e.kind (T.rows i).e.lp (T.rows i).e.rh (T.rows i).e.rp (T.rows i).e.slot (T.rows i).e.par (T.rows i).e.rdy (T.rows i).next (T.rows i).kids (T.rows i).r0 (T.rows i).r1 (T.rows i).head (T.rows i).n) : LdB (Addr.add ⟨b, 0, none⟩ ((i : Int).toNat * 15)) w fun x0 => LdI .i64 ((Addr.add ⟨b, 0, none⟩ ((i : Int).toNat * 15)).add 1) w fun x1 => LdI .i64 ((Addr.add ⟨b, 0, none⟩ ((i : Int).toNat * 15)).add 2) w fun x2 => LdI .i64 ((Addr.add ⟨b, 0, none⟩ ((i : Int).toNat * 15)).add 3) w fun x3 => LdI .i64 ((Addr.add ⟨b, 0, none⟩ ((i : Int).toNat * 15)).add 4) w fun x4 => LdI .i64 ((Addr.add ⟨b, 0, none⟩ ((i : Int).toNat * 15)).add 5) w fun x5 => LdI .i64 ((Addr.add ⟨b, 0, none⟩ ((i : Int).toNat * 15)).add 6) w fun x6 => LdI .i64 ((Addr.add ⟨b, 0, none⟩ ((i : Int).toNat * 15)).add 7) w fun x7 => LdB ((Addr.add ⟨b, 0, none⟩ ((i : Int).toNat * 15)).add 8) w fun x8 => LdI .i64 ((Addr.add ⟨b, 0, none⟩ ((i : Int).toNat * 15)).add 9) w fun x9 => LdI .i64 ((Addr.add ⟨b, 0, none⟩ ((i : Int).toNat * 15)).add 10) w fun x10 => LdI .i64 ((Addr.add ⟨b, 0, none⟩ ((i : Int).toNat * 15)).add 11) w fun x11 => LdI .i64 ((Addr.add ⟨b, 0, none⟩ ((i : Int).toNat * 15)).add 12) w fun x12 => LdI .i64 ((Addr.add ⟨b, 0, none⟩ ((i : Int).toNat * 15)).add 13) w fun x13 => LdI .i64 ((Addr.add ⟨b, 0, none⟩ ((i : Int).toNat * 15)).add 14) w fun x14 => K x0 x1 x2 x3 x4 x5 x6 x7 x8 x9 x10 x11 x12 x13 x14 :=
  h.ldRB (j := 0) hi (by omega) (by simp [add_mk]) rfl (h.ldRI (j := 1) hi (by omega) (by simp [add_mk]) rfl (h.ldRI (j := 2) hi (by omega) (by simp [add_mk]) rfl (h.ldRI (j := 3) hi (by omega) (by simp [add_mk]) rfl (h.ldRI (j := 4) hi (by omega) (by simp [add_mk]) rfl (h.ldRI (j := 5) hi (by omega) (by simp [add_mk]) rfl (h.ldRI (j := 6) hi (by omega) (by simp [add_mk]) rfl (h.ldRI (j := 7) hi (by omega) (by simp [add_mk]) rfl (h.ldRB (j := 8) hi (by omega) (by simp [add_mk]) rfl (h.ldRI (j := 9) hi (by omega) (by simp [add_mk]) rfl (h.ldRI (j := 10) hi (by omega) (by simp [add_mk]) rfl (h.ldRI (j := 11) hi (by omega) (by simp [add_mk]) rfl (h.ldRI (j := 12) hi (by omega) (by simp [add_mk]) rfl (h.ldRI (j := 13) hi (by omega) (by simp [add_mk]) rfl (h.ldRI (j := 14) hi (by omega) (by simp [add_mk]) rfl (hk)))))))))))))))
theorem ldRowB {a : Nat} {r : Row} {t : TypeId} {K : Bool → Int → Int → Int → Int → Int → Int → Int → Bool → Int → Int → Int → Int → Int → Int → Prop} (h : Own w a (rowVs r).toArray t) (hk : K r.used r.e.sd r.e.kind r.e.lp r.e.rh r.e.rp r.e.slot r.e.par r.e.rdy r.next r.kids r.r0 r.r1 r.head r.n) : LdB ⟨a, 0, none⟩ w fun x0 => LdI .i64 ⟨a, 1, none⟩ w fun x1 => LdI .i64 ⟨a, 2, none⟩ w fun x2 => LdI .i64 ⟨a, 3, none⟩ w fun x3 => LdI .i64 ⟨a, 4, none⟩ w fun x4 => LdI .i64 ⟨a, 5, none⟩ w fun x5 => LdI .i64 ⟨a, 6, none⟩ w fun x6 => LdI .i64 ⟨a, 7, none⟩ w fun x7 => LdB ⟨a, 8, none⟩ w fun x8 => LdI .i64 ⟨a, 9, none⟩ w fun x9 => LdI .i64 ⟨a, 10, none⟩ w fun x10 => LdI .i64 ⟨a, 11, none⟩ w fun x11 => LdI .i64 ⟨a, 12, none⟩ w fun x12 => LdI .i64 ⟨a, 13, none⟩ w fun x13 => LdI .i64 ⟨a, 14, none⟩ w fun x14 => K x0 x1 x2 x3 x4 x5 x6 x7 x8 x9 x10 x11 x12 x13 x14 :=
  LdB.mk h rfl (LdI.mk h rfl (LdI.mk h rfl (LdI.mk h rfl (LdI.mk h rfl (LdI.mk h rfl (LdI.mk h rfl (LdI.mk h rfl (LdB.mk h rfl (LdI.mk h rfl (LdI.mk h rfl (LdI.mk h rfl (LdI.mk h rfl (LdI.mk h rfl (LdI.mk h rfl (hk)))))))))))))))
def cnt (T : Tbl) (p : Ent → Bool) (n : Nat) : List Nat := (List.range n).filter fun i => (T.rows i).used && p (T.rows i).e
theorem cnt_succ (T : Tbl) (p : Ent → Bool) (n : Nat) : (cnt T p (n + 1)).length = (cnt T p n).length + (if ((T.rows n).used && p (T.rows n).e) = true then 1 else 0) := by
  unfold cnt
  rw [List.range_succ, List.filter_append, List.length_append]
  congr 1
  cases q : ((T.rows n).used && p (T.rows n).e) with
  | false => simp [q]
  | true => simp [q]
theorem cnt_le (T : Tbl) (p : Ent → Bool) (n : Nat) : (cnt T p n).length ≤ n := by
  unfold cnt
  have := List.length_filter_le (fun i => (T.rows i).used && p (T.rows i).e) (List.range n)
  simpa using this
theorem cnt_len (h : Rel T S F C occ) (p : Ent → Bool) : (cnt T p 6).length = (S.E.filter fun a => p a.1).length := by
  have h1 : ∀ n, (cnt T p n).length = ((Lri T n).filter p).length := fun n => by
    induction n with
    | zero => rfl
    | succ n ih =>
      rw [cnt_succ, ih]
      unfold Lri
      rw [List.range_succ, List.flatMap_append, List.filter_append, List.length_append]
      congr 1
      simp only [List.flatMap_cons, List.flatMap_nil, List.append_nil, lvr]
      cases hu : (T.rows n).used with
      | false => simp
      | true =>
        cases hp : p (T.rows n).e <;> simp [hp]
  rw [h1 6]
  have h2 := (h.perm.filter p).length_eq
  have h3 : ((S.E.map fun a : AE => a.1).filter p).length = (S.E.filter fun a => p a.1).length := by
    rw [List.filter_map, List.length_map]
    rfl
  rw [← h3]
  exact h2
end
end Go.Proofs.Qxb6500424aGreat.Sk
