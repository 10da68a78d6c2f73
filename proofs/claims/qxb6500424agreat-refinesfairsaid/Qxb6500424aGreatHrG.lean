/-
  host: no connection fails by the word of an end (16).
-/
import Derived.Test.Qxb6500424aGreatHrF
set_option linter.unusedVariables false
set_option linter.unusedSimpArgs false
namespace Go.Proofs.Qxb6500424aGreat
def W16 (x : CS) : Prop := x.why ≠ 16
theorem arm_why (x : CS) : (armF x).why = x.why := by unfold armF; split <;> rfl
theorem pump1_why (x : CS) : (pump1 x).1.why = x.why := by
  unfold pump1
  split
  · exact arm_why _
  · rfl
theorem pump2_why (x : CS) : (pump2 x).1.why = x.why := by
  unfold pump2
  split
  · exact arm_why _
  · rfl
theorem pump_why (x : CS) : (pumpF x).1.why = x.why := by
  unfold pumpF
  split
  · show (pump2 (pump1 x).1).1.why = _
    rw [pump2_why, pump1_why]
  · rfl
theorem W16.fail {w : Int} (h : w ≠ 16) : W16 (failF w) := h
theorem W16.tick {x : CS} (h : W16 x) : W16 (tickF x).1 := by
  unfold tickF
  split
  · exact h
  split
  · show W16 (if _ then C0 else _)
    split
    · show (0 : Int) ≠ 16; decide
    · exact h
  split
  · split
    · split
      · exact W16.fail (by decide)
      · show (pumpF _).1.why ≠ 16
        rw [pump_why, arm_why]
        exact h
    · show (pumpF _).1.why ≠ 16
      rw [pump_why]
      exact h
  · show (pumpF _).1.why ≠ 16
    rw [pump_why]
    exact h
theorem W16.send {x : CS} {P : List Int} (h : W16 x) : W16 (sendF P x).2.C := by
  unfold sendF
  split
  · exact h
  split
  · exact h
  split
  · exact h
  split
  · exact h
  split
  · exact h
  · show (pumpF _).1.why ≠ 16
    rw [pump_why]
    exact h
theorem W16.recv {x : CS} {mx : Int} (h : W16 x) : W16 (recvF mx x).2.C := by
  unfold recvF
  split
  · exact h
  split
  · exact h
  split
  · split
    · exact h
    · split <;> exact h
  · exact h
theorem W16.close {x : CS} (h : W16 x) : W16 (closeF x).C := by
  unfold closeF
  split
  · exact h
  split
  · exact h
  split
  · exact W16.fail (by decide)
  split
  · exact h
  · show (pumpF _).1.why ≠ 16
    rw [pump_why]
    exact h
theorem W16.abort {x : CS} (h : W16 x) : W16 (abortF x).C := by
  unfold abortF
  split
  · exact h
  split
  · split
    · show (20 : Int) ≠ 16; decide
    · exact h
  split
  · exact W16.fail (by decide)
  · exact W16.fail (by decide)
theorem W16.openA {x : CS} {i : Int} (h : W16 x) : W16 (openAF i x).C := by
  unfold openAF
  split
  · exact h
  · show (0 : Int) ≠ 16; decide
theorem W16.openP {x : CS} {i : Int} {hd : Hd} (h : W16 x) : W16 (openPF i hd x).C := by
  unfold openPF
  split
  · exact h
  split
  · exact h
  · show (0 : Int) ≠ 16; decide
theorem take_why (sq f : Int) (D : List Int) (x : CS) : (takeF sq f D x).why = x.why := by
  unfold takeF
  split
  · rfl
  split
  · rfl
  split <;> rfl
theorem end_why (x : CS) : (endF x).why = x.why := by unfold endF; split <;> rfl
theorem acked_why (ak wn : Int) (x : CS) : (ackedF ak wn x).2.why = x.why := by
  unfold ackedF
  split
  · rfl
  split
  · rfl
  split
  · rfl
  · show (if _ then armF (ackC ak wn x) else ackC ak wn x).why = _
    split
    · rw [arm_why]; rfl
    · rfl
theorem W16.openF {x : CS} {ak wn sq f : Int} {D : List Int} (h : W16 x) : W16 (openF ak wn sq f D x).1 := by
  unfold Go.Proofs.Qxb6500424aGreat.openF
  split
  · unfold goonF
    split
    · show (endF (pumpF (takeF sq f D (ackedF ak wn x).2)).1).why ≠ 16
      rw [end_why, pump_why, take_why, acked_why]
      exact h
    · show (endF (pumpF (ackedF ak wn x).2).1).why ≠ 16
      rw [end_why, pump_why, acked_why]
      exact h
  · exact h
theorem W16.input {x : CS} {hd : Hd} {D : List Int} (h : W16 x) : W16 (inputF hd D x).1 := by
  unfold inputF
  split
  · unfold quietF; split <;> exact h
  split
  · unfold synSentF
    split
    · split <;> exact h
    split
    · split
      · exact W16.fail (by decide)
      · exact h
    split
    · exact h
    · exact h
  split
  · unfold syncF
    split
    · split
      · exact W16.fail (by decide)
      · exact h
    split
    · split <;> exact h
    split
    · exact h
    split
    · split
      · exact h
      · exact W16.openF (x := openedF x) h
    · exact W16.openF h
  · exact h
def WT (t : TC) : Prop := ∀ s, W16 (t.C s)
theorem WT.upd {t : TC} {s : Nat} {x : CS} {K : Sk.SkS} (h : WT t) (hx : W16 x) : WT ⟨K, updX t.C s x⟩ := fun j => by
  show W16 (updX t.C s x j)
  unfold updX
  split
  · exact hx
  · exact h j
theorem WT.seg {t : TC} {clk src : Int} {s : SegV} (h : WT t) : WT (inSegT clk src s t).1 := by
  unfold inSegT
  split
  · unfold toRowT
    split
    · exact h
    · exact h.upd ((h _).input)
  split
  · unfold toLisT
    split
    · exact h
    split
    · exact h
    · split
      · exact h.upd ((h _).openP)
      · exact h.upd ((h _).openP)
  split <;> exact h
theorem WT.tick : ∀ (l : List Int) {t : TC}, WT t → WT (tickT l t).1
  | [], t, h => h
  | sd :: l, t, h => by
    show WT (match Sk.getE t.K.E sd with | none => tickT l t | some a => if a.1.kind ≠ 2 then tickT l t else ((tickT l (tick1T a t).1).1, (tick1T a t).2 ++ (tickT l (tick1T a t).1).2) : TC × List OutS).1
    split
    · exact WT.tick l h
    · rename_i a _
      by_cases q : a.1.kind ≠ 2
      · rw [if_pos q]; exact WT.tick l h
      · rw [if_neg q]
        exact WT.tick l (h.upd ((h _).tick))
theorem WT.connect {t : TC} {clk rh rp : Int} (h : WT t) : WT (connectT clk rh rp t).t := by
  unfold connectT
  split
  · exact h
  split
  · exact h
  split
  · exact h.upd ((h _).openA)
  · exact h.upd ((h _).openA)
theorem WT.send {t : TC} {sd : Int} {P : List Int} (h : WT t) : WT (sendT sd P t).t := by
  unfold sendT
  split
  · exact h
  split
  · exact h.upd ((h _).send)
  · exact h.upd ((h _).send)
theorem WT.recv {t : TC} {sd mx : Int} (h : WT t) : WT (recvT sd mx t).t := by
  unfold recvT
  split
  · exact h
  split
  · exact h.upd ((h _).recv)
  · exact h.upd ((h _).recv)
theorem WT.shutL (lsd : Int) : ∀ (l : List Int) {t : TC}, WT t → WT (shutLT lsd l t).1
  | [], t, h => h
  | sd :: l, t, h => by
    show WT (shutLT lsd l (shut1T lsd sd t).1).1
    refine WT.shutL lsd l ?_
    unfold shut1T
    split
    · exact h
    split
    · exact h
    split
    · exact h.upd ((h _).abort)
    · exact h.upd ((h _).abort)
theorem WT.endT {t : TC} {f : CS → OutC} {sd : Int} (hf : ∀ x, W16 x → W16 (f x).C) (h : WT t) : WT (endT f sd t).t := by
  unfold Go.Proofs.Qxb6500424aGreat.endT
  split
  · show WT (shutT sd t).1
    exact fun s => (WT.shutL sd (sdsE t.K.E) h) s
  split
  · exact h
  split
  · exact h.upd (hf _ (h _))
  · exact h.upd (hf _ (h _))
theorem WT.inputH {h : HS} {raw : List Int} (hw : WT h.t) : WT (inputH h raw).1.t := by
  unfold Go.Proofs.Qxb6500424aGreat.inputH
  split
  · exact hw
  split
  · exact hw
  unfold inIpH
  split
  · exact hw
  split
  · exact hw
  split
  · exact hw
  unfold inTopH
  rw [(sendAllH_t _ _).1]
  exact hw.seg
theorem WT.tickH {h : HS} (hw : WT h.t) : WT (tickH h).1.t := by
  unfold Go.Proofs.Qxb6500424aGreat.tickH
  rw [(sendAllH_t _ _).1]
  exact WT.tick (sdsE h.t.K.E) hw
theorem WT.call {α : Type} {h : HS} {r : CallR α} (hw : WT r.t) : WT (callH h r).1.t := by
  unfold callH
  rw [(sendAllH_t _ _).1]
  exact hw
end Go.Proofs.Qxb6500424aGreat
