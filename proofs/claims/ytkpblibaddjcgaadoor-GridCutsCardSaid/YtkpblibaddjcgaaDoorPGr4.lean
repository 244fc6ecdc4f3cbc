/-
  Texts of a window: what may stand in a line, by the document.
-/
import Derived.Test.YtkpblibaddjcgaaDoorPGr3
namespace Go.Qd
open Go Go.Proofs
def badB (l : List UInt8) : Bool := decide (128 ≤ (l.getD 0 0).toNat) && decide ((dcR l).2 = 1)
theorem dcN_low {n b0 b1 b2 b3 : Nat} (h : b0 < 128) : Lib.decodeN n b0 b1 b2 b3 = (b0, 1) := by unfold Lib.decodeN; rw [if_pos h]
theorem dcN_bad {n b0 b1 b2 b3 : Nat} (h : 128 ≤ b0) (h1 : (Lib.decodeN n b0 b1 b2 b3).2 = 1) : (Lib.decodeN n b0 b1 b2 b3).1 = 65533 := by
  unfold Lib.decodeN at h1 ⊢
  repeat' split at h1
  all_goals (repeat' split)
  all_goals first | rfl | (exfalso; dsimp only at h1; omega) | (dsimp only at *; omega)
def ctlB (c : UInt8) : Bool := decide (c.toNat < 32) || decide (c.toNat = 127)
def cleanM (l : List UInt8) (sp : Bool) : List UInt8 :=
  if h : l = [] then []
  else if badB l then (if sp then [] else [63]) ++ cleanM (l.drop 1) true
  else (if (dcR l).2 = 1 ∧ ctlB (l.getD 0 0) = true then [63] else l.take (dcR l).2) ++ cleanM (l.drop (dcR l).2) false
termination_by l.length
decreasing_by
  · have := List.length_pos_iff.2 h; rw [List.length_drop]; omega
  · have := List.length_pos_iff.2 h; have := dcR_pos l; rw [List.length_drop]; omega
theorem cleanM_nil (sp : Bool) : cleanM [] sp = [] := by rw [cleanM, dif_pos rfl]
theorem cleanM_bad {l : List UInt8} (h : l ≠ []) (hb : badB l = true) (sp : Bool) : cleanM l sp = (if sp then [] else [63]) ++ cleanM (l.drop 1) true := by rw [cleanM, dif_neg h, if_pos hb]
theorem cleanM_ok {l : List UInt8} (h : l ≠ []) (hb : badB l = false) (sp : Bool) : cleanM l sp = (if (dcR l).2 = 1 ∧ ctlB (l.getD 0 0) = true then [63] else l.take (dcR l).2) ++ cleanM (l.drop (dcR l).2) false := by
  rw [cleanM, dif_neg h, if_neg (by rw [hb]; simp)]
end Go.Qd
