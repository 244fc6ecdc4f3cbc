/-
  Trees: arguments that are operations of the document.
-/
import Derived.Test.YtkbddmjnjgaalaaPTree
namespace Go.Qd
open Go Go.Proofs Go.ChangeShapes Go.WideShapes Go.RowKit
theorem trod_arr {P : Program} {H : Type} {enc : TypeId × Value → H} {w : World} {base : Nat} {spare : Nat → Bool} {held : Bool} {fuel n : Nat} {t e : TypeId} {cs : List Value} {x : DataW H × List MemPlace} (ht : P.underlying t = some (.array n e))
    (h : DataW.trod enc P w base spare held fuel t cs = some x) : ∃ m, fuel = m + 1 ∧ cs.length = P.cellsOf t ∧ ∀ i, i < n → ∃ y, DataW.trod enc P w base spare held m e ((cs.drop (i * P.cellsOf e)).take (P.cellsOf e)) = some y ∧ wt y.1 ≤ wt x.1 := by
  obtain ⟨xs, m, hf, rfl, hl, hx, hi⟩ := DataW.trod_array ht h
  exact ⟨m, hf, hl, fun i hin => ⟨_, (hi i hin).trans (List.getElem?_eq_getElem (by omega)), Nat.le_of_succ_le (wt_agg (List.getElem_mem (by omega)))⟩⟩
theorem cellsQ {P : Program} {T : TypeId} {s : Nat} (h : tsz P T = some s) : P.cellsOf T = s := by
  unfold tsz at h
  unfold Program.cellsOf
  rw [h]; rfl
instance reads_pairA {N M : Nat} {P : Program} {T E : TypeId} {α : Type} {R : Ty α} {s t : Nat} [hT : TU P T (.array 2 E)] [r : ReadsN N M P E R] [he : TS P E s] [hs : Ty.Sz R s] [ht : TS P T t] [hp : Ty.Sz (Ty.pair R (Ty.rec1 R)) t] : ReadsN N M P T (Ty.pair R (Ty.rec1 R)) := ⟨fun {H enc w base spare held fuel cs x} hN h hW => by
  obtain ⟨m, rfl, hl, hx⟩ := trod_arr hT.h h
  obtain ⟨rfl, _⟩ := hs.h
  rw [cellsQ ht.h, ← hp.h.1] at hl
  have hl : cs.length = R.sz + R.sz := hl
  obtain ⟨y1, h1, w1⟩ := hx 0 (by omega)
  obtain ⟨y2, h2, w2⟩ := hx 1 (by omega)
  rw [cellsQ he.h] at h1 h2
  obtain ⟨v1, a1, hv1, ha1⟩ := r.read (by omega) h1 (Nat.le_trans w1 hW)
  obtain ⟨v2, a2, hv2, ha2⟩ := r.read (by omega) h2 (Nat.le_trans w2 hW)
  refine ⟨.agg (v1.cells ++ (Value.agg v2.cells).cells), (a1, a2), ?_, v1, _, rfl, ha1, v2, rfl, ha2⟩
  rw [agg_cells, agg_cells, Array.toList_append, hv1, hv2, Nat.zero_mul, List.drop_zero, Nat.one_mul]
  rw [List.take_of_length_le (l := List.drop R.sz cs) (by rw [List.length_drop]; omega), List.take_append_drop]⟩
instance reads_full {N M : Nat} {P : Program} {T E : TypeId} [hT : TU P T (.array 64 E)] [hE : TU P E (.int .u64)] [he : TS P E 1] [ht : TS P T 64] : ReadsN N M P T fullT := ⟨fun {H enc w base spare held fuel cs x} hN h hW => by
  obtain ⟨m, rfl, hl, hx⟩ := trod_arr hT.h h
  rw [cellsQ ht.h] at hl
  have each : ∀ k, k ≤ 64 → ∃ l : List Nat, l.length = k ∧ (∀ a ∈ l, a < 18446744073709551616) ∧ cs.take k = l.map uV := by
    intro k
    induction k with
    | zero => exact fun _ => ⟨[], rfl, by simp, by simp⟩
    | succ k ih =>
      intro hk
      obtain ⟨l, h1, h2, h3⟩ := ih (by omega)
      obtain ⟨y, hy, wy⟩ := hx k (by omega)
      rw [cellsQ he.h, Nat.mul_one] at hy
      obtain ⟨v, a, hv, rfl, ha⟩ := (reads_u64 (N := m) (M := M) (P := P) (T := E)).read (Nat.le_refl _) hy (Nat.le_trans wy hW)
      refine ⟨l ++ [a], by simp [h1], fun b hb => ?_, ?_⟩
      · rcases List.mem_append.1 hb with hb | hb
        · exact h2 b hb
        · simp at hb; rw [hb]; exact ha
      · rw [List.take_add, h3, ← hv, List.map_append]; rfl
  obtain ⟨l, h1, h2, h3⟩ := each 64 (Nat.le_refl _)
  refine ⟨fV l, l, ?_, rfl, h1, h2⟩
  show l.map uV = cs
  rw [← h3, List.take_of_length_le (by omega)]⟩
abbrev upM : Nat := 1048576
abbrev nodeU : Ty Nd := nodeS upM upM
set_option synthInstance.maxSize 4000 in
instance reads_node14 {N : Nat} : ReadsN N upM Try.prog 54 nodeU := reads_node (fun _ _ _ => inferInstance) N upM (Nat.le_refl _)
abbrev contT : Ty (Int × Int × List UInt8 × Nd) := Ty.pair Ty.i64 (Ty.pair Ty.i64 (Ty.pair Ty.str (Ty.rec1 nodeU)))
abbrev ROp := Int × Nat × Nat × List Nat × Int × (Nat × Int) × (Nat × Int) × (Int × Int × List UInt8 × Nd)
abbrev rop14T : Ty ROp := Ty.pair Ty.i64 (Ty.pair Ty.u64 (Ty.pair Ty.u64 (Ty.pair fullT (Ty.pair Ty.i64 (Ty.pair idT (Ty.pair idT (Ty.rec1 contT)))))))
set_option synthInstance.maxSize 8000 in
set_option synthInstance.maxHeartbeats 400000 in
instance reads_rop14 : ReadsU upM Try.prog 58 rop14T := inferInstance
end Go.Qd
