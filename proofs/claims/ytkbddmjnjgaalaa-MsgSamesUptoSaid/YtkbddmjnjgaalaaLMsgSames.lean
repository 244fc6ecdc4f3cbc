/-
  MsgSames: the given statement 'Rows.MsgSamesUptoSaid': for every input of bulk at most 1048576 the law returns true, and each argument reads afterwards as it read before. No other condition.
-/
import Derived.Test.YtkbddmjnjgaalaaRows
import Derived.Test.YtkbddmjnjgaalaaQLaw
import Derived.Test.YtkbddmjnjgaalaaPMsg7
import Derived.Test.YtkbddmjnjgaalaaQUpto
namespace Go.Proofs.Ytkbddmjnjgaalaa
open Go.ChangeShapes Go.WideShapes Go.ChangeAt Go.RowKit Go.Qd
theorem msgSames_own : ownKnob Try.prog.godebug = none := by kernel_rfl
mutual
theorem wt_bulk {H : Type} : ∀ d : DataW H, wt d ≤ Rows.uptoBulk d
  | .lit l => by cases l <;> simp [wt, Rows.uptoBulk]
  | .nil => by simp [wt, Rows.uptoBulk]
  | .ptr d => by simp [wt, Rows.uptoBulk]
  | .slice e r => by
    have := wt_bulkAll e
    simp only [wt, Rows.uptoBulk]; omega
  | .agg e => by
    have := wt_bulkAll e
    simp only [wt, Rows.uptoBulk]; omega
  | .iface t d => by simp [wt, Rows.uptoBulk]
  | .map e => by simp [wt, Rows.uptoBulk]
  | .held h => by simp [wt, Rows.uptoBulk]
theorem wt_bulkAll {H : Type} : ∀ l : List (DataW H), wtAll l ≤ Rows.uptoBulkAll l
  | [] => by simp [wtAll, Rows.uptoBulkAll]
  | d :: r => by
    have h1 := wt_bulk d
    have h2 := wt_bulkAll r
    simp only [wtAll, Rows.uptoBulkAll]; omega
end
theorem msgSames_laidOut : laidOutB Try.prog = true := by kernel_rfl
set_option maxRecDepth 100000 in
theorem msgSames_lifted (os : Os) (started : os.Started) (H : Type) (enc : TypeId × Value → H) (F : Stop.Interp) :
    ReturnsInHanded {} Try.checked os 3 .any ((Rows.OpenSpec.upto Rows.msgSamesSpec).pre6 enc Try.prog Try.f3 Rows.msgSamesUptoRow.domain false) (((Rows.OpenSpec.upto Rows.msgSamesSpec).at F).post enc Try.prog Try.f3 false true false false) := by
  refine returnsInHanded_of_cond (C := Try.checked) (s := Rows.OpenSpec.upto Rows.msgSamesSpec) (k := Rows.uptoSmall) rfl msgSames_own started (by kernel_rfl) Try.func3
    (witness_b (enc := enc) (C := Try.checked) (s := Rows.OpenSpec.upto Rows.msgSamesSpec) (k := Rows.uptoSmall) rfl false ⟨#[], #[.agg (([.int .i64 0, .int .i64 0, .int .i64 0]) ++ (List.map uV (List.replicate 64 0)) ++ ([.slice none 0 0]) : List Value).toArray, .agg (([.int .i64 0, .int .i64 0, .int .i64 0]) ++ (List.map uV (List.replicate 64 0)) ++ ([.slice none 0 0]) : List Value).toArray], []⟩ 12 (by kernel_rfl) (by kernel_rfl) (by kernel_rfl) (by kernel_rfl) (by kernel_rfl)) ?_
  intro W base args ds gs before hval0 hW hcnd hk _
  have hW' := hW
  obtain ⟨p, q, hA0, hV, rfl, hfz, hnd⟩ := hW
  have hA : DataW.TrodAll enc Try.prog W 0 (fun _ => true) true Try.f3.params.toList args.toList ds p := hA0
  rw [Try.params3] at hA
  obtain ⟨v0, vs0, d0, ds0, p0, q0, hargs, rfl, rfl, h0, r0⟩ := trodAll_cons hA
  obtain ⟨v1, vs1, d1, ds1, p1, q1, rfl, rfl, rfl, h1, r1⟩ := trodAll_cons r0
  obtain ⟨rfl, rfl, rfl⟩ := trodAll_nil r1
  obtain rfl : args = #[v0, v1] := by cases args; simp_all
  obtain ⟨rfl, rfl⟩ := trodVars_none hV
  have hk2 := of_decide_eq_true hk
  simp only [List.append_nil, Rows.uptoBulkAll] at hk2
  have hw0 : wt d0 ≤ 1048576 := by have := wt_bulk d0; omega
  have hw1 : wt d1 ≤ 1048576 := by have := wt_bulk d1; omega
  have k0 := h0
  have lt0 : ∀ x ∈ p0, x.block < W.heap.size := by obtain ⟨m, hm⟩ := k0; exact DataW.trod_lt m _ _ _ hm
  have ok0 : Value.okWide Try.prog W .any base 27 v0 := hval0 0 27 v0 (by rw [Try.params3]; rfl) rfl
  obtain ⟨l0, g0⟩ : ∃ l, (rmsT).rel l v0 (hpOf W) := by
    obtain ⟨m, hm⟩ := h0
    obtain ⟨u, a, hu, ha⟩ := ReadsU.read (M := 1048576) (P := Try.prog) (T := 27) (R := rmsT) hm hw0
    have e : u = v0 := arg_agg ok0 hu ((rmsT).form ha)
    rw [← e]; exact ⟨a, ha⟩
  have k1 := h1
  have lt1 : ∀ x ∈ p1, x.block < W.heap.size := by obtain ⟨m, hm⟩ := k1; exact DataW.trod_lt m _ _ _ hm
  have ok1 : Value.okWide Try.prog W .any base 27 v1 := hval0 1 27 v1 (by rw [Try.params3]; rfl) rfl
  obtain ⟨l1, g1⟩ : ∃ l, (rmsT).rel l v1 (hpOf W) := by
    obtain ⟨m, hm⟩ := h1
    obtain ⟨u, a, hu, ha⟩ := ReadsU.read (M := 1048576) (P := Try.prog) (T := 27) (R := rmsT) hm hw1
    have e : u = v1 := arg_agg ok1 hu ((rmsT).form ha)
    rw [← e]; exact ⟨a, ha⟩
  refine (law_walk (msgSames_fun l0 v0 l1 v1) (fun _ _ _ h => h) W (by intro g hg; simp only [List.mem_cons, List.not_mem_nil, or_false] at hg; rcases hg with rfl | rfl <;> assumption)).mono fun e W' ⟨he, bel⟩ => ?_
  subst he
  exact ⟨_, rfl, _, _, _, [], _, [], hW', trodAll_mk1 (shut_bool Try.underlying4 _), (trodAll_cons_mk (Below.trod msgSames_laidOut (by kernel_rfl) (of_decide_eq_true (by kernel_rfl)) k0 bel lt0) (trodAll_cons_mk (Below.trod msgSames_laidOut (by kernel_rfl) (of_decide_eq_true (by kernel_rfl)) k1 bel lt1) trodAll_mk0)), rfl, bel.frame _, fun h => by cases h⟩
theorem msgSames_holds : Rows.MsgSamesUptoSaid :=
  OpenClaim.holds_of_cond 3 Try.f3 rfl rfl rfl rfl rfl rfl rfl ⟨rfl, rfl, rfl, rfl, rfl⟩ rfl rfl rfl rfl rfl (by kernel_rfl) Try.func3 (by kernel_rfl)
    (of_decide_eq_true (by kernel_rfl)) (by unfold Func.isWrapper; first | (rw [if_pos (by decide +kernel)]; kernel_rfl) | (rw [if_neg (by decide +kernel)]; exact ⟨rfl, rfl⟩))
    (fun os started H enc _ F => msgSames_lifted os started H enc F)
#print axioms msgSames_holds
end Go.Proofs.Ytkbddmjnjgaalaa
