/-
  MsgPacks: the given statement 'Rows.MsgPacksUptoSaid': for every input of bulk at most 1048576 the law returns true, and each argument reads afterwards as it read before. No other condition.
-/
import Derived.Test.YtkbddmjnjgaalaaRows
import Derived.Test.YtkbddmjnjgaalaaQLaw
import Derived.Test.YtkbddmjnjgaalaaPMsg10
import Derived.Test.YtkbddmjnjgaalaaQUpto
namespace Go.Proofs.Ytkbddmjnjgaalaa
open Go.ChangeShapes Go.WideShapes Go.ChangeAt Go.RowKit Go.Qd
theorem msgPacks_own : ownKnob Try.prog.godebug = none := by kernel_rfl
mutual
theorem wt_bulk {H : Type} : ∀ d : DataW H, wt d ≤ Rows.uptoBulk d
  | .lit l => by cases l <;> simp [wt, Rows.uptoBulk]
  | .nil => by simp [wt, Rows.uptoBulk]
  | .ptr d => by simp [wt, Rows.uptoBulk]
  | .slice e r => by
    have := wt_bulkAll e
    simp only [wt, Rows.uptoBulk]; omega
  | .agg e => by
    have := wt_bulkAll e
    simp only [wt, Rows.uptoBulk]; omega
  | .iface t d => by simp [wt, Rows.uptoBulk]
  | .map e => by simp [wt, Rows.uptoBulk]
  | .held h => by simp [wt, Rows.uptoBulk]
theorem wt_bulkAll {H : Type} : ∀ l : List (DataW H), wtAll l ≤ Rows.uptoBulkAll l
  | [] => by simp [wtAll, Rows.uptoBulkAll]
  | d :: r => by
    have h1 := wt_bulk d
    have h2 := wt_bulkAll r
    simp only [wtAll, Rows.uptoBulkAll]; omega
end
theorem msgPacks_laidOut : laidOutB Try.prog = true := by kernel_rfl
set_option maxRecDepth 100000 in
theorem msgPacks_lifted (os : Os) (started : os.Started) (H : Type) (enc : TypeId × Value → H) (F : Stop.Interp) :
    ReturnsInHanded {} Try.checked os 4 .any ((Rows.OpenSpec.upto Rows.msgPacksSpec).pre6 enc Try.prog Try.f4 Rows.msgPacksUptoRow.domain false) (((Rows.OpenSpec.upto Rows.msgPacksSpec).at F).post enc Try.prog Try.f4 false true false false) := by
  refine returnsInHanded_of_cond (C := Try.checked) (s := Rows.OpenSpec.upto Rows.msgPacksSpec) (k := Rows.uptoSmall) rfl msgPacks_own started (by kernel_rfl) Try.func4
    (witness_b (enc := enc) (C := Try.checked) (s := Rows.OpenSpec.upto Rows.msgPacksSpec) (k := Rows.uptoSmall) rfl false ⟨#[], #[.slice none 0 0, .int .i64 0, .int .i64 0, .slice none 0 0], []⟩ 12 (by kernel_rfl) (by kernel_rfl) (by kernel_rfl) (by kernel_rfl) (by kernel_rfl)) ?_
  intro W base args ds gs before hval0 hW hcnd hk _
  have hW' := hW
  obtain ⟨p, q, hA0, hV, rfl, hfz, hnd⟩ := hW
  have hA : DataW.TrodAll enc Try.prog W 0 (fun _ => true) true Try.f4.params.toList args.toList ds p := hA0
  rw [Try.params4] at hA
  obtain ⟨v0, vs0, d0, ds0, p0, q0, hargs, rfl, rfl, h0, r0⟩ := trodAll_cons hA
  obtain ⟨v1, vs1, d1, ds1, p1, q1, rfl, rfl, rfl, h1, r1⟩ := trodAll_cons r0
  obtain ⟨v2, vs2, d2, ds2, p2, q2, rfl, rfl, rfl, h2, r2⟩ := trodAll_cons r1
  obtain ⟨v3, vs3, d3, ds3, p3, q3, rfl, rfl, rfl, h3, r3⟩ := trodAll_cons r2
  obtain ⟨rfl, rfl, rfl⟩ := trodAll_nil r3
  obtain rfl : args = #[v0, v1, v2, v3] := by cases args; simp_all
  obtain ⟨rfl, rfl⟩ := trodVars_none hV
  have hk2 := of_decide_eq_true hk
  simp only [List.append_nil, Rows.uptoBulkAll] at hk2
  have hw0 : wt d0 ≤ 1048576 := by have := wt_bulk d0; omega
  have hw1 : wt d1 ≤ 1048576 := by have := wt_bulk d1; omega
  have hw2 : wt d2 ≤ 1048576 := by have := wt_bulk d2; omega
  have hw3 : wt d3 ≤ 1048576 := by have := wt_bulk d3; omega
  have k0 := h0
  have lt0 : ∀ x ∈ p0, x.block < W.heap.size := by obtain ⟨m, hm⟩ := k0; exact DataW.trod_lt m _ _ _ hm
  have ok0 : Value.okWide Try.prog W .any base 25 v0 := hval0 0 25 v0 (by rw [Try.params4]; rfl) rfl
  obtain ⟨l0, g0⟩ : ∃ l, ((Ty.sl rop14T)).rel l v0 (hpOf W) := by
    obtain ⟨m, hm⟩ := h0
    obtain ⟨u, a, hu, ha⟩ := ReadsU.read (M := 1048576) (P := Try.prog) (T := 25) (R := (Ty.sl rop14T)) hm hw0
    have e : u = v0 := arg_slice ok0 hu (((Ty.sl rop14T)).form ha)
    rw [← e]; exact ⟨a, ha⟩
  have k1 := h1
  have lt1 : ∀ x ∈ p1, x.block < W.heap.size := by obtain ⟨m, hm⟩ := k1; exact DataW.trod_lt m _ _ _ hm
  have ok1 : Value.okWide Try.prog W .any base 3 v1 := hval0 1 3 v1 (by rw [Try.params4]; rfl) rfl
  obtain ⟨l1, g1⟩ : ∃ l, (Ty.i64).rel l v1 (hpOf W) := by
    obtain ⟨m, hm⟩ := h1
    obtain ⟨u, a, hu, ha⟩ := ReadsU.read (M := 1048576) (P := Try.prog) (T := 3) (R := Ty.i64) hm hw1
    have e : u = v1 := arg_int ok1 hu ((Ty.i64).form ha)
    rw [← e]; exact ⟨a, ha⟩
  have k2 := h2
  have lt2 : ∀ x ∈ p2, x.block < W.heap.size := by obtain ⟨m, hm⟩ := k2; exact DataW.trod_lt m _ _ _ hm
  have ok2 : Value.okWide Try.prog W .any base 3 v2 := hval0 2 3 v2 (by rw [Try.params4]; rfl) rfl
  obtain ⟨l2, g2⟩ : ∃ l, (Ty.i64).rel l v2 (hpOf W) := by
    obtain ⟨m, hm⟩ := h2
    obtain ⟨u, a, hu, ha⟩ := ReadsU.read (M := 1048576) (P := Try.prog) (T := 3) (R := Ty.i64) hm hw2
    have e : u = v2 := arg_int ok2 hu ((Ty.i64).form ha)
    rw [← e]; exact ⟨a, ha⟩
  have k3 := h3
  have lt3 : ∀ x ∈ p3, x.block < W.heap.size := by obtain ⟨m, hm⟩ := k3; exact DataW.trod_lt m _ _ _ hm
  have ok3 : Value.okWide Try.prog W .any base 31 v3 := hval0 3 31 v3 (by rw [Try.params4]; rfl) rfl
  obtain ⟨l3, g3⟩ : ∃ l, ((Ty.sl Ty.u64)).rel l v3 (hpOf W) := by
    obtain ⟨m, hm⟩ := h3
    obtain ⟨u, a, hu, ha⟩ := ReadsU.read (M := 1048576) (P := Try.prog) (T := 31) (R := (Ty.sl Ty.u64)) hm hw3
    have e : u = v3 := arg_slice ok3 hu (((Ty.sl Ty.u64)).form ha)
    rw [← e]; exact ⟨a, ha⟩
  refine (law_walk (msgPacks_fun l0 v0 l1 v1 l2 v2 l3 v3) (fun _ _ _ h => h) W (by intro g hg; simp only [List.mem_cons, List.not_mem_nil, or_false] at hg; rcases hg with rfl | rfl | rfl | rfl <;> assumption)).mono fun e W' ⟨he, bel⟩ => ?_
  subst he
  exact ⟨_, rfl, _, _, _, [], _, [], hW', trodAll_mk1 (shut_bool Try.underlying4 _), (trodAll_cons_mk (Below.trod msgPacks_laidOut (by kernel_rfl) (of_decide_eq_true (by kernel_rfl)) k0 bel lt0) (trodAll_cons_mk (Below.trod msgPacks_laidOut (by kernel_rfl) (of_decide_eq_true (by kernel_rfl)) k1 bel lt1) (trodAll_cons_mk (Below.trod msgPacks_laidOut (by kernel_rfl) (of_decide_eq_true (by kernel_rfl)) k2 bel lt2) (trodAll_cons_mk (Below.trod msgPacks_laidOut (by kernel_rfl) (of_decide_eq_true (by kernel_rfl)) k3 bel lt3) trodAll_mk0)))), rfl, bel.frame _, fun h => by cases h⟩
theorem msgPacks_holds : Rows.MsgPacksUptoSaid :=
  OpenClaim.holds_of_cond 4 Try.f4 rfl rfl rfl rfl rfl rfl rfl ⟨rfl, rfl, rfl, rfl, rfl⟩ rfl rfl rfl rfl rfl (by kernel_rfl) Try.func4 (by kernel_rfl)
    (of_decide_eq_true (by kernel_rfl)) (by unfold Func.isWrapper; first | (rw [if_pos (by decide +kernel)]; kernel_rfl) | (rw [if_neg (by decide +kernel)]; exact ⟨rfl, rfl⟩))
    (fun os started H enc _ F => msgPacks_lifted os started H enc F)
#print axioms msgPacks_holds
end Go.Proofs.Ytkbddmjnjgaalaa
