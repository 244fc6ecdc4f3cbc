/-
  LogPlays: the given statement 'Rows.LogPlaysSaid': for every input the law returns true, and each argument reads afterwards as it read before. No condition.
-/
import Derived.Test.YtijebmblhakbpaaRows
import Derived.Test.YtijebmblhakbpaaQLaw
import Derived.Test.YtijebmblhakbpaaPLog11
namespace Go.Proofs.Ytijebmblhakbpaa
open Go.ChangeShapes Go.WideShapes Go.ChangeAt Go.RowKit Go.Qd
theorem logPlays_own : ownKnob Try.prog.godebug = none := by kernel_rfl
theorem logPlays_laidOut : laidOutB Try.prog = true := by kernel_rfl
set_option maxRecDepth 100000 in
theorem logPlays_lifted (os : Os) (started : os.Started) (H : Type) (enc : TypeId × Value → H) :
    ReturnsInHanded {} Try.checked os 3 .any (Rows.logPlaysSpec.pre6 enc Try.prog Try.f3 Rows.logPlaysRow.domain false) (Rows.logPlaysSpec.post enc Try.prog Try.f3 false true false false) := by
  refine returnsInHanded_of_change (C := Try.checked) logPlays_own started (by kernel_rfl) Try.func3
    (ChangeSpec.witness6 (enc := enc) (C := Try.checked) false ⟨#[], #[.int .i64 0, .slice none 0 0, .int .i64 0, .int .u64 0], []⟩ 8 (by kernel_rfl) (by kernel_rfl) (by kernel_rfl) (by kernel_rfl)) ?_
  intro W base args ds gs before hval0 hW hcnd _
  have hW' := hW
  obtain ⟨p, q, hA0, hV, rfl, hfz, hnd⟩ := hW
  have hA : DataW.TrodAll enc Try.prog W 0 (fun _ => true) true Try.f3.params.toList args.toList ds p := hA0
  rw [Try.params3] at hA
  obtain ⟨v0, vs0, d0, ds0, p0, q0, hargs, rfl, rfl, h0, r0⟩ := trodAll_cons hA
  obtain ⟨v1, vs1, d1, ds1, p1, q1, rfl, rfl, rfl, h1, r1⟩ := trodAll_cons r0
  obtain ⟨v2, vs2, d2, ds2, p2, q2, rfl, rfl, rfl, h2, r2⟩ := trodAll_cons r1
  obtain ⟨v3, vs3, d3, ds3, p3, q3, rfl, rfl, rfl, h3, r3⟩ := trodAll_cons r2
  obtain ⟨rfl, rfl, rfl⟩ := trodAll_nil r3
  obtain rfl : args = #[v0, v1, v2, v3] := by cases args; simp_all
  obtain ⟨rfl, rfl⟩ := trodVars_none hV
  have k0 := h0
  have lt0 : ∀ x ∈ p0, x.block < W.heap.size := by obtain ⟨m, hm⟩ := k0; exact DataW.trod_lt m _ _ _ hm
  have ok0 : Value.okWide Try.prog W .any base 3 v0 := hval0 0 3 v0 (by rw [Try.params3]; rfl) rfl
  obtain ⟨l0, g0⟩ : ∃ l, (Ty.i64).rel l v0 (hpOf W) := by
    obtain ⟨m, hm⟩ := h0
    obtain ⟨u, a, hu, ha⟩ := Reads.read (P := Try.prog) (T := 3) (R := Ty.i64) hm
    have e : u = v0 := arg_int ok0 hu ((Ty.i64).form ha)
    rw [← e]; exact ⟨a, ha⟩
  have k1 := h1
  have lt1 : ∀ x ∈ p1, x.block < W.heap.size := by obtain ⟨m, hm⟩ := k1; exact DataW.trod_lt m _ _ _ hm
  have ok1 : Value.okWide Try.prog W .any base 22 v1 := hval0 1 22 v1 (by rw [Try.params3]; rfl) rfl
  obtain ⟨l1, g1⟩ : ∃ l, ((Ty.sl ac16T)).rel l v1 (hpOf W) := by
    obtain ⟨m, hm⟩ := h1
    obtain ⟨u, a, hu, ha⟩ := Reads.read (P := Try.prog) (T := 22) (R := (Ty.sl ac16T)) hm
    have e : u = v1 := arg_slice ok1 hu (((Ty.sl ac16T)).form ha)
    rw [← e]; exact ⟨a, ha⟩
  have k2 := h2
  have lt2 : ∀ x ∈ p2, x.block < W.heap.size := by obtain ⟨m, hm⟩ := k2; exact DataW.trod_lt m _ _ _ hm
  have ok2 : Value.okWide Try.prog W .any base 3 v2 := hval0 2 3 v2 (by rw [Try.params3]; rfl) rfl
  obtain ⟨l2, g2⟩ : ∃ l, (Ty.i64).rel l v2 (hpOf W) := by
    obtain ⟨m, hm⟩ := h2
    obtain ⟨u, a, hu, ha⟩ := Reads.read (P := Try.prog) (T := 3) (R := Ty.i64) hm
    have e : u = v2 := arg_int ok2 hu ((Ty.i64).form ha)
    rw [← e]; exact ⟨a, ha⟩
  have k3 := h3
  have lt3 : ∀ x ∈ p3, x.block < W.heap.size := by obtain ⟨m, hm⟩ := k3; exact DataW.trod_lt m _ _ _ hm
  have ok3 : Value.okWide Try.prog W .any base 23 v3 := hval0 3 23 v3 (by rw [Try.params3]; rfl) rfl
  obtain ⟨l3, g3⟩ : ∃ l, (Ty.u64).rel l v3 (hpOf W) := by
    obtain ⟨m, hm⟩ := h3
    obtain ⟨u, a, hu, ha⟩ := Reads.read (P := Try.prog) (T := 23) (R := Ty.u64) hm
    have e : u = v3 := arg_int ok3 hu ((Ty.u64).form ha)
    rw [← e]; exact ⟨a, ha⟩
  refine (law_walk (logPlays_fun l0 v0 l1 v1 l2 v2 l3 v3) (fun _ _ _ h => h) W (by intro g hg; simp only [List.mem_cons, List.not_mem_nil, or_false] at hg; rcases hg with rfl | rfl | rfl | rfl <;> assumption)).mono fun e W' ⟨he, bel⟩ => ?_
  subst he
  exact ⟨_, rfl, _, _, _, [], _, [], hW', trodAll_mk1 (shut_bool Try.underlying4 _), (trodAll_cons_mk (Below.trod logPlays_laidOut (by kernel_rfl) (of_decide_eq_true (by kernel_rfl)) k0 bel lt0) (trodAll_cons_mk (Below.trod logPlays_laidOut (by kernel_rfl) (of_decide_eq_true (by kernel_rfl)) k1 bel lt1) (trodAll_cons_mk (Below.trod logPlays_laidOut (by kernel_rfl) (of_decide_eq_true (by kernel_rfl)) k2 bel lt2) (trodAll_cons_mk (Below.trod logPlays_laidOut (by kernel_rfl) (of_decide_eq_true (by kernel_rfl)) k3 bel lt3) trodAll_mk0)))), rfl, bel.frame _, fun h => by cases h⟩
theorem logPlays_holds : Rows.LogPlaysSaid :=
  OpenClaim.holds_of_wide 3 Try.f3 rfl rfl rfl rfl rfl rfl rfl ⟨rfl, rfl, rfl, rfl, rfl⟩ rfl rfl rfl rfl rfl (by kernel_rfl) Try.func3 (by kernel_rfl)
    (of_decide_eq_true (by kernel_rfl)) (by unfold Func.isWrapper; first | (rw [if_pos (by decide +kernel)]; kernel_rfl) | (rw [if_neg (by decide +kernel)]; exact ⟨rfl, rfl⟩))
    (fun os started H enc _ => logPlays_lifted os started H enc)
#print axioms logPlays_holds
end Go.Proofs.Ytijebmblhakbpaa
