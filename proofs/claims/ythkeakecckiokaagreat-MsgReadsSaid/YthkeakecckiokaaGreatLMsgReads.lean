/-
  MsgReads: the given statement 'Rows.MsgReadsSaid': for every input the law returns true, and each argument reads afterwards as it read before. No condition.
-/
import Derived.Test.YthkeakecckiokaaGreatRows
import Derived.Test.YthkeakecckiokaaGreatQLaw
import Derived.Test.YthkeakecckiokaaGreatPTm
namespace Go.Proofs.YthkeakecckiokaaGreat
open Go.ChangeShapes Go.WideShapes Go.ChangeAt Go.RowKit Go.Qd
theorem msgReads_own : ownKnob Tryz.prog.godebug = none := by kernel_rfl
theorem msgReads_laidOut : laidOutB Tryz.prog = true := by kernel_rfl
set_option maxRecDepth 100000 in
theorem msgReads_lifted (os : Os) (started : os.Started) (H : Type) (enc : TypeId × Value → H) :
    ReturnsInHanded {} Tryz.checked os 3 .any (Rows.msgReadsSpec.pre6 enc Tryz.prog Tryz.f3 Rows.msgReadsRow.domain false) (Rows.msgReadsSpec.post enc Tryz.prog Tryz.f3 false true false false) := by
  refine returnsInHanded_of_change (C := Tryz.checked) msgReads_own started (by kernel_rfl) Tryz.func3
    (ChangeSpec.witness6 (enc := enc) (C := Tryz.checked) false ⟨#[], #[.slice none 0 0], []⟩ 8 (by kernel_rfl) (by kernel_rfl) (by kernel_rfl) (by kernel_rfl)) ?_
  intro W base args ds gs before hval0 hW hcnd _
  have hW' := hW
  obtain ⟨p, q, hA0, hV, rfl, hfz, hnd⟩ := hW
  have hA : DataW.TrodAll enc Tryz.prog W 0 (fun _ => true) true Tryz.f3.params.toList args.toList ds p := hA0
  rw [Tryz.params3] at hA
  obtain ⟨v0, vs0, d0, ds0, p0, q0, hargs, rfl, rfl, h0, r0⟩ := trodAll_cons hA
  obtain ⟨rfl, rfl, rfl⟩ := trodAll_nil r0
  obtain rfl : args = #[v0] := by cases args; simp_all
  obtain ⟨rfl, rfl⟩ := trodVars_none hV
  have k0 := h0
  have lt0 : ∀ x ∈ p0, x.block < W.heap.size := by obtain ⟨m, hm⟩ := k0; exact DataW.trod_lt m _ _ _ hm
  have ok0 : Value.okWide Tryz.prog W .any base 22 v0 := hval0 0 22 v0 (by rw [Tryz.params3]; rfl) rfl
  obtain ⟨l0, g0⟩ : ∃ l, ((Ty.sl Ty.u8)).rel l v0 (hpOf W) := by
    obtain ⟨m, hm⟩ := h0
    obtain ⟨u, a, hu, ha⟩ := Reads.read (P := Tryz.prog) (T := 22) (R := (Ty.sl Ty.u8)) hm
    have e : u = v0 := arg_slice ok0 hu (((Ty.sl Ty.u8)).form ha)
    rw [← e]; exact ⟨a, ha⟩
  refine (law_walk (msgReads_fun l0 v0) (fun _ _ _ h => h) W (by intro g hg; simp only [List.mem_cons, List.not_mem_nil, or_false] at hg; subst hg <;> assumption)).mono fun e W' ⟨he, bel⟩ => ?_
  subst he
  exact ⟨_, rfl, _, _, _, [], _, [], hW', trodAll_mk1 (shut_bool Tryz.underlying4 _), (trodAll_cons_mk (Below.trod msgReads_laidOut (by kernel_rfl) (of_decide_eq_true (by kernel_rfl)) k0 bel lt0) trodAll_mk0), rfl, bel.frame _, fun h => by cases h⟩
theorem msgReads_holds : Rows.MsgReadsSaid :=
  OpenClaim.holds_of_wide 3 Tryz.f3 rfl rfl rfl rfl rfl rfl rfl ⟨rfl, rfl, rfl, rfl, rfl⟩ rfl rfl rfl rfl rfl (by kernel_rfl) Tryz.func3 (by kernel_rfl)
    (of_decide_eq_true (by kernel_rfl)) (by unfold Func.isWrapper; first | (rw [if_pos (by decide +kernel)]; kernel_rfl) | (rw [if_neg (by decide +kernel)]; exact ⟨rfl, rfl⟩))
    (fun os started H enc _ => msgReads_lifted os started H enc)
#print axioms msgReads_holds
end Go.Proofs.YthkeakecckiokaaGreat
