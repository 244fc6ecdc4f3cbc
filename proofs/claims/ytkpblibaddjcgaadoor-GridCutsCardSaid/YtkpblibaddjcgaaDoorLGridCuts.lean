/-
  GridCuts: the given card 'Rows.GridCutsCardSaid': for every input the law returns true, and each argument reads afterwards as it read before; the two listed tables are tied to the program's text by the given tie. No other condition.
-/
import Derived.Test.YtkpblibaddjcgaaDoorCards
import Derived.Test.YtkpblibaddjcgaaDoorTie
import Derived.Test.YtkpblibaddjcgaaDoorQLaw
import Derived.Test.YtkpblibaddjcgaaDoorPGr12
import Derived.Lib.LaidIn
import Derived.Lib.LaidU8T
import Derived.Deep.DeepHandedRow
import Derived.Deep.DeepWitnessRowRef
namespace Go.Proofs.YtkpblibaddjcgaaDoor
open Go.ChangeShapes Go.WideShapes Go.ChangeAt Go.RowKit Go.Qd Go.Shelf Go.Lib
theorem gridCuts_own : ownKnob Tryd.prog.godebug = none := by kernel_rfl
theorem gridCuts_laidOut : laidOutB Tryd.prog = true := by kernel_rfl
/-- Where the two tables' types and places lie here. -/
def gridCuts_ren : Ren := ⟨fun x => x, fun n => if n = 5 then 5 else if n = 119 then 68 else if n = 138 then 70 else if n = 139 then 71 else n, fun n => if n = 3 then 0 else if n = 4 then 1 else n⟩
theorem gridCuts_types : U8Types Tryd.prog gridCuts_ren := ⟨by kernel_rfl, by kernel_rfl, by kernel_rfl, by kernel_rfl⟩
theorem gridCuts_extra : U8Extra Tryd.prog gridCuts_ren := ⟨by kernel_rfl, by kernel_rfl, by kernel_rfl, by kernel_rfl, by kernel_rfl, by kernel_rfl, by kernel_rfl⟩
theorem gridCuts_first : Rows.laid_unicode_utf8_first = firstData := by kernel_rfl
theorem gridCuts_accept : (Rows.laid_unicode_utf8_acceptRanges : DataW Unit) = acceptData := by kernel_rfl
theorem gridCuts_tabs {W : World} (hL : laidMetH Tryd.prog Rows.gridCutsRow.laid W) : tabsP.holds (hpOf W) := by
  have hL' : laidMet Tryd.prog [("unicode/utf8.acceptRanges", Rows.laid_unicode_utf8_acceptRanges), ("unicode/utf8.first", Rows.laid_unicode_utf8_first)] W := hL
  rw [gridCuts_first, gridCuts_accept] at hL'
  exact tabs_hp (utf8Tabs_of_readsT gridCuts_types gridCuts_extra (Lib.laidMet.reads hL' (.tail _ (.head _))) (Lib.laidMet.reads hL' (.head _)))
/-- The witness: the settled world, the two variables holding what they list. -/
noncomputable def gridCuts_world (os : Os) : World :=
  let w0 := World.holding Tryd.prog os ⟨#[], #[], []⟩
  let put (h : Array Obj) (g : Nat) (cs : Array Value) : Array Obj := h.modify g fun
    | .cells _ t frozen => .cells cs t frozen
    | o => o
  let h1 := put w0.heap 0 (Lib.firstTab.map fun z => Value.int .u8 z).toArray
  let h2 := put h1 1 ((List.range 16).flatMap fun i => [Value.int .u8 (Lib.accLo i), Value.int .u8 (Lib.accHi i)]).toArray
  { w0 with heap := h2 }
theorem gridCuts_met (os : Os) (args : Array Value) : laidMet Tryd.prog Rows.gridCutsRow.laid ((gridCuts_world os).forCall (fun _ _ => 0) ⟨#[], args, []⟩).memory :=
  (LaidIn.of_run (l := [("unicode/utf8.acceptRanges", Rows.laid_unicode_utf8_acceptRanges), ("unicode/utf8.first", Rows.laid_unicode_utf8_first)]) [1, 0] 8 (by kernel_rfl) (by kernel_rfl) (by kernel_rfl) (by kernel_rfl)).met
theorem gridCuts_witness (os : Os) {H : Type} (enc : TypeId × Value → H) :
    (OpenSpec.ofChange Rows.gridCutsSpec).preRow enc Tryd.prog Tryd.f3 Rows.gridCutsRow.domain false Rows.gridCutsRow.laid ((gridCuts_world os).forCall (fun _ _ => 0) ⟨#[], #[.string .empty, .int .u8 0], []⟩).memory #[.string .empty, .int .u8 0] := by
  have hw : (DataW.whole enc Tryd.prog ((gridCuts_world os).forCall (fun _ _ => 0) ⟨#[], #[.string .empty, .int .u8 0], []⟩).memory Tryd.f3.params.toList Rows.gridCutsSpec.vars false (#[.string .empty, .int .u8 0] : Array Value).toList 8).map (fun x => (x.1, x.2.1)) =
      some ([.lit (.string []), .lit (.int .u8 0)], []) := by kernel_rfl
  obtain ⟨⟨x1, x2, x3⟩, hx, hx1⟩ := Option.map_eq_some_iff.1 hw
  simp only [Prod.mk.injEq] at hx1
  obtain ⟨rfl, rfl⟩ := hx1
  exact OpenSpec.preRow_of_cond 8 hx (by kernel_rfl) (fun k hk => by cases hk) (by kernel_rfl) (gridCuts_met os _)
set_option maxRecDepth 100000 in
theorem gridCuts_lifted (os : Os) (started : os.Started) (H : Type) (enc : TypeId × Value → H) (F : Stop.Interp) :
    ReturnsInHanded {} Tryd.checked os 3 .any ((OpenSpec.ofChange Rows.gridCutsSpec).preRow enc Tryd.prog Tryd.f3 Rows.gridCutsRow.domain false Rows.gridCutsRow.laid) (((OpenSpec.ofChange Rows.gridCutsSpec).at F).post enc Tryd.prog Tryd.f3 false true false false) := by
  refine returnsInHanded_of_row (C := Tryd.checked) (s := OpenSpec.ofChange Rows.gridCutsSpec) gridCuts_own started (by kernel_rfl) Tryd.func3
    (witness_row_atRef (enc := enc) (C := Tryd.checked) false (gridCuts_world os) #[.string .empty, .int .u8 0] rfl (by kernel_rfl) (by kernel_rfl) (by kernel_rfl) (gridCuts_witness os enc)) ?_
  intro W base args ds gs before hval0 hW _ _ _ hL _ _
  have htab := gridCuts_tabs hL
  have hW' := hW
  obtain ⟨p, q, hA0, hV, rfl, hfz, hnd⟩ := hW
  have hA : DataW.TrodAll enc Tryd.prog W 0 (fun _ => true) true Tryd.f3.params.toList args.toList ds p := hA0
  rw [Tryd.params3] at hA
  obtain ⟨v0, vs0, d0, ds0, p0, q0, hargs, rfl, rfl, h0, r0⟩ := trodAll_cons hA
  obtain ⟨v1, vs1, d1, ds1, p1, q1, rfl, rfl, rfl, h1, r1⟩ := trodAll_cons r0
  obtain ⟨rfl, rfl, rfl⟩ := trodAll_nil r1
  obtain rfl : args = #[v0, v1] := by cases args; simp_all
  obtain ⟨rfl, rfl⟩ := trodVars_none hV
  have k0 := h0
  have lt0 : ∀ x ∈ p0, x.block < W.heap.size := by obtain ⟨m, hm⟩ := k0; exact DataW.trod_lt m _ _ _ hm
  have ok0 : Value.okWide Tryd.prog W .any base 9 v0 := hval0 0 9 v0 (by rw [Tryd.params3]; rfl) rfl
  obtain ⟨l0, g0⟩ : ∃ l, (Ty.str).rel l v0 (hpOf W) := by
    obtain ⟨m, hm⟩ := h0
    obtain ⟨u, a, hu, ha⟩ := Reads.read (P := Tryd.prog) (T := 9) (R := Ty.str) hm
    have e : u = v0 := arg_string ok0 hu ((Ty.str).form ha)
    rw [← e]; exact ⟨a, ha⟩
  have k1 := h1
  have lt1 : ∀ x ∈ p1, x.block < W.heap.size := by obtain ⟨m, hm⟩ := k1; exact DataW.trod_lt m _ _ _ hm
  have ok1 : Value.okWide Tryd.prog W .any base 5 v1 := hval0 1 5 v1 (by rw [Tryd.params3]; rfl) rfl
  obtain ⟨l1, g1⟩ : ∃ l, (Ty.u8).rel l v1 (hpOf W) := by
    obtain ⟨m, hm⟩ := h1
    obtain ⟨u, a, hu, ha⟩ := Reads.read (P := Tryd.prog) (T := 5) (R := Ty.u8) hm
    have e : u = v1 := arg_int ok1 hu ((Ty.u8).form ha)
    rw [← e]; exact ⟨a, ha⟩
  refine (law_walk (gridCuts_fun l0 v0 l1 v1) (fun _ _ _ h => h) W (by intro g hg; simp only [List.mem_cons, List.not_mem_nil, or_false] at hg; rcases hg with rfl | rfl | rfl <;> assumption)).mono fun e W' ⟨he, bel⟩ => ?_
  subst he
  exact ⟨_, rfl, _, _, _, [], _, [], hW', trodAll_mk1 (shut_bool Tryd.underlying4 _), (trodAll_cons_mk (Below.trod gridCuts_laidOut (by kernel_rfl) (of_decide_eq_true (by kernel_rfl)) k0 bel lt0) (trodAll_cons_mk (Below.trod gridCuts_laidOut (by kernel_rfl) (of_decide_eq_true (by kernel_rfl)) k1 bel lt1) trodAll_mk0)), rfl, bel.frame _, fun h => by cases h⟩
theorem gridCuts_said : Rows.GridCutsSaid :=
  OpenClaim.holds_of_cond 3 Tryd.f3 rfl rfl rfl rfl rfl rfl rfl ⟨rfl, rfl, rfl, rfl, rfl⟩ rfl rfl rfl rfl rfl (by kernel_rfl) Tryd.func3 (by kernel_rfl)
    (of_decide_eq_true (by kernel_rfl)) (by unfold Func.isWrapper; first | (rw [if_pos (by decide +kernel)]; kernel_rfl) | (rw [if_neg (by decide +kernel)]; exact ⟨rfl, rfl⟩))
    (fun os started H enc _ F => by rw [OpenClaim.pre_eq_preRow]; exact gridCuts_lifted os started H enc F)
theorem gridCuts_plain (f : FuncId) (fn : Func) (hf : Tryd.pinned.checked.prog.funcNamed "quadrille/quadrillelaw27.GridCuts" = some f) (hfn : Tryd.pinned.checked.prog.funcs[f]? = some fn) :
    false = Tryd.pinned.checked.prog.looks [] ∧ ∀ (j : Nat) t, fn.params[j]? = some t → Tryd.pinned.checked.prog.wantsStandIn t = false := by
  obtain rfl : f = 3 := Option.some.inj ((show Tryd.prog.funcNamed "quadrille/quadrillelaw27.GridCuts" = some 3 by kernel_rfl).symm.trans hf) |>.symm
  obtain rfl : fn = Tryd.f3 := (Option.some.inj (Tryd.func3.symm.trans hfn)).symm
  refine ⟨by kernel_rfl, fun j t ht => ?_⟩
  rw [Tryd.params3] at ht
  have hm : t ∈ ([9, 5] : List Nat) := by
    have := Array.mem_of_getElem? ht
    simpa using this
  simp only [List.mem_cons, List.not_mem_nil, or_false] at hm
  rcases hm with rfl | rfl
  · exact (show Tryd.prog.wantsStandIn 9 = false by kernel_rfl)
  · exact (show Tryd.prog.wantsStandIn 5 = false by kernel_rfl)
theorem gridCuts_holds : Rows.GridCutsCardSaid :=
  Claim7.holds_tied_plain_at .later [] _ _ _ _ gridCuts_said (fun _ h => by cases h) (by kernel_rfl) (fun _ h => by cases h) gridCuts_row_tie rfl ⟨rfl, rfl⟩ (by kernel_rfl) rfl gridCuts_plain (by kernel_rfl)
#print axioms gridCuts_holds
end Go.Proofs.YtkpblibaddjcgaaDoor
