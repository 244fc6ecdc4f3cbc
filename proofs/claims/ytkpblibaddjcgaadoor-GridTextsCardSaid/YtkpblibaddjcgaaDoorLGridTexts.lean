/-
  GridTexts: the given card 'Rows.GridTextsCardSaid': for every input the law returns true, and each argument reads afterwards as it read before; the two listed tables are tied to the program's text by the given tie. No other condition.
-/
import Derived.Test.YtkpblibaddjcgaaDoorCards
import Derived.Test.YtkpblibaddjcgaaDoorTie
import Derived.Test.YtkpblibaddjcgaaDoorQLaw
import Derived.Test.YtkpblibaddjcgaaDoorPGr12
import Derived.Lib.LaidIn
import Derived.Lib.LaidU8T
import Derived.Deep.DeepHandedRow
import Derived.Deep.DeepWitnessRowRef
namespace Go.Proofs.YtkpblibaddjcgaaDoor
open Go.ChangeShapes Go.WideShapes Go.ChangeAt Go.RowKit Go.Qd Go.Shelf Go.Lib
theorem gridTexts_own : ownKnob Tryd.prog.godebug = none := by kernel_rfl
theorem gridTexts_laidOut : laidOutB Tryd.prog = true := by kernel_rfl
/-- Where the two tables' types and places lie here. -/
def gridTexts_ren : Ren := ⟨fun x => x, fun n => if n = 5 then 5 else if n = 119 then 68 else if n = 138 then 70 else if n = 139 then 71 else n, fun n => if n = 3 then 0 else if n = 4 then 1 else n⟩
theorem gridTexts_types : U8Types Tryd.prog gridTexts_ren := ⟨by kernel_rfl, by kernel_rfl, by kernel_rfl, by kernel_rfl⟩
theorem gridTexts_extra : U8Extra Tryd.prog gridTexts_ren := ⟨by kernel_rfl, by kernel_rfl, by kernel_rfl, by kernel_rfl, by kernel_rfl, by kernel_rfl, by kernel_rfl⟩
theorem gridTexts_first : Rows.laid_unicode_utf8_first = firstData := by kernel_rfl
theorem gridTexts_accept : (Rows.laid_unicode_utf8_acceptRanges : DataW Unit) = acceptData := by kernel_rfl
theorem gridTexts_tabs {W : World} (hL : laidMetH Tryd.prog Rows.gridTextsRow.laid W) : tabsP.holds (hpOf W) := by
  have hL' : laidMet Tryd.prog [("unicode/utf8.acceptRanges", Rows.laid_unicode_utf8_acceptRanges), ("unicode/utf8.first", Rows.laid_unicode_utf8_first)] W := hL
  rw [gridTexts_first, gridTexts_accept] at hL'
  exact tabs_hp (utf8Tabs_of_readsT gridTexts_types gridTexts_extra (Lib.laidMet.reads hL' (.tail _ (.head _))) (Lib.laidMet.reads hL' (.head _)))
/-- The witness: the settled world, the two variables holding what they list. -/
noncomputable def gridTexts_world (os : Os) : World :=
  let w0 := World.holding Tryd.prog os ⟨#[], #[], []⟩
  let put (h : Array Obj) (g : Nat) (cs : Array Value) : Array Obj := h.modify g fun
    | .cells _ t frozen => .cells cs t frozen
    | o => o
  let h1 := put w0.heap 0 (Lib.firstTab.map fun z => Value.int .u8 z).toArray
  let h2 := put h1 1 ((List.range 16).flatMap fun i => [Value.int .u8 (Lib.accLo i), Value.int .u8 (Lib.accHi i)]).toArray
  { w0 with heap := h2 }
theorem gridTexts_met (os : Os) (args : Array Value) : laidMet Tryd.prog Rows.gridTextsRow.laid ((gridTexts_world os).forCall (fun _ _ => 0) ⟨#[], args, []⟩).memory :=
  (LaidIn.of_run (l := [("unicode/utf8.acceptRanges", Rows.laid_unicode_utf8_acceptRanges), ("unicode/utf8.first", Rows.laid_unicode_utf8_first)]) [1, 0] 8 (by kernel_rfl) (by kernel_rfl) (by kernel_rfl) (by kernel_rfl)).met
theorem gridTexts_witness (os : Os) {H : Type} (enc : TypeId × Value → H) :
    (OpenSpec.ofChange Rows.gridTextsSpec).preRow enc Tryd.prog Tryd.f4 Rows.gridTextsRow.domain false Rows.gridTextsRow.laid ((gridTexts_world os).forCall (fun _ _ => 0) ⟨#[], #[.int .u8 0, .int .u16 0, .int .u8 0, .slice none 0 0], []⟩).memory #[.int .u8 0, .int .u16 0, .int .u8 0, .slice none 0 0] := by
  have hw : (DataW.whole enc Tryd.prog ((gridTexts_world os).forCall (fun _ _ => 0) ⟨#[], #[.int .u8 0, .int .u16 0, .int .u8 0, .slice none 0 0], []⟩).memory Tryd.f4.params.toList Rows.gridTextsSpec.vars false (#[.int .u8 0, .int .u16 0, .int .u8 0, .slice none 0 0] : Array Value).toList 8).map (fun x => (x.1, x.2.1)) =
      some ([.lit (.int .u8 0), .lit (.int .u16 0), .lit (.int .u8 0), .nil], []) := by kernel_rfl
  obtain ⟨⟨x1, x2, x3⟩, hx, hx1⟩ := Option.map_eq_some_iff.1 hw
  simp only [Prod.mk.injEq] at hx1
  obtain ⟨rfl, rfl⟩ := hx1
  exact OpenSpec.preRow_of_cond 8 hx (by kernel_rfl) (fun k hk => by cases hk) (by kernel_rfl) (gridTexts_met os _)
set_option maxRecDepth 100000 in
theorem gridTexts_lifted (os : Os) (started : os.Started) (H : Type) (enc : TypeId × Value → H) (F : Stop.Interp) :
    ReturnsInHanded {} Tryd.checked os 4 .any ((OpenSpec.ofChange Rows.gridTextsSpec).preRow enc Tryd.prog Tryd.f4 Rows.gridTextsRow.domain false Rows.gridTextsRow.laid) (((OpenSpec.ofChange Rows.gridTextsSpec).at F).post enc Tryd.prog Tryd.f4 false true false false) := by
  refine returnsInHanded_of_row (C := Tryd.checked) (s := OpenSpec.ofChange Rows.gridTextsSpec) gridTexts_own started (by kernel_rfl) Tryd.func4
    (witness_row_atRef (enc := enc) (C := Tryd.checked) false (gridTexts_world os) #[.int .u8 0, .int .u16 0, .int .u8 0, .slice none 0 0] rfl (by kernel_rfl) (by kernel_rfl) (by kernel_rfl) (gridTexts_witness os enc)) ?_
  intro W base args ds gs before hval0 hW _ _ _ hL _ _
  have htab := gridTexts_tabs hL
  have hW' := hW
  obtain ⟨p, q, hA0, hV, rfl, hfz, hnd⟩ := hW
  have hA : DataW.TrodAll enc Tryd.prog W 0 (fun _ => true) true Tryd.f4.params.toList args.toList ds p := hA0
  rw [Tryd.params4] at hA
  obtain ⟨v0, vs0, d0, ds0, p0, q0, hargs, rfl, rfl, h0, r0⟩ := trodAll_cons hA
  obtain ⟨v1, vs1, d1, ds1, p1, q1, rfl, rfl, rfl, h1, r1⟩ := trodAll_cons r0
  obtain ⟨v2, vs2, d2, ds2, p2, q2, rfl, rfl, rfl, h2, r2⟩ := trodAll_cons r1
  obtain ⟨v3, vs3, d3, ds3, p3, q3, rfl, rfl, rfl, h3, r3⟩ := trodAll_cons r2
  obtain ⟨rfl, rfl, rfl⟩ := trodAll_nil r3
  obtain rfl : args = #[v0, v1, v2, v3] := by cases args; simp_all
  obtain ⟨rfl, rfl⟩ := trodVars_none hV
  have k0 := h0
  have lt0 : ∀ x ∈ p0, x.block < W.heap.size := by obtain ⟨m, hm⟩ := k0; exact DataW.trod_lt m _ _ _ hm
  have ok0 : Value.okWide Tryd.prog W .any base 5 v0 := hval0 0 5 v0 (by rw [Tryd.params4]; rfl) rfl
  obtain ⟨l0, g0⟩ : ∃ l, (Ty.u8).rel l v0 (hpOf W) := by
    obtain ⟨m, hm⟩ := h0
    obtain ⟨u, a, hu, ha⟩ := Reads.read (P := Tryd.prog) (T := 5) (R := Ty.u8) hm
    have e : u = v0 := arg_int ok0 hu ((Ty.u8).form ha)
    rw [← e]; exact ⟨a, ha⟩
  have k1 := h1
  have lt1 : ∀ x ∈ p1, x.block < W.heap.size := by obtain ⟨m, hm⟩ := k1; exact DataW.trod_lt m _ _ _ hm
  have ok1 : Value.okWide Tryd.prog W .any base 26 v1 := hval0 1 26 v1 (by rw [Tryd.params4]; rfl) rfl
  obtain ⟨l1, g1⟩ : ∃ l, (Ty.u16).rel l v1 (hpOf W) := by
    obtain ⟨m, hm⟩ := h1
    obtain ⟨u, a, hu, ha⟩ := Reads.read (P := Tryd.prog) (T := 26) (R := Ty.u16) hm
    have e : u = v1 := arg_int ok1 hu ((Ty.u16).form ha)
    rw [← e]; exact ⟨a, ha⟩
  have k2 := h2
  have lt2 : ∀ x ∈ p2, x.block < W.heap.size := by obtain ⟨m, hm⟩ := k2; exact DataW.trod_lt m _ _ _ hm
  have ok2 : Value.okWide Tryd.prog W .any base 5 v2 := hval0 2 5 v2 (by rw [Tryd.params4]; rfl) rfl
  obtain ⟨l2, g2⟩ : ∃ l, (Ty.u8).rel l v2 (hpOf W) := by
    obtain ⟨m, hm⟩ := h2
    obtain ⟨u, a, hu, ha⟩ := Reads.read (P := Tryd.prog) (T := 5) (R := Ty.u8) hm
    have e : u = v2 := arg_int ok2 hu ((Ty.u8).form ha)
    rw [← e]; exact ⟨a, ha⟩
  have k3 := h3
  have lt3 : ∀ x ∈ p3, x.block < W.heap.size := by obtain ⟨m, hm⟩ := k3; exact DataW.trod_lt m _ _ _ hm
  have ok3 : Value.okWide Tryd.prog W .any base 27 v3 := hval0 3 27 v3 (by rw [Tryd.params4]; rfl) rfl
  obtain ⟨l3, g3⟩ : ∃ l, ((Ty.sl Ty.str)).rel l v3 (hpOf W) := by
    obtain ⟨m, hm⟩ := h3
    obtain ⟨u, a, hu, ha⟩ := Reads.read (P := Tryd.prog) (T := 27) (R := (Ty.sl Ty.str)) hm
    have e : u = v3 := arg_slice ok3 hu (((Ty.sl Ty.str)).form ha)
    rw [← e]; exact ⟨a, ha⟩
  refine (law_walk (gridTexts_fun l0 v0 l1 v1 l2 v2 l3 v3) (fun _ _ _ h => h) W (by intro g hg; simp only [List.mem_cons, List.not_mem_nil, or_false] at hg; rcases hg with rfl | rfl | rfl | rfl | rfl <;> assumption)).mono fun e W' ⟨he, bel⟩ => ?_
  subst he
  exact ⟨_, rfl, _, _, _, [], _, [], hW', trodAll_mk1 (shut_bool Tryd.underlying4 _), (trodAll_cons_mk (Below.trod gridTexts_laidOut (by kernel_rfl) (of_decide_eq_true (by kernel_rfl)) k0 bel lt0) (trodAll_cons_mk (Below.trod gridTexts_laidOut (by kernel_rfl) (of_decide_eq_true (by kernel_rfl)) k1 bel lt1) (trodAll_cons_mk (Below.trod gridTexts_laidOut (by kernel_rfl) (of_decide_eq_true (by kernel_rfl)) k2 bel lt2) (trodAll_cons_mk (Below.trod gridTexts_laidOut (by kernel_rfl) (of_decide_eq_true (by kernel_rfl)) k3 bel lt3) trodAll_mk0)))), rfl, bel.frame _, fun h => by cases h⟩
theorem gridTexts_said : Rows.GridTextsSaid :=
  OpenClaim.holds_of_cond 4 Tryd.f4 rfl rfl rfl rfl rfl rfl rfl ⟨rfl, rfl, rfl, rfl, rfl⟩ rfl rfl rfl rfl rfl (by kernel_rfl) Tryd.func4 (by kernel_rfl)
    (of_decide_eq_true (by kernel_rfl)) (by unfold Func.isWrapper; first | (rw [if_pos (by decide +kernel)]; kernel_rfl) | (rw [if_neg (by decide +kernel)]; exact ⟨rfl, rfl⟩))
    (fun os started H enc _ F => by rw [OpenClaim.pre_eq_preRow]; exact gridTexts_lifted os started H enc F)
theorem gridTexts_plain (f : FuncId) (fn : Func) (hf : Tryd.pinned.checked.prog.funcNamed "quadrille/quadrillelaw27.GridTexts" = some f) (hfn : Tryd.pinned.checked.prog.funcs[f]? = some fn) :
    false = Tryd.pinned.checked.prog.looks [] ∧ ∀ (j : Nat) t, fn.params[j]? = some t → Tryd.pinned.checked.prog.wantsStandIn t = false := by
  obtain rfl : f = 4 := Option.some.inj ((show Tryd.prog.funcNamed "quadrille/quadrillelaw27.GridTexts" = some 4 by kernel_rfl).symm.trans hf) |>.symm
  obtain rfl : fn = Tryd.f4 := (Option.some.inj (Tryd.func4.symm.trans hfn)).symm
  refine ⟨by kernel_rfl, fun j t ht => ?_⟩
  rw [Tryd.params4] at ht
  have hm : t ∈ ([5, 26, 5, 27] : List Nat) := by
    have := Array.mem_of_getElem? ht
    simpa using this
  simp only [List.mem_cons, List.not_mem_nil, or_false] at hm
  rcases hm with rfl | rfl | rfl | rfl
  · exact (show Tryd.prog.wantsStandIn 5 = false by kernel_rfl)
  · exact (show Tryd.prog.wantsStandIn 26 = false by kernel_rfl)
  · exact (show Tryd.prog.wantsStandIn 5 = false by kernel_rfl)
  · exact (show Tryd.prog.wantsStandIn 27 = false by kernel_rfl)
theorem gridTexts_holds : Rows.GridTextsCardSaid :=
  Claim7.holds_tied_plain_at .later [] _ _ _ _ gridTexts_said (fun _ h => by cases h) (by kernel_rfl) (fun _ h => by cases h) gridTexts_row_tie rfl ⟨rfl, rfl⟩ (by kernel_rfl) rfl gridTexts_plain (by kernel_rfl)
#print axioms gridTexts_holds
end Go.Proofs.YtkpblibaddjcgaaDoor
