/-
  Texts of a window: the chapter's example, and the laws' own functions.
-/
import Derived.Test.YtkpblibaddjcgaaDoorPGr11
import Derived.Test.YtkpblibaddjcgaaDoorPGr8
import Derived.Test.YtkpblibaddjcgaaDoorQLaw
import Derived.Test.YtkpblibaddjcgaaDoorQU16
namespace Go.Qd
open Go Go.Proofs
set_option maxHeartbeats 1600000 in
theorem awake27_fun : Fun Tryd.prog 5 [] [tabsP] [] (fun z G S => z = .bool true ∧ G = [] ∧ S = []) := by
  refine Fun.enter Tryd.func5 (by kernel_rfl) rfl Tryd.ntmps5 rfl (fun B Gf Sf => ?_); (try simp only [List.cons_append]); (try simp only [List.nil_append]); simp only [argEnv]
  (repeat (first | refine vgo ?_ | refine ⟨_, rfl, rfl, ?_⟩ | refine ⟨_, rfl, ?_⟩ | refine ⟨rfl, ?_⟩ | intro hb | refine altA ?_ | refine altR ?_ | refine sideA ?_ | refine decTA ?_ | refine decFA ?_ | refine decNA ?_ | refine decBTA ?_ | refine decBFA ?_ | refine ⟨_, by assumption, ?_⟩ | refine ⟨_, _, _, rfl, ?_⟩ | refine WC.seq (fun K hK => ?_) | (refine hK _ _ _ ?_; clear hK K) | (refine hK _ _ _ _ rfl ?_; clear hK K) | (refine WX.thenExit (K := K) ?_; clear hK K) | (refine WX.thenExit (K := KL) ?_; clear hL KL)))
  rename_i v0
  refine CallV.sat (fun w sw => sw.pub (R := (Ty.str)) (l := ([[53]])) (v := v0) SelOwn.h rfl rfl rfl (fun a ha => by rw [List.mem_singleton] at ha; subst ha; decide)) ?_
  refine CallV.sat (fun w sw => sw.pubC (R := (Ty.sl Ty.str)) (l := ([[[53]]])) (v := hb) (vs := ([v0])) rfl rfl rfl (allR_cons Rd.h allR_nil)) ?_
  refine CallV.by' (text_fun 1 1 [[[53]]] hb (by omega) (by omega) (by decide) (by decide)) ?_; rintro _ _ _ ⟨rfl, rfl, rfl⟩; (try simp only [List.cons_append]); (try simp only [List.nil_append])
  rw [ex_text]
  (repeat (first | refine vgo ?_ | refine ⟨_, rfl, rfl, ?_⟩ | refine ⟨_, rfl, ?_⟩ | refine ⟨rfl, ?_⟩ | intro hb | refine altA ?_ | refine altR ?_ | refine sideA ?_ | refine decTA ?_ | refine decFA ?_ | refine decNA ?_ | refine decBTA ?_ | refine decBFA ?_ | refine ⟨_, by assumption, ?_⟩ | refine ⟨_, _, _, rfl, ?_⟩ | refine WC.seq (fun K hK => ?_) | (refine hK _ _ _ ?_; clear hK K) | (refine hK _ _ _ _ rfl ?_; clear hK K) | (refine WX.thenExit (K := K) ?_; clear hK K) | (refine WX.thenExit (K := KL) ?_; clear hL KL)))
  exact WX.ret1 rfl rfl (fun w sw => ⟨[], [], ⟨rfl, rfl, rfl⟩, sw.to⟩)
theorem gridCuts_fun (s : List UInt8) (v : Value) (m : UInt8) (u : Value) : Fun Tryd.prog 3 [v, u] [rd Ty.str s v, rd Ty.u8 m u, tabsP] [] (fun z G S => z = .bool true) := by
  refine ⟨(gridCuts_of awake27_fun s 0 (by omega)).callable, fun B Gf Sf w sw => ?_⟩
  have e1 : v = .string (bs s) ∧ True := sw.pure fun h hm => ⟨(hm (rd Ty.str s v) (.head _)).1, trivial⟩
  have e2 : u = .int .u8 (m.toNat : Int) ∧ True := sw.pure fun h hm => ⟨(hm (rd Ty.u8 m u) (.tail _ (.head _))).1, trivial⟩
  obtain ⟨rfl, _⟩ := e1
  obtain ⟨rfl, _⟩ := e2
  have s1 : Sat B ([tabsP] ++ (rd Ty.str s (.string (bs s)) :: rd Ty.u8 m (.int .u8 (m.toNat : Int)) :: Gf)) Sf w := by
    have s2 : Sat B (rd Ty.str s (.string (bs s)) :: rd Ty.u8 m (.int .u8 (m.toNat : Int)) :: tabsP :: Gf) Sf w := sw
    exact s2.to
  refine ((gridCuts_of awake27_fun s m.toNat m.toNat_lt).calls B _ Sf w s1).mono ?_
  rintro e w' ⟨z, G', S', rfl, ⟨rfl, rfl, rfl⟩, h⟩
  refine ⟨_, [], [], rfl, rfl, ?_⟩
  have s2 : Sat B (tabsP :: rd Ty.str s (.string (bs s)) :: rd Ty.u8 m (.int .u8 (m.toNat : Int)) :: Gf) Sf w' := h
  show Sat B (rd Ty.str s (.string (bs s)) :: rd Ty.u8 m (.int .u8 (m.toNat : Int)) :: tabsP :: Gf) Sf w'
  exact s2.to
theorem cell_cells {W : World} {b o : Nat} {v : Value} (h : W.cell? ⟨b, o, none⟩ = some v) : ∃ cs ty fz, W.heap[b]? = some (.cells cs ty fz) := by
  cases hb : W.heap[b]? with
  | none => simp [World.cell?, hb] at h
  | some x =>
    cases x <;> first
      | exact ⟨_, _, _, rfl⟩
      | simp [World.cell?, hb] at h
/-- What a row's list of the two tables gives. -/
theorem tabs_hp {W : World} (h : Lib.Utf8Tabs 0 1 W) : tabsP.holds (hpOf W) := by
  obtain ⟨h1, h2⟩ := h
  obtain ⟨cs, ty, fz, e1⟩ := cell_cells (h1 0 (by decide))
  obtain ⟨ds, ty2, fz2, e2⟩ := cell_cells (h2 0 (by decide)).1
  refine ⟨⟨cs, ty, fz, e1, fun c hc => ?_⟩, ⟨ds, ty2, fz2, e2, fun i hi => ⟨?_, ?_⟩⟩⟩
  · rw [← Lib.cell_of_heap e1]; exact h1 c hc
  · rw [← Lib.cell_of_heap e2]; exact (h2 i hi).1
  · rw [← Lib.cell_of_heap e2]; exact (h2 i hi).2
end Go.Qd
