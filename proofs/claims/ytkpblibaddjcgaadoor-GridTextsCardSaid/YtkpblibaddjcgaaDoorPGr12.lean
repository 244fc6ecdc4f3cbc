/-
  Texts of a window: the chapter's example, and the laws' own functions.
-/
import Derived.Test.YtkpblibaddjcgaaDoorPGr11
import Derived.Test.YtkpblibaddjcgaaDoorPGr8
import Derived.Test.YtkpblibaddjcgaaDoorQLaw
import Derived.Test.YtkpblibaddjcgaaDoorQU16
namespace Go.Qd
open Go Go.Proofs
set_option maxHeartbeats 1600000 in
theorem awake27_fun : Fun Tryd.prog 5 [] [tabsP] [] (fun z G S => z = .bool true ∧ G = [] ∧ S = []) := by
  refine Fun.enter Tryd.func5 (by kernel_rfl) rfl Tryd.ntmps5 rfl (fun B Gf Sf => ?_); (try simp only [List.cons_append]); (try simp only [List.nil_append]); simp only [argEnv]
  (repeat (first | refine vgo ?_ | refine ⟨_, rfl, rfl, ?_⟩ | refine ⟨_, rfl, ?_⟩ | refine ⟨rfl, ?_⟩ | intro hb | refine altA ?_ | refine altR ?_ | refine sideA ?_ | refine decTA ?_ | refine decFA ?_ | refine decNA ?_ | refine decBTA ?_ | refine decBFA ?_ | refine ⟨_, by assumption, ?_⟩ | refine ⟨_, _, _, rfl, ?_⟩ | refine WC.seq (fun K hK => ?_) | (refine hK _ _ _ ?_; clear hK K) | (refine hK _ _ _ _ rfl ?_; clear hK K) | (refine WX.thenExit (K := K) ?_; clear hK K) | (refine WX.thenExit (K := KL) ?_; clear hL KL)))
  rename_i v0
  refine CallV.sat (fun w sw => sw.pub (R := (Ty.str)) (l := ([[53]])) (v := v0) SelOwn.h rfl rfl rfl (fun a ha => by rw [List.mem_singleton] at ha; subst ha; decide)) ?_
  refine CallV.sat (fun w sw => sw.pubC (R := (Ty.sl Ty.str)) (l := ([[[53]]])) (v := hb) (vs := ([v0])) rfl rfl rfl (allR_cons Rd.h allR_nil)) ?_
  refine CallV.by' (text_fun 1 1 [[[53]]] hb (by omega) (by omega) (by decide) (by decide)) ?_; rintro _ _ _ ⟨rfl, rfl, rfl⟩; (try simp only [List.cons_append]); (try simp only [List.nil_append])
  rw [ex_text]
  (repeat (first | refine vgo ?_ | refine ⟨_, rfl, rfl, ?_⟩ | refine ⟨_, rfl, ?_⟩ | refine ⟨rfl, ?_⟩ | intro hb | refine altA ?_ | refine altR ?_ | refine sideA ?_ | refine decTA ?_ | refine decFA ?_ | refine decNA ?_ | refine decBTA ?_ | refine decBFA ?_ | refine ⟨_, by assumption, ?_⟩ | refine ⟨_, _, _, rfl, ?_⟩ | refine WC.seq (fun K hK => ?_) | (refine hK _ _ _ ?_; clear hK K) | (refine hK _ _ _ _ rfl ?_; clear hK K) | (refine WX.thenExit (K := K) ?_; clear hK K) | (refine WX.thenExit (K := KL) ?_; clear hL KL)))
  exact WX.ret1 rfl rfl (fun w sw => ⟨[], [], ⟨rfl, rfl, rfl⟩, sw.to⟩)
theorem cell_cells {W : World} {b o : Nat} {v : Value} (h : W.cell? ⟨b, o, none⟩ = some v) : ∃ cs ty fz, W.heap[b]? = some (.cells cs ty fz) := by
  cases hb : W.heap[b]? with
  | none => simp [World.cell?, hb] at h
  | some x =>
    cases x <;> first
      | exact ⟨_, _, _, rfl⟩
      | simp [World.cell?, hb] at h
/-- What a row's list of the two tables gives. -/
theorem tabs_hp {W : World} (h : Lib.Utf8Tabs 0 1 W) : tabsP.holds (hpOf W) := by
  obtain ⟨h1, h2⟩ := h
  obtain ⟨cs, ty, fz, e1⟩ := cell_cells (h1 0 (by decide))
  obtain ⟨ds, ty2, fz2, e2⟩ := cell_cells (h2 0 (by decide)).1
  refine ⟨⟨cs, ty, fz, e1, fun c hc => ?_⟩, ⟨ds, ty2, fz2, e2, fun i hi => ⟨?_, ?_⟩⟩⟩
  · rw [← Lib.cell_of_heap e1]; exact h1 c hc
  · rw [← Lib.cell_of_heap e2]; exact (h2 i hi).1
  · rw [← Lib.cell_of_heap e2]; exact (h2 i hi).2
/-- Rows of n texts each. -/
def cutR (l : List (List UInt8)) (n m : Nat) : List RowL := (List.range m).map fun j => (l.drop (j * n)).take n
set_option maxHeartbeats 3200000 in
theorem gridTexts_fun (col : UInt8) (v0 : Value) (row : Nat) (v1 : Value) (wide : UInt8) (v2 : Value) (l : List (List UInt8)) (lv : Value) :
    Fun Tryd.prog 4 [v0, v1, v2, lv] [rd Ty.u8 col v0, rd Ty.u16 row v1, rd Ty.u8 wide v2, rd (Ty.sl Ty.str) l lv, tabsP] [] (fun z G S => z = .bool true) := by
  refine Fun.enter Tryd.func4 (by kernel_rfl) rfl Tryd.ntmps4 rfl (fun B Gf Sf => ?_); (try simp only [List.cons_append]); (try simp only [List.nil_append]); simp only [argEnv]
  refine WC.ex (fun w sw => sw.pure fun m hm => And.intro (hm (rd Ty.u8 col v0) (.head _)) (And.intro (hm (rd Ty.u16 row v1) (.tail _ (.head _))) (hm (rd Ty.u8 wide v2) (.tail _ (.tail _ (.head _)))))) (fun h0 => ?_)
  obtain ⟨⟨rfl, _⟩, ⟨rfl, h1⟩, rfl, _⟩ := h0
  dsimp only at h1 ⊢
  refine WC.ex (fun w sw => sw.len_le (RdSl.h (v := lv))) (fun hc1 => ?_)
  refine WC.sat (fun w sw => (show Sat B (rd (Ty.sl Ty.str) l lv :: tabsP :: rd Ty.u8 col (.int .u8 (col.toNat : Int)) :: rd Ty.u16 row (.int .u16 (row : Int)) :: rd Ty.u8 wide (.int .u8 (wide.toNat : Int)) :: Gf) Sf w from sw.to)) ?_
  have hb0 := col.toNat_lt
  have hb2 := wide.toNat_lt
  (repeat (first | refine vgo ?_ | refine ⟨_, rfl, rfl, ?_⟩ | refine ⟨_, rfl, ?_⟩ | refine ⟨rfl, ?_⟩ | intro hb | refine altA ?_ | refine altR ?_ | refine sideA ?_ | refine decTA ?_ | refine decFA ?_ | refine decNA ?_ | refine decBTA ?_ | refine decBFA ?_ | refine ⟨_, by assumption, ?_⟩ | refine ⟨_, _, _, rfl, ?_⟩ | refine WC.seq (fun K hK => ?_) | (refine hK _ _ _ ?_; clear hK K) | (refine hK _ _ _ _ rfl ?_; clear hK K) | (refine WX.thenExit (K := K) ?_; clear hK K) | (refine WX.thenExit (K := KL) ?_; clear hL KL)))
  refine WL.alloc rfl ?_; intro b1
  refine WL.sat (fun w sw => (sw.ownNil 27 1).rdAllNil (Ty.sl Ty.str)) ?_
  rw [show (1 : Int) + (wide.toNat : Int) % 6 = ((1 + wide.toNat % 6 : Nat) : Int) from by omega, show (1 : Int) + (col.toNat : Int) = ((1 + col.toNat : Nat) : Int) from by omega, show (1 : Int) + (row : Int) % 9000 = ((1 + row % 9000 : Nat) : Int) from by omega]
  obtain ⟨n, hn⟩ : ∃ n, n = 1 + wide.toNat % 6 := ⟨_, rfl⟩
  obtain ⟨c, hc⟩ : ∃ c, c = 1 + col.toNat := ⟨_, rfl⟩
  obtain ⟨r, hr⟩ : ∃ r, r = 1 + row % 9000 := ⟨_, rfl⟩
  rw [← hn, ← hc, ← hr]
  have hn1 : 1 ≤ n ∧ n ≤ 6 := by omega
  have hc2 : c ≤ 100000 := by omega
  have hr2 : r ≤ 100000 := by omega
  clear hn hc hr hb0 hb2 h1
  (repeat (first | refine vgo ?_ | refine ⟨_, rfl, rfl, ?_⟩ | refine ⟨_, rfl, ?_⟩ | refine ⟨rfl, ?_⟩ | intro hb | refine altA ?_ | refine altR ?_ | refine sideA ?_ | refine decTA ?_ | refine decFA ?_ | refine decNA ?_ | refine decBTA ?_ | refine decBFA ?_ | refine ⟨_, by assumption, ?_⟩ | refine ⟨_, _, _, rfl, ?_⟩ | refine WC.seq (fun K hK => ?_) | (refine hK _ _ _ ?_; clear hK K) | (refine hK _ _ _ _ rfl ?_; clear hK K) | (refine WX.thenExit (K := K) ?_; clear hK K) | (refine WX.thenExit (K := KL) ?_; clear hL KL)))
  have hfin : ∀ (C : List RowL) (cv : Value), C.length ≤ 50 → (∀ q ∈ C, q.length ≤ 10 ∧ ∀ s ∈ q, s.length ≤ 1000) → WK 82 K { w := B, r := none, ds := [] } [(10, .pointer (some ⟨b1, 0, none⟩))] (rd (Ty.sl (Ty.sl Ty.str)) C cv :: rd (Ty.sl Ty.str) l lv :: tabsP :: rd Ty.u8 col (.int .u8 (col.toNat : Int)) :: rd Ty.u16 row (.int .u16 (row : Int)) :: rd Ty.u8 wide (.int .u8 (wide.toNat : Int)) :: Gf) (gridB b1 c r cv :: Sf) := fun C cv hC1 hC2 => hK _ _ _ (by
    clear hK
    have hT1 : ∀ {G : List Pers} [GS [tabsP, rd (Ty.sl (Ty.sl Ty.str)) C cv] G], PureF Tryd.prog 9 [.agg #[.int .i64 (c : Nat), .int .i64 (r : Nat), cv]] G True (.string (bs (textM (rowsM c r C)))) := fun {G} => ⟨fun _ => PureF.of (text_fun c r C cv hc2 hr2 hC1 hC2)⟩
    have hT2 : ∀ {G : List Pers} [GS [rd (Ty.sl (Ty.sl Ty.str)) C cv] G], PureF Tryd.prog 10 [.int .i64 (c : Nat), .int .i64 (r : Nat), cv] G True (.string (bs (textM (rowsM c r C)))) := fun {G} => ⟨fun _ => PureF.of (rtext_fun c r C cv hc2 hr2 hC1 hC2)⟩
    have hT3 : ∀ {G : List Pers} [GS [tabsP] G], PureF Tryd.prog 5 [] G True (.bool true) := fun {G} => ⟨fun _ => PureF.of awake27_fun⟩
    obtain ⟨T, hT⟩ : ∃ T, T = textM (rowsM c r C) := ⟨_, rfl⟩
    rw [← hT] at hT1 hT2
    have nT : ¬ ¬ (T = T) := not_not_intro rfl
    (repeat (first | refine vgo ?_ | refine ⟨_, rfl, rfl, ?_⟩ | refine ⟨_, rfl, ?_⟩ | refine ⟨rfl, ?_⟩ | intro hb | refine altA ?_ | refine altR ?_ | refine sideA ?_ | refine decTA ?_ | refine decFA ?_ | refine decNA ?_ | refine decBTA ?_ | refine decBFA ?_ | refine ⟨_, by assumption, ?_⟩ | refine ⟨_, _, _, rfl, ?_⟩ | refine WC.seq (fun K hK => ?_) | (refine hK _ _ _ ?_; clear hK K) | (refine hK _ _ _ _ rfl ?_; clear hK K) | (refine WX.thenExit (K := K) ?_; clear hK K) | (refine WX.thenExit (K := KL) ?_; clear hL KL)))
    (apply WC.drawE; exact rfl; focus (repeat (first | exact Wo.nil | (apply Wo.keep; exact rfl) | (apply Wo.drop; exact rfl)))); (repeat refine ObP3.c0A ?_); try (refine ObP3.nil ?_; (repeat (intro _)); (conv => whnf); (try dsimp only [envO, List.cons_append, List.nil_append]))
    (repeat (first | refine vgo ?_ | refine ⟨_, rfl, rfl, ?_⟩ | refine ⟨_, rfl, ?_⟩ | refine ⟨rfl, ?_⟩ | intro hb | refine altA ?_ | refine altR ?_ | refine sideA ?_ | refine decTA ?_ | refine decFA ?_ | refine decNA ?_ | refine decBTA ?_ | refine decBFA ?_ | refine ⟨_, by assumption, ?_⟩ | refine ⟨_, _, _, rfl, ?_⟩ | refine WC.seq (fun K hK => ?_) | (refine hK _ _ _ ?_; clear hK K) | (refine hK _ _ _ _ rfl ?_; clear hK K) | (refine WX.thenExit (K := K) ?_; clear hK K) | (refine WX.thenExit (K := KL) ?_; clear hL KL)))
    exact WX.ret1 rfl rfl (fun w sw => ⟨[], [], rfl, sw.to⟩))
  clear hK
  refine WC.loop (I := Nat × Value × List Value) (fun j => [(3, lv), (9, .int .i64 (n : Nat)), (10, .pointer (some ⟨b1, 0, none⟩)), (11, .int .i64 (j.1 * n : Nat))]) (fun j => rdAll (Ty.sl Ty.str) (cutR l n j.1) j.2.2 :: rd (Ty.sl Ty.str) l lv :: tabsP :: rd Ty.u8 col (.int .u8 (col.toNat : Int)) :: rd Ty.u16 row (.int .u16 (row : Int)) :: rd Ty.u8 wide (.int .u8 (wide.toNat : Int)) :: Gf) (fun j => own 27 1 j.2.1 j.1 j.2.2 :: gridB b1 c r j.2.1 :: Sf) (fun j => j.1 * n ≤ l.length ∧ j.1 ≤ 40 ∧ ∀ q ∈ cutR l n j.1, q.length ≤ 10 ∧ ∀ s ∈ q, s.length ≤ 1000) (fun j => 50 - j.1) (0, .slice none 0 0, []) ⟨by simp, Nat.zero_le _, fun q hq => by cases hq⟩ (.cons rfl (.cons rfl (.cons rfl (.cons (by simp; rfl) .nil)))) (fun w h => (show Sat B (rdAll (Ty.sl Ty.str) [] [] :: rd (Ty.sl Ty.str) l lv :: tabsP :: rd Ty.u8 col (.int .u8 (col.toNat : Int)) :: rd Ty.u16 row (.int .u16 (row : Int)) :: rd Ty.u8 wide (.int .u8 (wide.toNat : Int)) :: Gf) (own 27 1 (.slice none 0 0) 0 [] :: gridB b1 c r (.slice none 0 0) :: Sf) w from h.to)) ?_
  rintro ⟨m, cv, vs⟩ ⟨hm1, hm2, hm3⟩ KL hL
  dsimp only at hm1 hm2 hm3 ⊢
  obtain ⟨i, hi⟩ : ∃ i, i = m * n := ⟨_, rfl⟩
  rw [← hi] at hm1 ⊢
  have hi240 : i ≤ 240 := by rw [hi]; exact Nat.mul_le_mul hm2 hn1.2
  by_cases hin : i + n ≤ l.length
  · by_cases hi40 : i < 40
    · (repeat (first | refine vgo ?_ | refine ⟨_, rfl, rfl, ?_⟩ | refine ⟨_, rfl, ?_⟩ | refine ⟨rfl, ?_⟩ | intro hb | refine altA ?_ | refine altR ?_ | refine sideA ?_ | refine decTA ?_ | refine decFA ?_ | refine decNA ?_ | refine decBTA ?_ | refine decBFA ?_ | refine ⟨_, by assumption, ?_⟩ | refine ⟨_, _, _, rfl, ?_⟩ | refine WC.seq (fun K hK => ?_) | (refine hK _ _ _ ?_; clear hK K) | (refine hK _ _ _ _ rfl ?_; clear hK K) | (refine WX.thenExit (K := K) ?_; clear hK K) | (refine WX.thenExit (K := KL) ?_; clear hL KL)))
      refine WC.loop (I := Nat) (fun k => [(3, lv), (9, .int .i64 (n : Nat)), (10, .pointer (some ⟨b1, 0, none⟩)), (11, .int .i64 (i : Nat)), (12, .int .i64 (k : Nat))]) (fun _ => rdAll (Ty.sl Ty.str) (cutR l n m) vs :: rd (Ty.sl Ty.str) l lv :: tabsP :: rd Ty.u8 col (.int .u8 (col.toNat : Int)) :: rd Ty.u16 row (.int .u16 (row : Int)) :: rd Ty.u8 wide (.int .u8 (wide.toNat : Int)) :: Gf) (fun _ => own 27 1 cv m vs :: gridB b1 c r cv :: Sf) (fun k => i ≤ k ∧ k ≤ i + n ∧ ∀ j s, i ≤ j → j < k → l[j]? = some s → s.length ≤ 300) (fun k => i + n - k) i ⟨Nat.le_refl _, Nat.le_add_right _ _, fun j s h1 h2 => absurd h1 (by omega)⟩ (.cons rfl (.cons rfl (.cons rfl (.cons rfl (.cons rfl .nil))))) (fun w h => h.to) ?_
      rintro k ⟨hk1, hk2, hk3⟩ KL2 hL2
      by_cases hk4 : k < i + n
      · obtain ⟨s, hs⟩ : ∃ s, l[k]? = some s := ⟨_, List.getElem?_eq_getElem (by omega)⟩
        by_cases hsl : 300 < s.length
        · (repeat (first | refine vgo ?_ | refine ⟨_, rfl, rfl, ?_⟩ | refine ⟨_, rfl, ?_⟩ | refine ⟨rfl, ?_⟩ | intro hb | refine altA ?_ | refine altR ?_ | refine sideA ?_ | refine decTA ?_ | refine decFA ?_ | refine decNA ?_ | refine decBTA ?_ | refine decBFA ?_ | refine ⟨_, by assumption, ?_⟩ | refine ⟨_, _, _, rfl, ?_⟩ | refine WC.seq (fun K hK => ?_) | (refine hK _ _ _ ?_; clear hK K) | (refine hK _ _ _ _ rfl ?_; clear hK K) | (refine WX.thenExit (K := K) ?_; clear hK K) | (refine WX.thenExit (K := KL) ?_; clear hL KL)))
          refine CallV.by' (awake27_fun) ?_; rintro _ _ _ ⟨rfl, rfl, rfl⟩; (try simp only [List.cons_append]); (try simp only [List.nil_append])
          (repeat (first | refine vgo ?_ | refine ⟨_, rfl, rfl, ?_⟩ | refine ⟨_, rfl, ?_⟩ | refine ⟨rfl, ?_⟩ | intro hb | refine altA ?_ | refine altR ?_ | refine sideA ?_ | refine decTA ?_ | refine decFA ?_ | refine decNA ?_ | refine decBTA ?_ | refine decBFA ?_ | refine ⟨_, by assumption, ?_⟩ | refine ⟨_, _, _, rfl, ?_⟩ | refine WC.seq (fun K hK => ?_) | (refine hK _ _ _ ?_; clear hK K) | (refine hK _ _ _ _ rfl ?_; clear hK K) | (refine WX.thenExit (K := K) ?_; clear hK K) | (refine WX.thenExit (K := KL) ?_; clear hL KL)))
          exact WX.ret1 rfl rfl (fun w sw => ⟨[], [], rfl, sw.to⟩)
        · (repeat (first | refine vgo ?_ | refine ⟨_, rfl, rfl, ?_⟩ | refine ⟨_, rfl, ?_⟩ | refine ⟨rfl, ?_⟩ | intro hb | refine altA ?_ | refine altR ?_ | refine sideA ?_ | refine decTA ?_ | refine decFA ?_ | refine decNA ?_ | refine decBTA ?_ | refine decBFA ?_ | refine ⟨_, by assumption, ?_⟩ | refine ⟨_, _, _, rfl, ?_⟩ | refine WC.seq (fun K hK => ?_) | (refine hK _ _ _ ?_; clear hK K) | (refine hK _ _ _ _ rfl ?_; clear hK K) | (refine WX.thenExit (K := K) ?_; clear hK K) | (refine WX.thenExit (K := KL) ?_; clear hL KL)))
          exact (hL2 (k + 1) ⟨by omega, by omega, fun j s' h1 h2 h3 => by
            by_cases hj : j = k
            · subst hj; rw [hs] at h3; cases h3; omega
            · exact hk3 j s' h1 (by omega) h3⟩ (by omega)).conv (.cons rfl (.cons rfl (.cons rfl (.cons rfl (.cons rfl .nil))))) (fun w h => h.to)
      · have hke : k = i + n := by omega
        subst hke
        (repeat (first | refine vgo ?_ | refine ⟨_, rfl, rfl, ?_⟩ | refine ⟨_, rfl, ?_⟩ | refine ⟨rfl, ?_⟩ | intro hb | refine altA ?_ | refine altR ?_ | refine sideA ?_ | refine decTA ?_ | refine decFA ?_ | refine decNA ?_ | refine decBTA ?_ | refine decBFA ?_ | refine ⟨_, by assumption, ?_⟩ | refine ⟨_, _, _, rfl, ?_⟩ | refine WC.seq (fun K hK => ?_) | (refine hK _ _ _ ?_; clear hK K) | (refine hK _ _ _ _ rfl ?_; clear hK K) | (refine WX.thenExit (K := K) ?_; clear hK K) | (refine WX.thenExit (K := KL) ?_; clear hL KL)))
        refine WX.thenExit ?_
        (repeat (first | refine vgo ?_ | refine ⟨_, rfl, rfl, ?_⟩ | refine ⟨_, rfl, ?_⟩ | refine ⟨rfl, ?_⟩ | intro hb | refine altA ?_ | refine altR ?_ | refine sideA ?_ | refine decTA ?_ | refine decFA ?_ | refine decNA ?_ | refine decBTA ?_ | refine decBFA ?_ | refine ⟨_, by assumption, ?_⟩ | refine ⟨_, _, _, rfl, ?_⟩ | refine WC.seq (fun K hK => ?_) | (refine hK _ _ _ ?_; clear hK K) | (refine hK _ _ _ _ rfl ?_; clear hK K) | (refine WX.thenExit (K := K) ?_; clear hK K) | (refine WX.thenExit (K := KL) ?_; clear hL KL)))
        refine WC.drawV (S := (Sf)) ([[gridB b1 c r cv], [own 27 1 cv m vs]]) rfl (by repeat (first | exact Wo.nil | (apply Wo.keep; exact rfl) | (apply Wo.drop; exact rfl))) (fun w sw => by (try simp only [List.flatten_cons, List.flatten_nil, List.append_nil, List.cons_append, List.nil_append]); exact sw.to) ?_; (try dsimp only [chunks])
        (repeat (first | refine ObP3.c0A ?_ | (apply ObP3.cons1 [1000] []; (focus ((repeat (intro _)); (conv => whnf); (try dsimp only [envO, List.cons_append, List.nil_append]); (repeat (first | refine vgo ?_ | refine ⟨_, rfl, rfl, ?_⟩ | refine ⟨_, rfl, ?_⟩ | refine ⟨rfl, ?_⟩ | intro hb | refine altA ?_ | refine altR ?_ | refine sideA ?_ | refine decTA ?_ | refine decFA ?_ | refine decNA ?_ | refine decBTA ?_ | refine decBFA ?_ | refine ⟨_, by assumption, ?_⟩ | refine ⟨_, _, _, rfl, ?_⟩ | refine WC.seq (fun K hK => ?_) | (refine hK _ _ _ ?_; clear hK K) | (refine hK _ _ _ _ rfl ?_; clear hK K) | (refine WX.thenExit (K := K) ?_; clear hK K) | (refine WX.thenExit (K := KL) ?_; clear hL KL))); first | exact WX.pgIs rfl | exact WX.pgRd rfl | exact WX.pgCell rfl | exact WX.pgNone | exact WX.pgOwn rfl)); exact rfl))); try (refine ObP3.nil ?_; (repeat (intro _)); (conv => whnf); (try dsimp only [envO, List.cons_append, List.nil_append]))
        obtain ⟨Q, hQ⟩ : ∃ Q, Q = (l.drop i).take n := ⟨_, rfl⟩
        have hQl : Q.length = n := by rw [hQ, List.length_take, List.length_drop]; omega
        obtain ⟨Qs, hQs⟩ : ∃ Qs, Qs = Q.map sV := ⟨_, rfl⟩
        refine ObP3.cons1 [] [] (.ex Value (fun a => a) (fun a => [rd (Ty.sl Ty.str) Q a]) (fun _ => [])) ?_ rfl ?_
        · (repeat (intro _)); (conv => whnf); (try dsimp only [envO, List.cons_append, List.nil_append])
          (repeat (first | refine vgo ?_ | refine ⟨_, rfl, rfl, ?_⟩ | refine ⟨_, rfl, ?_⟩ | refine ⟨rfl, ?_⟩ | intro hb | refine altA ?_ | refine altR ?_ | refine sideA ?_ | refine decTA ?_ | refine decFA ?_ | refine decNA ?_ | refine decBTA ?_ | refine decBFA ?_ | refine ⟨_, by assumption, ?_⟩ | refine ⟨_, _, _, rfl, ?_⟩ | refine WC.seq (fun K hK => ?_) | (refine hK _ _ _ ?_; clear hK K) | (refine hK _ _ _ _ rfl ?_; clear hK K) | (refine WX.thenExit (K := K) ?_; clear hK K) | (refine WX.thenExit (K := KL) ?_; clear hL KL)))
          refine SliceV.both rfl i (i + n) rfl (by omega) (by omega) (by omega) ?_
          intro r2
          rw [List.drop_take, Nat.add_sub_cancel_left, ← hQ]
          (repeat (first | refine vgo ?_ | refine ⟨_, rfl, rfl, ?_⟩ | refine ⟨_, rfl, ?_⟩ | refine ⟨rfl, ?_⟩ | intro hb | refine altA ?_ | refine altR ?_ | refine sideA ?_ | refine decTA ?_ | refine decFA ?_ | refine decNA ?_ | refine decBTA ?_ | refine decBFA ?_ | refine ⟨_, by assumption, ?_⟩ | refine ⟨_, _, _, rfl, ?_⟩ | refine WC.seq (fun K hK => ?_) | (refine hK _ _ _ ?_; clear hK K) | (refine hK _ _ _ _ rfl ?_; clear hK K) | (refine WX.thenExit (K := K) ?_; clear hK K) | (refine WX.thenExit (K := KL) ?_; clear hL KL)))
          exact WX.pgEx (fv := fun a : Value => a) r2 rfl (fun w sw => sw.to)
        refine ObP3.cons1 [] [2] (.ex Value (fun a => a) (fun _ => []) (fun a => [own 9 1 a n Qs])) ?_ rfl ?_
        · (repeat (intro _)); (conv => whnf); (try dsimp only [envO, List.cons_append, List.nil_append])
          (repeat (first | refine vgo ?_ | refine ⟨_, rfl, rfl, ?_⟩ | refine ⟨_, rfl, ?_⟩ | refine ⟨rfl, ?_⟩ | intro hb | refine altA ?_ | refine altR ?_ | refine sideA ?_ | refine decTA ?_ | refine decFA ?_ | refine decNA ?_ | refine decBTA ?_ | refine decBFA ?_ | refine ⟨_, by assumption, ?_⟩ | refine ⟨_, _, _, rfl, ?_⟩ | refine WC.seq (fun K hK => ?_) | (refine hK _ _ _ ?_; clear hK K) | (refine hK _ _ _ _ rfl ?_; clear hK K) | (refine WX.thenExit (K := K) ?_; clear hK K) | (refine WX.thenExit (K := KL) ?_; clear hL KL)))
          rw [show 0 + Q.length = n from by omega, show [] ++ flat (Q.map (fun l => Value.string { data := l.toArray })) = Qs from by rw [hQs, List.nil_append]; exact flat_sV Q]
          exact WX.pgEx (fv := fun a : Value => a) hb rfl (fun w sw => sw.to)
        refine ObP3.cons1 [] [9] (.ex (Value × Value) (fun p => p.2) (fun _ => []) (fun p => [own 27 1 p.2 1 [p.1], own 9 1 p.1 n Qs])) ?_ rfl ?_
        · (repeat (intro _)); (conv => whnf); (try dsimp only [envO, List.cons_append, List.nil_append])
          (repeat (first | refine vgo ?_ | refine ⟨_, rfl, rfl, ?_⟩ | refine ⟨_, rfl, ?_⟩ | refine ⟨rfl, ?_⟩ | intro hb | refine altA ?_ | refine altR ?_ | refine sideA ?_ | refine decTA ?_ | refine decFA ?_ | refine decNA ?_ | refine decBTA ?_ | refine decBFA ?_ | refine ⟨_, by assumption, ?_⟩ | refine ⟨_, _, _, rfl, ?_⟩ | refine WC.seq (fun K hK => ?_) | (refine hK _ _ _ ?_; clear hK K) | (refine hK _ _ _ _ rfl ?_; clear hK K) | (refine WX.thenExit (K := K) ?_; clear hK K) | (refine WX.thenExit (K := KL) ?_; clear hL KL)))
          rename_i a _ _
          rw [List.append_nil]
          exact WX.pgEx (fv := fun p : Value × Value => p.2) (a, hb) rfl (fun w sw => sw.to)
        refine ObP3.cons1 [] [1001, 10] (.ex (Value × Value) (fun p => p.2) (fun _ => []) (fun p => [own 27 1 p.2 (m + 1) (vs ++ [p.1]), own 9 1 p.1 n Qs])) ?_ rfl ?_
        · (repeat (intro _)); (conv => whnf); (try dsimp only [envO, List.cons_append, List.nil_append])
          (repeat (first | refine vgo ?_ | refine ⟨_, rfl, rfl, ?_⟩ | refine ⟨_, rfl, ?_⟩ | refine ⟨rfl, ?_⟩ | intro hb | refine altA ?_ | refine altR ?_ | refine sideA ?_ | refine decTA ?_ | refine decFA ?_ | refine decNA ?_ | refine decBTA ?_ | refine decBFA ?_ | refine ⟨_, by assumption, ?_⟩ | refine ⟨_, _, _, rfl, ?_⟩ | refine WC.seq (fun K hK => ?_) | (refine hK _ _ _ ?_; clear hK K) | (refine hK _ _ _ _ rfl ?_; clear hK K) | (refine WX.thenExit (K := K) ?_; clear hK K) | (refine WX.thenExit (K := KL) ?_; clear hL KL)))
          rename_i a _ _ _ _ _
          exact WX.pgEx (fv := fun p : Value × Value => p.2) (a.1, hb) rfl (fun w sw => sw.to)
        (repeat refine ObP3.c0B ?_); try (refine ObP3.nil ?_; (repeat (intro _)); (conv => whnf); (try dsimp only [envO, List.cons_append, List.nil_append]))
        refine ObP3.cons2 [] [1000, 11] [11] 65 (.ex (Value × Value) (fun p => p.2) (fun _ => []) (fun p => [gridB b1 c r p.2, own 27 1 p.2 (m + 1) (vs ++ [p.1]), own 9 1 p.1 n Qs])) ?_ rfl ?_
        · (repeat (intro _)); (conv => whnf); (try dsimp only [envO, List.cons_append, List.nil_append])
          (repeat (first | refine vgo ?_ | refine ⟨_, rfl, rfl, ?_⟩ | refine ⟨_, rfl, ?_⟩ | refine ⟨rfl, ?_⟩ | intro hb | refine altA ?_ | refine altR ?_ | refine sideA ?_ | refine decTA ?_ | refine decFA ?_ | refine decNA ?_ | refine decBTA ?_ | refine decBFA ?_ | refine ⟨_, by assumption, ?_⟩ | refine ⟨_, _, _, rfl, ?_⟩ | refine WC.seq (fun K hK => ?_) | (refine hK _ _ _ ?_; clear hK K) | (refine hK _ _ _ _ rfl ?_; clear hK K) | (refine WX.thenExit (K := K) ?_; clear hK K) | (refine WX.thenExit (K := KL) ?_; clear hL KL)))
          rename_i a _ _ _ _ _ _
          exact WX.pgEx (fv := fun p : Value × Value => p.2) a rfl (fun w sw => sw.to)
        (repeat refine ObP3.c0B ?_); try (refine ObP3.nil ?_; (repeat (intro _)); (conv => whnf); (try dsimp only [envO, List.cons_append, List.nil_append]))
        (repeat (first | refine vgo ?_ | refine ⟨_, rfl, rfl, ?_⟩ | refine ⟨_, rfl, ?_⟩ | refine ⟨rfl, ?_⟩ | intro hb | refine altA ?_ | refine altR ?_ | refine sideA ?_ | refine decTA ?_ | refine decFA ?_ | refine decNA ?_ | refine decBTA ?_ | refine decBFA ?_ | refine ⟨_, by assumption, ?_⟩ | refine ⟨_, _, _, rfl, ?_⟩ | refine WC.seq (fun K hK => ?_) | (refine hK _ _ _ ?_; clear hK K) | (refine hK _ _ _ _ rfl ?_; clear hK K) | (refine WX.thenExit (K := K) ?_; clear hK K) | (refine WX.thenExit (K := KL) ?_; clear hL KL)))
        rename_i a _ _ _ _ _ _
        obtain ⟨a1, a2⟩ := a
        dsimp only
        have hcut : cutR l n (m + 1) = cutR l n m ++ [Q] := by unfold cutR; rw [List.range_succ, List.map_append, List.map_cons, List.map_nil, ← hi, ← hQ]
        have hm1' : (m + 1) * n = i + n := by rw [Nat.add_mul, ← hi, Nat.one_mul]
        have hmi : m ≤ i := by rw [hi]; exact Nat.le_mul_of_pos_right m (by omega)
        have hQ3 : ∀ s ∈ Q, s.length ≤ 300 := fun s hs => by
          rw [hQ] at hs
          obtain ⟨j, hj, hjs⟩ := List.getElem_of_mem hs
          rw [List.length_take, List.length_drop] at hj
          refine hk3 (i + j) s (by omega) (by omega) ?_
          rw [List.getElem_take, List.getElem_drop] at hjs
          rw [← hjs]
          exact List.getElem?_eq_getElem _
        refine (hL (m + 1, a2, vs ++ [a1]) ⟨by dsimp only; omega, by dsimp only; omega, fun q hq => ?_⟩ (by dsimp only; omega)).conv (.cons rfl (.cons rfl (.cons rfl (.cons (by dsimp only; rw [hm1']; exact congrArg (fun z : Int => some (Value.int .i64 z)) (by omega)) .nil)))) (fun w h => ?_)
        · dsimp only at hq
          rw [hcut] at hq
          rcases List.mem_append.1 hq with hq | hq
          · exact hm3 q hq
          · rw [List.mem_singleton] at hq
            subst hq
            exact ⟨by omega, fun s hs => by have := hQ3 s hs; omega⟩
        · dsimp only
          rw [hcut]
          rw [hQs] at h
          have h0 : Sat B (rdAll (Ty.sl Ty.str) (cutR l n m) vs :: rd (Ty.sl Ty.str) l lv :: tabsP :: rd Ty.u8 col (.int .u8 (col.toNat : Int)) :: rd Ty.u16 row (.int .u16 (row : Int)) :: rd Ty.u8 wide (.int .u8 (wide.toNat : Int)) :: Gf) (own 9 1 a1 n (Q.map sV) :: gridB b1 c r a2 :: own 27 1 a2 (m + 1) (vs ++ [a1]) :: Sf) w := h.to
          have h1 := (h0.pubRow hQl.symm (fun s hs => by have := hQ3 s hs; omega)).rdAllSnoc (R := Ty.sl Ty.str) (l := cutR l n m) (a := Q) (vs := vs) (u := a1)
          exact h1.to
    · (repeat (first | refine vgo ?_ | refine ⟨_, rfl, rfl, ?_⟩ | refine ⟨_, rfl, ?_⟩ | refine ⟨rfl, ?_⟩ | intro hb | refine altA ?_ | refine altR ?_ | refine sideA ?_ | refine decTA ?_ | refine decFA ?_ | refine decNA ?_ | refine decBTA ?_ | refine decBFA ?_ | refine ⟨_, by assumption, ?_⟩ | refine ⟨_, _, _, rfl, ?_⟩ | refine WC.seq (fun K hK => ?_) | (refine hK _ _ _ ?_; clear hK K) | (refine hK _ _ _ _ rfl ?_; clear hK K) | (refine WX.thenExit (K := K) ?_; clear hK K) | (refine WX.thenExit (K := KL) ?_; clear hL KL)))
      exact (hfin (cutR l n m) cv (by rw [cutR, List.length_map, List.length_range]; omega) hm3).conv (.cons rfl .nil) (fun w sw => by
        have h3 : Sat B (rd (Ty.sl (Ty.sl Ty.str)) (cutR l n m) cv :: _) (gridB b1 c r cv :: Sf) w := sw.pubAll (R := Ty.sl Ty.str) (l := cutR l n m) (v := cv) rfl rfl rfl (by rw [cutR, List.length_map, List.length_range])
        exact h3.to)
  · (repeat (first | refine vgo ?_ | refine ⟨_, rfl, rfl, ?_⟩ | refine ⟨_, rfl, ?_⟩ | refine ⟨rfl, ?_⟩ | intro hb | refine altA ?_ | refine altR ?_ | refine sideA ?_ | refine decTA ?_ | refine decFA ?_ | refine decNA ?_ | refine decBTA ?_ | refine decBFA ?_ | refine ⟨_, by assumption, ?_⟩ | refine ⟨_, _, _, rfl, ?_⟩ | refine WC.seq (fun K hK => ?_) | (refine hK _ _ _ ?_; clear hK K) | (refine hK _ _ _ _ rfl ?_; clear hK K) | (refine WX.thenExit (K := K) ?_; clear hK K) | (refine WX.thenExit (K := KL) ?_; clear hL KL)))
    exact (hfin (cutR l n m) cv (by rw [cutR, List.length_map, List.length_range]; omega) hm3).conv (.cons rfl .nil) (fun w sw => by
      have h3 : Sat B (rd (Ty.sl (Ty.sl Ty.str)) (cutR l n m) cv :: _) (gridB b1 c r cv :: Sf) w := sw.pubAll (R := Ty.sl Ty.str) (l := cutR l n m) (v := cv) rfl rfl rfl (by rw [cutR, List.length_map, List.length_range])
      exact h3.to)
end Go.Qd
