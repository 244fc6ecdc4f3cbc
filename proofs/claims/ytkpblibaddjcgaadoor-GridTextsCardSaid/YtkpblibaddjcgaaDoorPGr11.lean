/-
  Texts of a window: the program's function.
-/
import Derived.Test.YtkpblibaddjcgaaDoorPGr10
import Derived.Test.YtkpblibaddjcgaaDoorPBld3
namespace Go.Qd
open Go Go.Proofs
/-! ### Widths of columns: a list that grows -/
abbrev nV (n : Nat) : Value := .int .i64 (n : Int)
theorem flat_nV (W : List Nat) : flat ((W.map (fun n : Nat => (n : Int))).map fun m => Value.int .i64 m) = W.map nV := by rw [flat_map_one (fun _ => rfl), List.map_map]; rfl
/-- Behind the rows R and the first k texts of the row l. -/
def WOK (R : List RowL) (l : RowL) (k : Nat) (W : List Nat) : Prop := k ≤ W.length ∧ W.length ≤ 20 ∧ (∀ q ∈ R, q.length ≤ W.length) ∧ ∀ j x, W[j]? = some x → x = max (wideM R j) (if j < k then rnA j l else 0) ∧ x ≤ 2000
theorem rnA_out {l : RowL} {j : Nat} (h : l.length ≤ j) : rnA j l = 0 := by unfold rnA; rw [List.getElem?_eq_none h]
theorem foldl_max0 : ∀ (l : List Nat), (∀ x ∈ l, x = 0) → l.foldl max 0 = 0
  | [], _ => rfl
  | x :: l, h => by
    rw [List.foldl_cons, h x (.head _)]
    exact foldl_max0 l (fun y hy => h y (.tail _ hy))
theorem wideM_out {R : List RowL} {j : Nat} (h : ∀ q ∈ R, q.length ≤ j) : wideM R j = 0 :=
  foldl_max0 _ (fun x hx => by
    obtain ⟨q, hq, rfl⟩ := List.mem_map.1 hx
    exact rnA_out (h q hq))
theorem WOK.zero : WOK [] [] 0 [] := ⟨Nat.le_refl _, Nat.zero_le _, (fun q hq => by cases hq), fun j x hx => by simp at hx⟩
theorem WOK.grow {R : List RowL} {l : RowL} {k : Nat} {W : List Nat} (h : WOK R l k W) (hk : k = W.length) (hl : k < l.length) (hl2 : l.length ≤ 20) : WOK R l k (W ++ [0]) := by
  obtain ⟨h1, h2, h3, h4⟩ := h
  refine ⟨by rw [List.length_append]; omega, by rw [List.length_append, List.length_singleton]; omega, fun q hq => by have := h3 q hq; rw [List.length_append]; omega, fun j x hx => ?_⟩
  by_cases hj : j < W.length
  · rw [List.getElem?_append_left hj] at hx
    exact h4 j x hx
  · rw [List.getElem?_append_right (by omega)] at hx
    have hj2 : j = W.length := by
      have := (List.getElem?_eq_some_iff.1 hx).1
      simp only [List.length_cons, List.length_nil] at this
      omega
    subst hj2
    rw [Nat.sub_self] at hx
    simp at hx
    subst hx
    rw [wideM_out h3, if_neg (by omega)]
    exact ⟨rfl, Nat.zero_le _⟩
theorem WOK.step {R : List RowL} {l : RowL} {k x : Nat} {W : List Nat} {s : List UInt8} (h : WOK R l k W) (hx : W[k]? = some x) (hs : l[k]? = some s) (hsl : s.length ≤ 2000) : WOK R l (k + 1) (W.set k (max x (rnF s 0))) := by
  obtain ⟨h1, h2, h3, h4⟩ := h
  have hk := (List.getElem?_eq_some_iff.1 hx).1
  refine ⟨by rw [List.length_set]; omega, by rw [List.length_set]; exact h2, fun q hq => by rw [List.length_set]; exact h3 q hq, fun j y hy => ?_⟩
  by_cases hj : j = k
  · subst hj
    rw [List.getElem?_set_self hk] at hy
    simp at hy
    subst hy
    obtain ⟨e, hle⟩ := h4 j x hx
    rw [if_neg (by omega), Nat.max_zero] at e
    rw [if_pos (by omega)]
    have e2 : rnA j l = rnF s 0 := by unfold rnA; rw [hs]
    have := rnF_len s
    rw [e2, e]
    exact ⟨rfl, by omega⟩
  · rw [List.getElem?_set_ne (by omega)] at hy
    obtain ⟨e, hle⟩ := h4 j y hy
    refine ⟨?_, hle⟩
    rw [e]
    by_cases hjk : j < k
    · rw [if_pos hjk, if_pos (by omega)]
    · rw [if_neg hjk, if_neg (by omega)]
theorem WOK.next {R : List RowL} {l l' : RowL} {W : List Nat} (h : WOK R l l.length W) : WOK (R ++ [l]) l' 0 W := by
  obtain ⟨h1, h2, h3, h4⟩ := h
  refine ⟨Nat.zero_le _, h2, fun q hq => ?_, fun j x hx => ?_⟩
  · rcases List.mem_append.1 hq with hq | hq
    · exact h3 q hq
    · rw [List.mem_singleton] at hq; subst hq; exact h1
  · obtain ⟨e, hle⟩ := h4 j x hx
    refine ⟨?_, hle⟩
    rw [if_neg (by omega), Nat.max_zero, wideM_snoc, e]
    by_cases hj : j < l.length
    · rw [if_pos hj]
    · rw [if_neg hj, rnA_out (by omega)]
theorem WOK.get {R : List RowL} {l : RowL} {k : Nat} {W : List Nat} (h : WOK R l 0 W) {q : RowL} (hq : q ∈ R) (hk : k < q.length) : W[k]? = some (wideM R k) := by
  obtain ⟨h1, h2, h3, h4⟩ := h
  have := h3 q hq
  obtain ⟨x, hx⟩ : ∃ x, W[k]? = some x := ⟨_, List.getElem?_eq_getElem (by omega)⟩
  obtain ⟨e, _⟩ := h4 k x hx
  rw [if_neg (by omega), Nat.max_zero] at e
  rw [hx, e]
abbrev gridB (b col row : Nat) (cv : Value) : Res := box b 32 [.int .i64 (col : Nat), .int .i64 (row : Nat), cv]
set_option maxHeartbeats 3200000 in
theorem text_fun (col row : Nat) (cells : List RowL) (cv : Value) (hcol : col ≤ 100000) (hrow : row ≤ 100000) (hn : cells.length ≤ 50) (hc : ∀ l ∈ cells, l.length ≤ 10 ∧ ∀ s ∈ l, s.length ≤ 1000) :
    Fun Tryd.prog 9 [.agg #[.int .i64 (col : Nat), .int .i64 (row : Nat), cv]] [tabsP, rd (Ty.sl (Ty.sl Ty.str)) cells cv] [] (fun z G S => z = .string (bs (textM (rowsM col row cells))) ∧ G = [] ∧ S = []) := by
  refine Fun.enter Tryd.func9 (by kernel_rfl) rfl Tryd.ntmps9 rfl (fun B Gf Sf => ?_); (try simp only [List.cons_append]); (try simp only [List.nil_append]); simp only [argEnv]
  (repeat (first | refine vgo ?_ | refine ⟨_, rfl, rfl, ?_⟩ | refine ⟨_, rfl, ?_⟩ | refine ⟨rfl, ?_⟩ | intro hb | refine altA ?_ | refine altR ?_ | refine sideA ?_ | refine decTA ?_ | refine decFA ?_ | refine decNA ?_ | refine decBTA ?_ | refine decBFA ?_ | refine ⟨_, by assumption, ?_⟩ | refine ⟨_, _, _, rfl, ?_⟩ | refine WC.seq (fun K hK => ?_) | (refine hK _ _ _ ?_; clear hK K) | (refine hK _ _ _ _ rfl ?_; clear hK K) | (refine WX.thenExit (K := K) ?_; clear hK K) | (refine WX.thenExit (K := KL) ?_; clear hL KL)))
  (first | refine WL.boxA rfl rfl ?_ | refine WL.box rfl rfl rfl ?_); intro b1
  obtain ⟨hR, hl⟩ := rowsM_ok col row cells hrow hn hc
  generalize hRR : rowsM col row cells = R at *
  (repeat (first | refine vgo ?_ | refine ⟨_, rfl, rfl, ?_⟩ | refine ⟨_, rfl, ?_⟩ | refine ⟨rfl, ?_⟩ | intro hb | refine altA ?_ | refine altR ?_ | refine sideA ?_ | refine decTA ?_ | refine decFA ?_ | refine decNA ?_ | refine decBTA ?_ | refine decBFA ?_ | refine ⟨_, by assumption, ?_⟩ | refine ⟨_, _, _, rfl, ?_⟩ | refine WC.seq (fun K hK => ?_) | (refine hK _ _ _ ?_; clear hK K) | (refine hK _ _ _ _ rfl ?_; clear hK K) | (refine WX.thenExit (K := K) ?_; clear hK K) | (refine WX.thenExit (K := KL) ?_; clear hL KL)))
  have ph : ∀ v : Value, WK 131 K { w := B, r := none, ds := [] } [(1, .pointer (some ⟨b1, 0, none⟩)), (3, v)] (rd (Ty.sl (Ty.sl Ty.str)) R v :: tabsP :: rd (Ty.sl (Ty.sl Ty.str)) cells cv :: Gf) (gridB b1 col row cv :: Sf) := fun v => hK _ _ _ (by
    clear hK
    refine WC.ex (fun w sw => sw.len_le (RdSl.h (v := v))) (fun hc1 => ?_)
    refine WC.sat (fun w sw => sw.ownNil 3 1) ?_
    obtain ⟨Gb, hGb⟩ : ∃ r : Res, r = gridB b1 col row cv := ⟨_, rfl⟩
    rw [← hGb]
    (repeat (first | refine vgo ?_ | refine ⟨_, rfl, rfl, ?_⟩ | refine ⟨_, rfl, ?_⟩ | refine ⟨rfl, ?_⟩ | intro hb | refine altA ?_ | refine altR ?_ | refine sideA ?_ | refine decTA ?_ | refine decFA ?_ | refine decNA ?_ | refine decBTA ?_ | refine decBFA ?_ | refine ⟨_, by assumption, ?_⟩ | refine ⟨_, _, _, rfl, ?_⟩ | refine WC.seq (fun K hK => ?_) | (refine hK _ _ _ ?_; clear hK K) | (refine hK _ _ _ _ rfl ?_; clear hK K) | (refine WX.thenExit (K := K) ?_; clear hK K) | (refine WX.thenExit (K := KL) ?_; clear hL KL)))
    refine WC.loop (I := Nat × Value × List Nat) (fun j => [(3, v), (9, j.2.1), (71, v), (72, .int .i64 (R.length : Nat)), (73, .int .i64 (j.1 : Nat))]) (fun _ => rd (Ty.sl (Ty.sl Ty.str)) R v :: tabsP :: rd (Ty.sl (Ty.sl Ty.str)) cells cv :: Gf) (fun j => own 3 1 j.2.1 j.2.2.length (j.2.2.map nV) :: Gb :: Sf) (fun j => j.1 ≤ R.length ∧ WOK (R.take j.1) [] 0 j.2.2) (fun j => R.length - j.1) (0, .slice none 0 0, []) ⟨Nat.zero_le _, WOK.zero⟩ (.cons rfl (.cons rfl (.cons rfl (.cons rfl (.cons rfl .nil))))) (fun w h => h) ?_
    rintro ⟨i, wv, W⟩ ⟨hi, hW⟩ KL hL
    dsimp only at hi hW ⊢
    by_cases hi2 : i < R.length
    · obtain ⟨l, hli⟩ : ∃ l, R[i]? = some l := ⟨_, List.getElem?_eq_getElem hi2⟩
      obtain ⟨hl1, hl2⟩ := hl l (List.mem_of_getElem? hli)
      have htr : R.take (i + 1) = R.take i ++ [l] := by rw [List.take_add_one, hli]; rfl
      (repeat (first | refine vgo ?_ | refine ⟨_, rfl, rfl, ?_⟩ | refine ⟨_, rfl, ?_⟩ | refine ⟨rfl, ?_⟩ | intro hb | refine altA ?_ | refine altR ?_ | refine sideA ?_ | refine decTA ?_ | refine decFA ?_ | refine decNA ?_ | refine decBTA ?_ | refine decBFA ?_ | refine ⟨_, by assumption, ?_⟩ | refine ⟨_, _, _, rfl, ?_⟩ | refine WC.seq (fun K hK => ?_) | (refine hK _ _ _ ?_; clear hK K) | (refine hK _ _ _ _ rfl ?_; clear hK K) | (refine WX.thenExit (K := K) ?_; clear hK K) | (refine WX.thenExit (K := KL) ?_; clear hL KL)))
      rename Value => lv0
      refine WC.loop (I := Nat × Value × List Nat) (fun j => [(3, v), (9, j.2.1), (71, v), (72, .int .i64 (R.length : Nat)), (73, .int .i64 (i : Nat)), (77, lv0), (78, .int .i64 (l.length : Nat)), (79, .int .i64 (j.1 : Nat))]) (fun _ => rd (Ty.sl Ty.str) l lv0 :: rd (Ty.sl (Ty.sl Ty.str)) R v :: tabsP :: rd (Ty.sl (Ty.sl Ty.str)) cells cv :: Gf) (fun j => own 3 1 j.2.1 j.2.2.length (j.2.2.map nV) :: Gb :: Sf) (fun j => j.1 ≤ l.length ∧ WOK (R.take i) l j.1 j.2.2) (fun j => l.length - j.1) (0, wv, W) ⟨Nat.zero_le _, hW.1, hW.2.1, hW.2.2.1, hW.2.2.2⟩ (.cons rfl (.cons rfl (.cons rfl (.cons rfl (.cons rfl (.cons rfl (.cons rfl (.cons rfl .nil)))))))) (fun w h => h.to) ?_
      clear hW
      rintro ⟨k, wv2, W2⟩ ⟨hk, hW⟩ KL2 hL2
      dsimp only at hk hW ⊢
      by_cases hk2 : k < l.length
      · obtain ⟨s, hs⟩ : ∃ s, l[k]? = some s := ⟨_, List.getElem?_eq_getElem hk2⟩
        have hsl := hl2 s (List.mem_of_getElem? hs)
        have hWl := hW.2.1
        have rcp : ∀ {G : List Pers}, PureF Tryd.prog 11 [.string (bs s)] G True (.int .i64 (rnF s 0 : Nat)) := fun {G} => ⟨fun _ => PureF.of0 (rcount_fun s (by omega))⟩
        by_cases hkw : k = W2.length
        · have hW3 := hW.grow hkw hk2 hl1
          have hlk : (k : Int) = (W2.length : Nat) := by omega
          (repeat (first | refine vgo ?_ | refine ⟨_, rfl, rfl, ?_⟩ | refine ⟨_, rfl, ?_⟩ | refine ⟨rfl, ?_⟩ | intro hb | refine altA ?_ | refine altR ?_ | refine sideA ?_ | refine decTA ?_ | refine decFA ?_ | refine decNA ?_ | refine decBTA ?_ | refine decBFA ?_ | refine ⟨_, by assumption, ?_⟩ | refine ⟨_, _, _, rfl, ?_⟩ | refine WC.seq (fun K hK => ?_) | (refine hK _ _ _ ?_; clear hK K) | (refine hK _ _ _ _ rfl ?_; clear hK K) | (refine WX.thenExit (K := K) ?_; clear hK K) | (refine WX.thenExit (K := KL) ?_; clear hL KL)))
          rw [show W2.map nV ++ ([Value.int .i64 0] ++ []) = (W2 ++ [0]).map nV from by rw [List.map_append]; rfl, show W2.length + 1 = (W2 ++ [0]).length from by simp]
          have hW3l : (W2 ++ [0]).length = W2.length + 1 := by simp
          obtain ⟨W3, hW3e⟩ : ∃ W3, W3 = W2 ++ [0] := ⟨_, rfl⟩
          rw [← hW3e] at hW3 hW3l ⊢
          obtain ⟨x, hx⟩ : ∃ x, W3[k]? = some x := ⟨_, List.getElem?_eq_getElem (by omega)⟩
          have hx3 := (hW3.2.2.2 k x hx).2
          refine WC.openOwn (v := hb) (fun e m0 => absurd m0 (by omega)) (fun bw cp cs e hmc hcp hcl hct => ?_)
          subst e
          have hget : cs[((k : Nat) : Int).toNat]? = some (nV x) := by
            have h1 : (cs.take (W3.length * 1))[k]? = some (nV x) := by rw [hct, List.getElem?_map, hx]; rfl
            rw [Int.toNat_natCast]
            rw [List.getElem?_take, if_pos (by omega)] at h1
            exact h1
          refine WC.drawV (S := (Gb :: Sf)) ([[box bw 3 cs]]) rfl (by repeat (first | exact Wo.nil | (apply Wo.keep; exact rfl) | (apply Wo.drop; exact rfl))) (fun w sw => by (try simp only [List.flatten_cons, List.flatten_nil, List.append_nil, List.cons_append, List.nil_append]); exact sw.to) ?_; (try dsimp only [chunks])
          (repeat (first | refine ObP3.c0A ?_ | (apply ObP3.cons1 [1000] []; (focus ((repeat (intro _)); (conv => whnf); (try dsimp only [envO, List.cons_append, List.nil_append]); (repeat (first | refine vgo ?_ | refine ⟨_, rfl, rfl, ?_⟩ | refine ⟨_, rfl, ?_⟩ | refine ⟨rfl, ?_⟩ | intro hb | refine altA ?_ | refine altR ?_ | refine sideA ?_ | refine decTA ?_ | refine decFA ?_ | refine decNA ?_ | refine decBTA ?_ | refine decBFA ?_ | refine ⟨_, by assumption, ?_⟩ | refine ⟨_, _, _, rfl, ?_⟩ | refine WC.seq (fun K hK => ?_) | (refine hK _ _ _ ?_; clear hK K) | (refine hK _ _ _ _ rfl ?_; clear hK K) | (refine WX.thenExit (K := K) ?_; clear hK K) | (refine WX.thenExit (K := KL) ?_; clear hL KL))); first | exact WX.pgIs rfl | exact WX.pgRd rfl | exact WX.pgCell rfl | exact WX.pgNone | exact WX.pgOwn rfl)); exact rfl))); try (refine ObP3.nil ?_; (repeat (intro _)); (conv => whnf); (try dsimp only [envO, List.cons_append, List.nil_append]))
          (apply ObP3.cons1 [] [1000]; (focus ((repeat (intro _)); (conv => whnf); (try dsimp only [envO, List.cons_append, List.nil_append]); (repeat (first | refine vgo ?_ | refine ⟨_, rfl, rfl, ?_⟩ | refine ⟨_, rfl, ?_⟩ | refine ⟨rfl, ?_⟩ | intro hb | refine altA ?_ | refine altR ?_ | refine sideA ?_ | refine decTA ?_ | refine decFA ?_ | refine decNA ?_ | refine decBTA ?_ | refine decBFA ?_ | refine ⟨_, by assumption, ?_⟩ | refine ⟨_, _, _, rfl, ?_⟩ | refine WC.seq (fun K hK => ?_) | (refine hK _ _ _ ?_; clear hK K) | (refine hK _ _ _ _ rfl ?_; clear hK K) | (refine WX.thenExit (K := K) ?_; clear hK K) | (refine WX.thenExit (K := KL) ?_; clear hL KL))); first | exact WX.pgHeadV rfl | exact WX.pgHead | exact WX.pgOwn rfl)); exact rfl)
          (repeat refine ObP3.c0A ?_); try (refine ObP3.nil ?_; (repeat (intro _)); (conv => whnf); (try dsimp only [envO, List.cons_append, List.nil_append]))
          (repeat (first | refine vgo ?_ | refine ⟨_, rfl, rfl, ?_⟩ | refine ⟨_, rfl, ?_⟩ | refine ⟨rfl, ?_⟩ | intro hb | refine altA ?_ | refine altR ?_ | refine sideA ?_ | refine decTA ?_ | refine decFA ?_ | refine decNA ?_ | refine decBTA ?_ | refine decBFA ?_ | refine ⟨_, by assumption, ?_⟩ | refine ⟨_, _, _, rfl, ?_⟩ | refine WC.seq (fun K hK => ?_) | (refine hK _ _ _ ?_; clear hK K) | (refine hK _ _ _ _ rfl ?_; clear hK K) | (refine WX.thenExit (K := K) ?_; clear hK K) | (refine WX.thenExit (K := KL) ?_; clear hL KL)))
          refine (hL2 (k + 1, .slice (some ⟨bw, 0, none⟩) W3.length cp, W3.set k (max x (rnF s 0))) ⟨by dsimp only; omega, hW3.step hx hs hsl⟩ (by dsimp only; omega)).conv (.cons rfl (.cons rfl (.cons rfl (.cons rfl (.cons rfl (.cons rfl (.cons rfl (.cons rfl .nil)))))))) (fun w h => ?_)
          have h1 := h.closeOwn (b := bw) (cp := cp) 1 W3.length (by rw [List.length_set, hcl]) hmc hcp
          have e3 : (cs.set k (.int .i64 (max (x : Int) (rnF s 0 : Nat)))).take (W3.length * 1) = (W3.set k (max x (rnF s 0))).map nV := by
            rw [List.take_set, hct, List.map_set, show max (x : Int) ((rnF s 0 : Nat) : Int) = ((max x (rnF s 0) : Nat) : Int) from by omega]
          rw [e3] at h1
          dsimp only
          rw [List.length_set]
          exact h1.to
        · have hkw2 : k < W2.length := by have := hW.1; omega
          (repeat (first | refine vgo ?_ | refine ⟨_, rfl, rfl, ?_⟩ | refine ⟨_, rfl, ?_⟩ | refine ⟨rfl, ?_⟩ | intro hb | refine altA ?_ | refine altR ?_ | refine sideA ?_ | refine decTA ?_ | refine decFA ?_ | refine decNA ?_ | refine decBTA ?_ | refine decBFA ?_ | refine ⟨_, by assumption, ?_⟩ | refine ⟨_, _, _, rfl, ?_⟩ | refine WC.seq (fun K hK => ?_) | (refine hK _ _ _ ?_; clear hK K) | (refine hK _ _ _ _ rfl ?_; clear hK K) | (refine WX.thenExit (K := K) ?_; clear hK K) | (refine WX.thenExit (K := KL) ?_; clear hL KL)))
          obtain ⟨x, hx⟩ : ∃ x, W2[k]? = some x := ⟨_, List.getElem?_eq_getElem (by omega)⟩
          have hx3 := (hW.2.2.2 k x hx).2
          refine WC.openOwn (v := wv2) (fun e m0 => absurd m0 (by omega)) (fun bw cp cs e hmc hcp hcl hct => ?_)
          subst e
          have hget : cs[((k : Nat) : Int).toNat]? = some (nV x) := by
            have h1 : (cs.take (W2.length * 1))[k]? = some (nV x) := by rw [hct, List.getElem?_map, hx]; rfl
            rw [Int.toNat_natCast]
            rw [List.getElem?_take, if_pos (by omega)] at h1
            exact h1
          refine WC.drawV (S := (Gb :: Sf)) ([[box bw 3 cs]]) rfl (by repeat (first | exact Wo.nil | (apply Wo.keep; exact rfl) | (apply Wo.drop; exact rfl))) (fun w sw => by (try simp only [List.flatten_cons, List.flatten_nil, List.append_nil, List.cons_append, List.nil_append]); exact sw.to) ?_; (try dsimp only [chunks])
          (repeat (first | refine ObP3.c0A ?_ | (apply ObP3.cons1 [1000] []; (focus ((repeat (intro _)); (conv => whnf); (try dsimp only [envO, List.cons_append, List.nil_append]); (repeat (first | refine vgo ?_ | refine ⟨_, rfl, rfl, ?_⟩ | refine ⟨_, rfl, ?_⟩ | refine ⟨rfl, ?_⟩ | intro hb | refine altA ?_ | refine altR ?_ | refine sideA ?_ | refine decTA ?_ | refine decFA ?_ | refine decNA ?_ | refine decBTA ?_ | refine decBFA ?_ | refine ⟨_, by assumption, ?_⟩ | refine ⟨_, _, _, rfl, ?_⟩ | refine WC.seq (fun K hK => ?_) | (refine hK _ _ _ ?_; clear hK K) | (refine hK _ _ _ _ rfl ?_; clear hK K) | (refine WX.thenExit (K := K) ?_; clear hK K) | (refine WX.thenExit (K := KL) ?_; clear hL KL))); first | exact WX.pgIs rfl | exact WX.pgRd rfl | exact WX.pgCell rfl | exact WX.pgNone | exact WX.pgOwn rfl)); exact rfl))); try (refine ObP3.nil ?_; (repeat (intro _)); (conv => whnf); (try dsimp only [envO, List.cons_append, List.nil_append]))
          (apply ObP3.cons1 [] [1000]; (focus ((repeat (intro _)); (conv => whnf); (try dsimp only [envO, List.cons_append, List.nil_append]); (repeat (first | refine vgo ?_ | refine ⟨_, rfl, rfl, ?_⟩ | refine ⟨_, rfl, ?_⟩ | refine ⟨rfl, ?_⟩ | intro hb | refine altA ?_ | refine altR ?_ | refine sideA ?_ | refine decTA ?_ | refine decFA ?_ | refine decNA ?_ | refine decBTA ?_ | refine decBFA ?_ | refine ⟨_, by assumption, ?_⟩ | refine ⟨_, _, _, rfl, ?_⟩ | refine WC.seq (fun K hK => ?_) | (refine hK _ _ _ ?_; clear hK K) | (refine hK _ _ _ _ rfl ?_; clear hK K) | (refine WX.thenExit (K := K) ?_; clear hK K) | (refine WX.thenExit (K := KL) ?_; clear hL KL))); first | exact WX.pgHeadV rfl | exact WX.pgHead | exact WX.pgOwn rfl)); exact rfl)
          (repeat refine ObP3.c0A ?_); try (refine ObP3.nil ?_; (repeat (intro _)); (conv => whnf); (try dsimp only [envO, List.cons_append, List.nil_append]))
          (repeat (first | refine vgo ?_ | refine ⟨_, rfl, rfl, ?_⟩ | refine ⟨_, rfl, ?_⟩ | refine ⟨rfl, ?_⟩ | intro hb | refine altA ?_ | refine altR ?_ | refine sideA ?_ | refine decTA ?_ | refine decFA ?_ | refine decNA ?_ | refine decBTA ?_ | refine decBFA ?_ | refine ⟨_, by assumption, ?_⟩ | refine ⟨_, _, _, rfl, ?_⟩ | refine WC.seq (fun K hK => ?_) | (refine hK _ _ _ ?_; clear hK K) | (refine hK _ _ _ _ rfl ?_; clear hK K) | (refine WX.thenExit (K := K) ?_; clear hK K) | (refine WX.thenExit (K := KL) ?_; clear hL KL)))
          refine (hL2 (k + 1, .slice (some ⟨bw, 0, none⟩) W2.length cp, W2.set k (max x (rnF s 0))) ⟨by dsimp only; omega, hW.step hx hs hsl⟩ (by dsimp only; omega)).conv (.cons rfl (.cons rfl (.cons rfl (.cons rfl (.cons rfl (.cons rfl (.cons rfl (.cons rfl .nil)))))))) (fun w h => ?_)
          have h1 := h.closeOwn (b := bw) (cp := cp) 1 W2.length (by rw [List.length_set, hcl]) hmc hcp
          have e3 : (cs.set k (.int .i64 (max (x : Int) (rnF s 0 : Nat)))).take (W2.length * 1) = (W2.set k (max x (rnF s 0))).map nV := by
            rw [List.take_set, hct, List.map_set, show max (x : Int) ((rnF s 0 : Nat) : Int) = ((max x (rnF s 0) : Nat) : Int) from by omega]
          rw [e3] at h1
          dsimp only
          rw [List.length_set]
          exact h1.to
      · have hke : k = l.length := by omega
        subst hke
        (repeat (first | refine vgo ?_ | refine ⟨_, rfl, rfl, ?_⟩ | refine ⟨_, rfl, ?_⟩ | refine ⟨rfl, ?_⟩ | intro hb | refine altA ?_ | refine altR ?_ | refine sideA ?_ | refine decTA ?_ | refine decFA ?_ | refine decNA ?_ | refine decBTA ?_ | refine decBFA ?_ | refine ⟨_, by assumption, ?_⟩ | refine ⟨_, _, _, rfl, ?_⟩ | refine WC.seq (fun K hK => ?_) | (refine hK _ _ _ ?_; clear hK K) | (refine hK _ _ _ _ rfl ?_; clear hK K) | (refine WX.thenExit (K := K) ?_; clear hK K) | (refine WX.thenExit (K := KL) ?_; clear hL KL)))
        refine WX.thenExit ?_
        (repeat (first | refine vgo ?_ | refine ⟨_, rfl, rfl, ?_⟩ | refine ⟨_, rfl, ?_⟩ | refine ⟨rfl, ?_⟩ | intro hb | refine altA ?_ | refine altR ?_ | refine sideA ?_ | refine decTA ?_ | refine decFA ?_ | refine decNA ?_ | refine decBTA ?_ | refine decBFA ?_ | refine ⟨_, by assumption, ?_⟩ | refine ⟨_, _, _, rfl, ?_⟩ | refine WC.seq (fun K hK => ?_) | (refine hK _ _ _ ?_; clear hK K) | (refine hK _ _ _ _ rfl ?_; clear hK K) | (refine WX.thenExit (K := K) ?_; clear hK K) | (refine WX.thenExit (K := KL) ?_; clear hL KL)))
        exact (hL (i + 1, wv2, W2) ⟨by dsimp only; omega, by dsimp only; rw [htr]; exact hW.next⟩ (by dsimp only; omega)).conv (.cons rfl (.cons rfl (.cons rfl (.cons rfl (.cons rfl .nil))))) (fun w h => h.to)
    · have hie : i = R.length := by omega
      subst hie
      rw [List.take_length] at hW
      (repeat (first | refine vgo ?_ | refine ⟨_, rfl, rfl, ?_⟩ | refine ⟨_, rfl, ?_⟩ | refine ⟨rfl, ?_⟩ | intro hb | refine altA ?_ | refine altR ?_ | refine sideA ?_ | refine decTA ?_ | refine decFA ?_ | refine decNA ?_ | refine decBTA ?_ | refine decBFA ?_ | refine ⟨_, by assumption, ?_⟩ | refine ⟨_, _, _, rfl, ?_⟩ | refine WC.seq (fun K hK => ?_) | (refine hK _ _ _ ?_; clear hK K) | (refine hK _ _ _ _ rfl ?_; clear hK K) | (refine WX.thenExit (K := K) ?_; clear hK K) | (refine WX.thenExit (K := KL) ?_; clear hL KL)))
      refine WL.alloc rfl ?_; intro bb
      refine WL.sat (fun w sw => sw.pub (R := Ty.i64) (l := W.map (fun n : Nat => (n : Int))) (v := wv) SelOwn.h rfl (flat_nV W).symm (by rw [List.length_map]) (fun a ha => by
        obtain ⟨x, hx, rfl⟩ := List.mem_map.1 ha
        obtain ⟨j, hj, hjx⟩ := List.getElem_of_mem hx
        have := (hW.2.2.2 j x (by rw [← hjx]; exact List.getElem?_eq_getElem hj)).2
        omega)) ?_
      have hWg : ∀ k l, l ∈ R → k < l.length → (W.map (fun n : Nat => (n : Int)))[k]? = some ((wideM R k : Nat) : Int) := fun k l hlR hk => by rw [List.getElem?_map, hW.get hlR hk]; rfl
      generalize W.map (fun n : Nat => (n : Int)) = Wi at hWg ⊢
      clear hW
      refine WL.sat (fun w sw => sw.ownNil 5 1) ?_
      (repeat (first | refine vgo ?_ | refine ⟨_, rfl, rfl, ?_⟩ | refine ⟨_, rfl, ?_⟩ | refine ⟨rfl, ?_⟩ | intro hb | refine altA ?_ | refine altR ?_ | refine sideA ?_ | refine decTA ?_ | refine decFA ?_ | refine decNA ?_ | refine decBTA ?_ | refine decBFA ?_ | refine ⟨_, by assumption, ?_⟩ | refine ⟨_, _, _, rfl, ?_⟩ | refine WC.seq (fun K hK => ?_) | (refine hK _ _ _ ?_; clear hK K) | (refine hK _ _ _ _ rfl ?_; clear hK K) | (refine WX.thenExit (K := K) ?_; clear hK K) | (refine WX.thenExit (K := KL) ?_; clear hL KL)))
      refine WC.loop (I := Nat × Value × Value × List UInt8) (fun j => [(9, wv), (14, pB bb), (103, v), (104, .int .i64 (R.length : Nat)), (105, .int .i64 (j.1 : Nat))]) (fun _ => rd (Ty.sl Ty.i64) Wi wv :: rd (Ty.sl (Ty.sl Ty.str)) R v :: tabsP :: rd (Ty.sl (Ty.sl Ty.str)) cells cv :: Gf) (fun j => bldS bb j.2.1 j.2.2.1 j.2.2.2 ++ Gb :: Sf) (fun j => j.1 ≤ R.length ∧ (j.2.1 = .pointer none ∨ j.2.1 = pB bb) ∧ j.2.2.2 = ((R.take j.1).map (lineM R)).flatten ∧ j.2.2.2.length ≤ j.1 * 100000) (fun j => R.length - j.1) (0, .pointer none, .slice none 0 0, []) ⟨Nat.zero_le _, .inl rfl, rfl, Nat.zero_le _⟩ (.cons rfl (.cons rfl (.cons rfl (.cons rfl (.cons rfl .nil))))) (fun w h => (show Sat B (rd (Ty.sl Ty.i64) Wi wv :: rd (Ty.sl (Ty.sl Ty.str)) R v :: tabsP :: rd (Ty.sl (Ty.sl Ty.str)) cells cv :: Gf) (box bb 42 [.pointer none, .slice none 0 0] :: own 5 1 (.slice none 0 0) 0 [] :: Gb :: Sf) w from h.to)) ?_
      rintro ⟨i, p, bv, o⟩ ⟨hi3, hp, ho, hol⟩ KL hL
      simp only [bldS, List.cons_append, List.nil_append] at hi3 hp ho hol hL ⊢
      by_cases hi4 : i < R.length
      · obtain ⟨l, hli⟩ : ∃ l, R[i]? = some l := ⟨_, List.getElem?_eq_getElem hi4⟩
        have hlm := List.mem_of_getElem? hli
        obtain ⟨hl1, hl2⟩ := hl l hlm
        have htr : R.take (i + 1) = R.take i ++ [l] := by rw [List.take_add_one, hli]; rfl
        (repeat (first | refine vgo ?_ | refine ⟨_, rfl, rfl, ?_⟩ | refine ⟨_, rfl, ?_⟩ | refine ⟨rfl, ?_⟩ | intro hb | refine altA ?_ | refine altR ?_ | refine sideA ?_ | refine decTA ?_ | refine decFA ?_ | refine decNA ?_ | refine decBTA ?_ | refine decBFA ?_ | refine ⟨_, by assumption, ?_⟩ | refine ⟨_, _, _, rfl, ?_⟩ | refine WC.seq (fun K hK => ?_) | (refine hK _ _ _ ?_; clear hK K) | (refine hK _ _ _ _ rfl ?_; clear hK K) | (refine WX.thenExit (K := K) ?_; clear hK K) | (refine WX.thenExit (K := KL) ?_; clear hL KL)))
        rename Value => lv0
        refine WC.loop (I := Nat × List UInt8) (fun j => [(9, wv), (14, pB bb), (103, v), (104, .int .i64 (R.length : Nat)), (105, .int .i64 (i : Nat)), (17, .string (bs j.2)), (109, lv0), (110, .int .i64 (l.length : Nat)), (111, .int .i64 (j.1 : Nat))]) (fun _ => rd (Ty.sl Ty.str) l lv0 :: rd (Ty.sl Ty.i64) Wi wv :: rd (Ty.sl (Ty.sl Ty.str)) R v :: tabsP :: rd (Ty.sl (Ty.sl Ty.str)) cells cv :: Gf) (fun _ => box bb 42 [p, bv] :: own 5 1 bv o.length (o.map cU) :: Gb :: Sf) (fun j => j.1 ≤ l.length ∧ j.2 = lineF (wideM R) 0 (l.take j.1) ∧ j.2.length ≤ j.1 * 4100) (fun j => l.length - j.1) (0, []) ⟨Nat.zero_le _, rfl, Nat.zero_le _⟩ (.cons rfl (.cons rfl (.cons rfl (.cons rfl (.cons rfl (.cons rfl (.cons rfl (.cons rfl (.cons rfl .nil))))))))) (fun w h => h.to) ?_
        rintro ⟨k, o2⟩ ⟨hk, ho2, hol2⟩ KL2 hL2
        dsimp only at hk ho2 hol2 ⊢
        by_cases hk2 : k < l.length
        · obtain ⟨s, hs⟩ : ∃ s, l[k]? = some s := ⟨_, List.getElem?_eq_getElem hk2⟩
          have hsl := hl2 s (List.mem_of_getElem? hs)
          have hwk := hWg k l hlm hk2
          have hwl : wideM R k ≤ 2000 := wideM_le (fun l hl0 s hs => (hl l hl0).2 s hs)
          have hpl := padM_len s (wideM R k)
          (repeat (first | refine vgo ?_ | refine ⟨_, rfl, rfl, ?_⟩ | refine ⟨_, rfl, ?_⟩ | refine ⟨rfl, ?_⟩ | intro hb | refine altA ?_ | refine altR ?_ | refine sideA ?_ | refine decTA ?_ | refine decFA ?_ | refine decNA ?_ | refine decBTA ?_ | refine decBFA ?_ | refine ⟨_, by assumption, ?_⟩ | refine ⟨_, _, _, rfl, ?_⟩ | refine WC.seq (fun K hK => ?_) | (refine hK _ _ _ ?_; clear hK K) | (refine hK _ _ _ _ rfl ?_; clear hK K) | (refine WX.thenExit (K := K) ?_; clear hK K) | (refine WX.thenExit (K := KL) ?_; clear hL KL)))
          refine CallV.by' (padded_fun s (wideM R k) (by omega) (by omega) (le_wideM hlm hs)) ?_; rintro _ _ _ ⟨rfl, rfl, rfl⟩; (try simp only [List.cons_append]); (try simp only [List.nil_append])
          (repeat (first | refine vgo ?_ | refine ⟨_, rfl, rfl, ?_⟩ | refine ⟨_, rfl, ?_⟩ | refine ⟨rfl, ?_⟩ | intro hb | refine altA ?_ | refine altR ?_ | refine sideA ?_ | refine decTA ?_ | refine decFA ?_ | refine decNA ?_ | refine decBTA ?_ | refine decBFA ?_ | refine ⟨_, by assumption, ?_⟩ | refine ⟨_, _, _, rfl, ?_⟩ | refine WC.seq (fun K hK => ?_) | (refine hK _ _ _ ?_; clear hK K) | (refine hK _ _ _ _ rfl ?_; clear hK K) | (refine WX.thenExit (K := K) ?_; clear hK K) | (refine WX.thenExit (K := KL) ?_; clear hL KL)))
          have htk : l.take (k + 1) = l.take k ++ [s] := by rw [List.take_add_one, hs]; rfl
          have hlk : (l.take k).length = k := by rw [List.length_take]; omega
          exact (hL2 (k + 1, o2 ++ (padM s (wideM R k) ++ [124])) ⟨by dsimp only; omega, by dsimp only; rw [htk, lineF_snoc, Nat.zero_add, hlk, ho2], by simp only [List.length_append, List.length_cons, List.length_nil]; omega⟩ (by dsimp only; omega)).conv (.cons rfl (.cons rfl (.cons rfl (.cons rfl (.cons rfl (.cons rfl (.cons rfl (.cons rfl (.cons rfl .nil))))))))) (fun w h => h.to)
        · have hke : k = l.length := by omega
          subst hke
          rw [List.take_length] at ho2
          (repeat (first | refine vgo ?_ | refine ⟨_, rfl, rfl, ?_⟩ | refine ⟨_, rfl, ?_⟩ | refine ⟨rfl, ?_⟩ | intro hb | refine altA ?_ | refine altR ?_ | refine sideA ?_ | refine decTA ?_ | refine decFA ?_ | refine decNA ?_ | refine decBTA ?_ | refine decBFA ?_ | refine ⟨_, by assumption, ?_⟩ | refine ⟨_, _, _, rfl, ?_⟩ | refine WC.seq (fun K hK => ?_) | (refine hK _ _ _ ?_; clear hK K) | (refine hK _ _ _ _ rfl ?_; clear hK K) | (refine WX.thenExit (K := K) ?_; clear hK K) | (refine WX.thenExit (K := KL) ?_; clear hL KL)))
          refine WX.thenExit ?_
          (repeat (first | refine vgo ?_ | refine ⟨_, rfl, rfl, ?_⟩ | refine ⟨_, rfl, ?_⟩ | refine ⟨rfl, ?_⟩ | intro hb | refine altA ?_ | refine altR ?_ | refine sideA ?_ | refine decTA ?_ | refine decFA ?_ | refine decNA ?_ | refine decBTA ?_ | refine decBFA ?_ | refine ⟨_, by assumption, ?_⟩ | refine ⟨_, _, _, rfl, ?_⟩ | refine WC.seq (fun K hK => ?_) | (refine hK _ _ _ ?_; clear hK K) | (refine hK _ _ _ _ rfl ?_; clear hK K) | (refine WX.thenExit (K := K) ?_; clear hK K) | (refine WX.thenExit (K := KL) ?_; clear hL KL)))
          have hln : (o2 ++ [10] : List UInt8).length ≤ 100000 := by simp only [List.length_append, List.length_cons, List.length_nil]; omega
          have hoi : i * 100000 ≤ 6000000 := by omega
          refine CallV.by' (writeString_fun (v := bv) (l := o) (o2 ++ [10]) hp (by omega)) ?_; rintro _ _ _ ⟨rfl, rfl, v', hv', rfl⟩; (try simp only [List.cons_append]); (try simp only [List.nil_append])
          (repeat (first | refine vgo ?_ | refine ⟨_, rfl, rfl, ?_⟩ | refine ⟨_, rfl, ?_⟩ | refine ⟨rfl, ?_⟩ | intro hb | refine altA ?_ | refine altR ?_ | refine sideA ?_ | refine decTA ?_ | refine decFA ?_ | refine decNA ?_ | refine decBTA ?_ | refine decBFA ?_ | refine ⟨_, by assumption, ?_⟩ | refine ⟨_, _, _, rfl, ?_⟩ | refine WC.seq (fun K hK => ?_) | (refine hK _ _ _ ?_; clear hK K) | (refine hK _ _ _ _ rfl ?_; clear hK K) | (refine WX.thenExit (K := K) ?_; clear hK K) | (refine WX.thenExit (K := KL) ?_; clear hL KL)))
          exact (hL (i + 1, pB bb, v', o ++ (o2 ++ [10])) ⟨by omega, .inr rfl, by rw [htr, List.map_append, List.flatten_append, ← ho, ho2]; show _ = o ++ (lineM R l ++ []); rw [List.append_nil]; rfl, by rw [List.length_append]; omega⟩ (by dsimp only; omega)).conv (.cons rfl (.cons rfl (.cons rfl (.cons rfl (.cons rfl .nil))))) (fun w h => h.to)
      · have hie : i = R.length := by omega
        subst hie
        rw [List.take_length] at ho
        have hone : o ≠ [] := by
          rw [ho, ← hRR]
          unfold rowsM
          rw [List.map_cons, List.flatten_cons, lineM]
          simp
        (repeat (first | refine vgo ?_ | refine ⟨_, rfl, rfl, ?_⟩ | refine ⟨_, rfl, ?_⟩ | refine ⟨rfl, ?_⟩ | intro hb | refine altA ?_ | refine altR ?_ | refine sideA ?_ | refine decTA ?_ | refine decFA ?_ | refine decNA ?_ | refine decBTA ?_ | refine decBFA ?_ | refine ⟨_, by assumption, ?_⟩ | refine ⟨_, _, _, rfl, ?_⟩ | refine WC.seq (fun K hK => ?_) | (refine hK _ _ _ ?_; clear hK K) | (refine hK _ _ _ _ rfl ?_; clear hK K) | (refine WX.thenExit (K := K) ?_; clear hK K) | (refine WX.thenExit (K := KL) ?_; clear hL KL)))
        refine CallV.by' (string_fun (p := p) (v := bv) hone) ?_; rintro _ _ _ ⟨rfl, rfl, rfl⟩; (try simp only [List.cons_append]); (try simp only [List.nil_append])
        (repeat (first | refine vgo ?_ | refine ⟨_, rfl, rfl, ?_⟩ | refine ⟨_, rfl, ?_⟩ | refine ⟨rfl, ?_⟩ | intro hb | refine altA ?_ | refine altR ?_ | refine sideA ?_ | refine decTA ?_ | refine decFA ?_ | refine decNA ?_ | refine decBTA ?_ | refine decBFA ?_ | refine ⟨_, by assumption, ?_⟩ | refine ⟨_, _, _, rfl, ?_⟩ | refine WC.seq (fun K hK => ?_) | (refine hK _ _ _ ?_; clear hK K) | (refine hK _ _ _ _ rfl ?_; clear hK K) | (refine WX.thenExit (K := K) ?_; clear hK K) | (refine WX.thenExit (K := KL) ?_; clear hL KL)))
        exact WX.ret1 rfl rfl (fun w sw => ⟨[], [], ⟨by rw [ho]; rfl, rfl, rfl⟩, sw.to⟩))
  clear hK
  rename_i v0
  refine WC.loop (I := St1) (fun st => [(1, .pointer (some ⟨b1, 0, none⟩)), (3, st.v), (23, cv), (24, .int .i64 (cells.length : Nat)), (25, .int .i64 (st.i : Nat))]) (fun st => st.G col row cells ++ (tabsP :: rd (Ty.sl (Ty.sl Ty.str)) cells cv :: Gf)) (fun st => st.S 27 9 ++ gridB b1 col row cv :: Sf) (fun st => st.ok cells.length) (fun st => cells.length - st.i) (.z hb v0) trivial (.cons rfl (.cons rfl (.cons rfl (.cons rfl (.cons rfl .nil))))) (fun w h => by
    simp only [St1.G, St1.S, List.nil_append, List.cons_append] at h ⊢
    exact h) ?_
  rintro st hst KL hL
  cases st with
  | z v v0 =>
    simp only [St1.G, St1.S, St1.v, St1.i, List.nil_append, List.cons_append]
    by_cases h0 : cells = []
    · subst h0
      have hl0 : ([] : List RowL).length = 0 := rfl
      (repeat (first | refine vgo ?_ | refine ⟨_, rfl, rfl, ?_⟩ | refine ⟨_, rfl, ?_⟩ | refine ⟨rfl, ?_⟩ | intro hb | refine altA ?_ | refine altR ?_ | refine sideA ?_ | refine decTA ?_ | refine decFA ?_ | refine decNA ?_ | refine decBTA ?_ | refine decBFA ?_ | refine ⟨_, by assumption, ?_⟩ | refine ⟨_, _, _, rfl, ?_⟩ | refine WC.seq (fun K hK => ?_) | (refine hK _ _ _ ?_; clear hK K) | (refine hK _ _ _ _ rfl ?_; clear hK K) | (refine WX.thenExit (K := K) ?_; clear hK K) | (refine WX.thenExit (K := KL) ?_; clear hL KL)))
      subst hRR
      exact (ph v).conv (.cons rfl (.cons rfl .nil)) (fun w sw => by
        have h1 : Sat B (rd (Ty.sl Ty.str) [[]] v0 :: tabsP :: rd (Ty.sl (Ty.sl Ty.str)) [] cv :: Gf) (own 27 1 v 1 [v0] :: gridB b1 col row cv :: Sf) w := sw.pub (R := Ty.str) (l := [[]]) (v := v0) SelOwn.h rfl rfl rfl (fun a ha => by rw [List.mem_singleton] at ha; subst ha; exact Nat.zero_le _)
        have h2 : Sat B (rdAll (Ty.sl Ty.str) [[[]]] [v0] :: _) (own 27 1 v 1 [v0] :: gridB b1 col row cv :: Sf) w := (h1.rdAllNil (Ty.sl Ty.str)).rdAllSnoc (R := Ty.sl Ty.str) (l := []) (a := [[]]) (vs := []) (u := v0)
        have h3 : Sat B (rd (Ty.sl (Ty.sl Ty.str)) [[[]]] v :: _) (gridB b1 col row cv :: Sf) w := h2.pubAll (R := Ty.sl Ty.str) (l := [[[]]]) (v := v) rfl rfl rfl rfl
        exact (show Sat B (rd (Ty.sl (Ty.sl Ty.str)) (rowsM col row []) v :: _) (gridB b1 col row cv :: Sf) w from h3).to)
    · have hpos : 0 < cells.length := List.length_pos_iff.2 h0
      obtain ⟨l, hli⟩ : ∃ l, cells[0]? = some l := ⟨_, List.getElem?_eq_getElem hpos⟩
      obtain ⟨hl1, hl2⟩ := hc l (List.mem_of_getElem? hli)
      have hib := intB_le (n := ((row + 0 : Nat) : Int)) (by omega)
      (repeat (first | refine vgo ?_ | refine ⟨_, rfl, rfl, ?_⟩ | refine ⟨_, rfl, ?_⟩ | refine ⟨rfl, ?_⟩ | intro hb | refine altA ?_ | refine altR ?_ | refine sideA ?_ | refine decTA ?_ | refine decFA ?_ | refine decNA ?_ | refine decBTA ?_ | refine decBFA ?_ | refine ⟨_, by assumption, ?_⟩ | refine ⟨_, _, _, rfl, ?_⟩ | refine WC.seq (fun K hK => ?_) | (refine hK _ _ _ ?_; clear hK K) | (refine hK _ _ _ _ rfl ?_; clear hK K) | (refine WX.thenExit (K := K) ?_; clear hK K) | (refine WX.thenExit (K := KL) ?_; clear hL KL)))
      rename_i lv0
      refine WC.loop (I := Nat × Value × Value) (fun j => [(1, .pointer (some ⟨b1, 0, none⟩)), (3, v), (23, cv), (24, .int .i64 (cells.length : Nat)), (25, .int .i64 ((0 : Nat) : Int)), (4, .int .i64 ((0 : Nat) : Int)), (6, j.2.1), (37, lv0), (38, .int .i64 (l.length : Nat)), (39, .int .i64 (j.1 : Nat))]) (fun _ => rd (Ty.sl Ty.str) l lv0 :: tabsP :: rd (Ty.sl (Ty.sl Ty.str)) cells cv :: Gf) (fun j => own 9 1 j.2.1 (j.1 + 1) ((rowM row 0 (l.take j.1)).map sV) :: own 27 1 v 1 [j.2.2] :: own 9 1 j.2.2 (j.1 + 1) ((headM' col j.1).map sV) :: gridB b1 col row cv :: Sf) (fun j => j.1 ≤ l.length) (fun j => l.length - j.1) (0, hb, v0) (Nat.zero_le _) (.cons rfl (.cons rfl (.cons rfl (.cons rfl (.cons rfl (.cons rfl (.cons rfl (.cons rfl (.cons rfl (.cons rfl .nil)))))))))) (fun w h => by
        rw [show ((row : Nat) : Int) + ((0 : Nat) : Int) = ((row + 0 : Nat) : Int) from by omega] at h
        have h1 : Sat B _ (own 9 1 hb 1 [sV (intB ((row + 0 : Nat) : Int))] :: own 27 1 v 1 [v0] :: own 9 1 v0 1 [sV []] :: gridB b1 col row cv :: Sf) w := h
        exact (show Sat B (rd (Ty.sl Ty.str) l lv0 :: tabsP :: rd (Ty.sl (Ty.sl Ty.str)) cells cv :: Gf) (own 9 1 hb 1 [sV (intB ((row + 0 : Nat) : Int))] :: own 27 1 v 1 [v0] :: own 9 1 v0 1 [sV []] :: gridB b1 col row cv :: Sf) w from h1.to)) ?_
      rintro ⟨k, lv, u0⟩ hk KL2 hL2
      dsimp only at hk ⊢
      by_cases hk2 : k < l.length
      · obtain ⟨s, hs⟩ : ∃ s, l[k]? = some s := ⟨_, List.getElem?_eq_getElem hk2⟩
        have hsl := hl2 s (List.mem_of_getElem? hs)
        have hcl := cleanM_len s.length s false (Nat.le_refl _)
        have hts : l.take (k + 1) = l.take k ++ [s] := by rw [List.take_add_one, hs]; rfl
        obtain ⟨HM, hHM⟩ : ∃ x, x = (headM' col k).map sV := ⟨_, rfl⟩
        obtain ⟨RM, hRM⟩ : ∃ x, x = (rowM row 0 (l.take k)).map sV := ⟨_, rfl⟩
        rw [← hHM, ← hRM]
        have hcb := colB_le ((col + k : Nat) : Int)
        refine WC.openOwn (v := v) (fun e m0 => absurd m0 (by omega)) (fun bo cp cs e hmc hcp hcl3 hct => ?_)
        obtain ⟨sp, rfl⟩ : ∃ sp, cs = u0 :: sp := by
          cases cs with
          | nil => simp at hct
          | cons x sp => simp at hct; exact ⟨sp, by rw [hct]⟩
        subst e
        (repeat (first | refine vgo ?_ | refine ⟨_, rfl, rfl, ?_⟩ | refine ⟨_, rfl, ?_⟩ | refine ⟨rfl, ?_⟩ | intro hb | refine altA ?_ | refine altR ?_ | refine sideA ?_ | refine decTA ?_ | refine decFA ?_ | refine decNA ?_ | refine decBTA ?_ | refine decBFA ?_ | refine ⟨_, by assumption, ?_⟩ | refine ⟨_, _, _, rfl, ?_⟩ | refine WC.seq (fun K hK => ?_) | (refine hK _ _ _ ?_; clear hK K) | (refine hK _ _ _ _ rfl ?_; clear hK K) | (refine WX.thenExit (K := K) ?_; clear hK K) | (refine WX.thenExit (K := KL) ?_; clear hL KL)))
        refine WC.drawV (S := (own 9 1 lv (k + 1) RM :: gridB b1 col row cv :: Sf)) ([[box bo 27 (u0 :: sp)], [own 9 1 u0 (k + 1) HM]]) rfl (by repeat (first | exact Wo.nil | (apply Wo.keep; exact rfl) | (apply Wo.drop; exact rfl))) (fun w sw => by (try simp only [List.flatten_cons, List.flatten_nil, List.append_nil, List.cons_append, List.nil_append]); exact sw.to) ?_; (try dsimp only [chunks])
        (repeat (first | refine ObP3.c0A ?_ | (apply ObP3.cons1 [1000] []; (focus ((repeat (intro _)); (conv => whnf); (try dsimp only [envO, List.cons_append, List.nil_append]); (repeat (first | refine vgo ?_ | refine ⟨_, rfl, rfl, ?_⟩ | refine ⟨_, rfl, ?_⟩ | refine ⟨rfl, ?_⟩ | intro hb | refine altA ?_ | refine altR ?_ | refine sideA ?_ | refine decTA ?_ | refine decFA ?_ | refine decNA ?_ | refine decBTA ?_ | refine decBFA ?_ | refine ⟨_, by assumption, ?_⟩ | refine ⟨_, _, _, rfl, ?_⟩ | refine WC.seq (fun K hK => ?_) | (refine hK _ _ _ ?_; clear hK K) | (refine hK _ _ _ _ rfl ?_; clear hK K) | (refine WX.thenExit (K := K) ?_; clear hK K) | (refine WX.thenExit (K := KL) ?_; clear hL KL))); first | exact WX.pgIs rfl | exact WX.pgRd rfl | exact WX.pgCell rfl | exact WX.pgNone | exact WX.pgOwn rfl)); exact rfl))); try (refine ObP3.nil ?_; (repeat (intro _)); (conv => whnf); (try dsimp only [envO, List.cons_append, List.nil_append]))
        (apply ObP3.cons1 [] [1001, 10]; (focus ((repeat (intro _)); (conv => whnf); (try dsimp only [envO, List.cons_append, List.nil_append]); (repeat (first | refine vgo ?_ | refine ⟨_, rfl, rfl, ?_⟩ | refine ⟨_, rfl, ?_⟩ | refine ⟨rfl, ?_⟩ | intro hb | refine altA ?_ | refine altR ?_ | refine sideA ?_ | refine decTA ?_ | refine decFA ?_ | refine decNA ?_ | refine decBTA ?_ | refine decBFA ?_ | refine ⟨_, by assumption, ?_⟩ | refine ⟨_, _, _, rfl, ?_⟩ | refine WC.seq (fun K hK => ?_) | (refine hK _ _ _ ?_; clear hK K) | (refine hK _ _ _ _ rfl ?_; clear hK K) | (refine WX.thenExit (K := K) ?_; clear hK K) | (refine WX.thenExit (K := KL) ?_; clear hL KL))); first | exact WX.pgHeadV rfl | exact WX.pgHead | exact WX.pgOwn rfl)); exact rfl)
        (repeat refine ObP3.c0B ?_); try (refine ObP3.nil ?_; (repeat (intro _)); (conv => whnf); (try dsimp only [envO, List.cons_append, List.nil_append]))
        refine ObP3.cons2 [] [1000, 11] [11] 57 (.ex Value (fun a => a) (fun _ => []) (fun a => [box bo 27 (a :: sp), own 9 1 a (k + 1 + 1) (HM ++ [sV (colB (col + k))])])) ?_ rfl ?_
        · (repeat (intro _)); (conv => whnf); (try dsimp only [envO, List.cons_append, List.nil_append])
          (repeat (first | refine vgo ?_ | refine ⟨_, rfl, rfl, ?_⟩ | refine ⟨_, rfl, ?_⟩ | refine ⟨rfl, ?_⟩ | intro hb | refine altA ?_ | refine altR ?_ | refine sideA ?_ | refine decTA ?_ | refine decFA ?_ | refine decNA ?_ | refine decBTA ?_ | refine decBFA ?_ | refine ⟨_, by assumption, ?_⟩ | refine ⟨_, _, _, rfl, ?_⟩ | refine WC.seq (fun K hK => ?_) | (refine hK _ _ _ ?_; clear hK K) | (refine hK _ _ _ _ rfl ?_; clear hK K) | (refine WX.thenExit (K := K) ?_; clear hK K) | (refine WX.thenExit (K := KL) ?_; clear hL KL)))
          rename_i x61 _ _ _
          exact WX.pgEx (fv := fun a : Value => a) x61 rfl (fun w sw => sw.to)
        (repeat refine ObP3.c0B ?_); try (refine ObP3.nil ?_; (repeat (intro _)); (conv => whnf); (try dsimp only [envO, List.cons_append, List.nil_append]))
        rename_i x61 _ _ _
        (repeat (first | refine vgo ?_ | refine ⟨_, rfl, rfl, ?_⟩ | refine ⟨_, rfl, ?_⟩ | refine ⟨rfl, ?_⟩ | intro hb | refine altA ?_ | refine altR ?_ | refine sideA ?_ | refine decTA ?_ | refine decFA ?_ | refine decNA ?_ | refine decBTA ?_ | refine decBFA ?_ | refine ⟨_, by assumption, ?_⟩ | refine ⟨_, _, _, rfl, ?_⟩ | refine WC.seq (fun K hK => ?_) | (refine hK _ _ _ ?_; clear hK K) | (refine hK _ _ _ _ rfl ?_; clear hK K) | (refine WX.thenExit (K := K) ?_; clear hK K) | (refine WX.thenExit (K := KL) ?_; clear hL KL)))
        refine CallV.by' (clean_fun s (by omega)) ?_; rintro _ _ _ ⟨rfl, rfl, rfl⟩; (try simp only [List.cons_append]); (try simp only [List.nil_append])
        (repeat (first | refine vgo ?_ | refine ⟨_, rfl, rfl, ?_⟩ | refine ⟨_, rfl, ?_⟩ | refine ⟨rfl, ?_⟩ | intro hb | refine altA ?_ | refine altR ?_ | refine sideA ?_ | refine decTA ?_ | refine decFA ?_ | refine decNA ?_ | refine decBTA ?_ | refine decBFA ?_ | refine ⟨_, by assumption, ?_⟩ | refine ⟨_, _, _, rfl, ?_⟩ | refine WC.seq (fun K hK => ?_) | (refine hK _ _ _ ?_; clear hK K) | (refine hK _ _ _ _ rfl ?_; clear hK K) | (refine WX.thenExit (K := K) ?_; clear hK K) | (refine WX.thenExit (K := KL) ?_; clear hL KL)))
        refine CallV.by' (cut_fun (cleanM s false) 20 (by omega) (by omega) (by omega)) ?_; rintro _ _ _ ⟨rfl, rfl, rfl⟩; (try simp only [List.cons_append]); (try simp only [List.nil_append])
        (repeat (first | refine vgo ?_ | refine ⟨_, rfl, rfl, ?_⟩ | refine ⟨_, rfl, ?_⟩ | refine ⟨rfl, ?_⟩ | intro hb | refine altA ?_ | refine altR ?_ | refine sideA ?_ | refine decTA ?_ | refine decFA ?_ | refine decNA ?_ | refine decBTA ?_ | refine decBFA ?_ | refine ⟨_, by assumption, ?_⟩ | refine ⟨_, _, _, rfl, ?_⟩ | refine WC.seq (fun K hK => ?_) | (refine hK _ _ _ ?_; clear hK K) | (refine hK _ _ _ _ rfl ?_; clear hK K) | (refine WX.thenExit (K := K) ?_; clear hK K) | (refine WX.thenExit (K := KL) ?_; clear hL KL)))
        refine (hL2 (k + 1, hb, x61) (by dsimp only; omega) (by dsimp only; omega)).conv (.cons rfl (.cons rfl (.cons rfl (.cons rfl (.cons rfl (.cons rfl (.cons rfl (.cons rfl (.cons rfl (.cons rfl .nil)))))))))) (fun w h => ?_)
        have h1 := h.closeOwn (b := bo) (cp := cp) 1 1 (cs := x61 :: sp) (by simpa using hcl3) hmc hcp
        dsimp only
        rw [headM'_succ, List.map_append, ← hHM, show (rowM row 0 (l.take (k + 1))).map sV = RM ++ ([Value.string (bs (cutM (cleanM s false) 20))] ++ []) from by rw [hts, rowM_snoc, List.map_append, ← hRM]; rfl]
        exact (show Sat B (rd (Ty.sl Ty.str) l lv0 :: tabsP :: rd (Ty.sl (Ty.sl Ty.str)) cells cv :: Gf) (own 9 1 hb (k + 1 + 1) (RM ++ ([Value.string (bs (cutM (cleanM s false) 20))] ++ [])) :: own 27 1 (.slice (some ⟨bo, 0, none⟩) 1 cp) 1 [x61] :: own 9 1 x61 (k + 1 + 1) (HM ++ [sV (colB (col + k))]) :: gridB b1 col row cv :: Sf) w from Sat.to (show Sat B _ (own 27 1 (.slice (some ⟨bo, 0, none⟩) 1 cp) 1 [x61] :: own 9 1 hb (k + 1 + 1) (RM ++ ([Value.string (bs (cutM (cleanM s false) 20))] ++ [])) :: own 9 1 x61 (k + 1 + 1) (HM ++ [sV (colB (col + k))]) :: gridB b1 col row cv :: Sf) w from h1))
      · have hke : k = l.length := by omega
        subst hke
        (repeat (first | refine vgo ?_ | refine ⟨_, rfl, rfl, ?_⟩ | refine ⟨_, rfl, ?_⟩ | refine ⟨rfl, ?_⟩ | intro hb | refine altA ?_ | refine altR ?_ | refine sideA ?_ | refine decTA ?_ | refine decFA ?_ | refine decNA ?_ | refine decBTA ?_ | refine decBFA ?_ | refine ⟨_, by assumption, ?_⟩ | refine ⟨_, _, _, rfl, ?_⟩ | refine WC.seq (fun K hK => ?_) | (refine hK _ _ _ ?_; clear hK K) | (refine hK _ _ _ _ rfl ?_; clear hK K) | (refine WX.thenExit (K := K) ?_; clear hK K) | (refine WX.thenExit (K := KL) ?_; clear hL KL)))
        refine WX.thenExit ?_
        (repeat (first | refine vgo ?_ | refine ⟨_, rfl, rfl, ?_⟩ | refine ⟨_, rfl, ?_⟩ | refine ⟨rfl, ?_⟩ | intro hb | refine altA ?_ | refine altR ?_ | refine sideA ?_ | refine decTA ?_ | refine decFA ?_ | refine decNA ?_ | refine decBTA ?_ | refine decBFA ?_ | refine ⟨_, by assumption, ?_⟩ | refine ⟨_, _, _, rfl, ?_⟩ | refine WC.seq (fun K hK => ?_) | (refine hK _ _ _ ?_; clear hK K) | (refine hK _ _ _ _ rfl ?_; clear hK K) | (refine WX.thenExit (K := K) ?_; clear hK K) | (refine WX.thenExit (K := KL) ?_; clear hL KL)))
        refine (hL (.s 1 hb [u0, lv]) ⟨Nat.le_refl _, hpos⟩ (by dsimp only [St1.i]; omega)).conv (.cons rfl (.cons rfl (.cons rfl (.cons rfl (.cons rfl .nil))))) (fun w h => ?_)
        rw [List.take_length] at h
        have h0 : Sat B (tabsP :: rd (Ty.sl (Ty.sl Ty.str)) cells cv :: Gf) (own 9 1 lv (l.length + 1) ((rowM row 0 l).map sV) :: own 9 1 u0 (l.length + 1) ((headM' col l.length).map sV) :: own 27 1 hb 2 [u0, lv] :: gridB b1 col row cv :: Sf) w := Sat.to (show Sat B _ (own 27 1 hb 2 [u0, lv] :: own 9 1 lv (l.length + 1) ((rowM row 0 l).map sV) :: own 9 1 u0 (l.length + 1) ((headM' col l.length).map sV) :: gridB b1 col row cv :: Sf) w from h)
        have h1 := (h0.pubRow (rowM_len row 0 l).symm (rowM_ok row 0 l (by omega) hl2)).pubRow (headM'_len col l.length).symm (headM'_ok col l.length)
        have h1' : Sat B (rdAll (Ty.sl Ty.str) [headM' col l.length] [u0] :: rd (Ty.sl Ty.str) (rowM row 0 l) lv :: tabsP :: rd (Ty.sl (Ty.sl Ty.str)) cells cv :: Gf) (own 27 1 hb 2 [u0, lv] :: gridB b1 col row cv :: Sf) w := ((h1.rdAllNil (Ty.sl Ty.str)).rdAllSnoc (R := Ty.sl Ty.str) (l := []) (a := headM' col l.length) (vs := []) (u := u0)).sub (fun g hg => by
          rcases List.mem_cons.1 hg with rfl | hg
          · exact .head _
          · exact .tail _ (.tail _ (.tail _ hg)))
        have h2 : Sat B (rdAll (Ty.sl Ty.str) (rowsTo col row cells 1) [u0, lv] :: rdAll (Ty.sl Ty.str) [headM' col l.length] [u0] :: rd (Ty.sl Ty.str) (rowM row 0 l) lv :: tabsP :: rd (Ty.sl (Ty.sl Ty.str)) cells cv :: Gf) (own 27 1 hb 2 [u0, lv] :: gridB b1 col row cv :: Sf) w := by
          rw [rowsTo_one col row hli]
          exact h1'.rdAllSnoc (R := Ty.sl Ty.str) (l := [headM' col l.length]) (a := rowM row 0 l) (vs := [u0]) (u := lv)
        exact (show Sat B (rdAll (Ty.sl Ty.str) (rowsTo col row cells 1) [u0, lv] :: tabsP :: rd (Ty.sl (Ty.sl Ty.str)) cells cv :: Gf) (own 27 1 hb 2 [u0, lv] :: gridB b1 col row cv :: Sf) w from h2.to)
  | s i v vs =>
    simp only [St1.G, St1.S, St1.v, St1.i, List.nil_append, List.cons_append]
    obtain ⟨hi1, hi2⟩ := hst
    by_cases hi : i < cells.length
    · obtain ⟨l, hli⟩ : ∃ l, cells[i]? = some l := ⟨_, List.getElem?_eq_getElem hi⟩
      obtain ⟨hl1, hl2⟩ := hc l (List.mem_of_getElem? hli)
      have hib := intB_le (n := ((row + i : Nat) : Int)) (by omega)
      (repeat (first | refine vgo ?_ | refine ⟨_, rfl, rfl, ?_⟩ | refine ⟨_, rfl, ?_⟩ | refine ⟨rfl, ?_⟩ | intro hb | refine altA ?_ | refine altR ?_ | refine sideA ?_ | refine decTA ?_ | refine decFA ?_ | refine decNA ?_ | refine decBTA ?_ | refine decBFA ?_ | refine ⟨_, by assumption, ?_⟩ | refine ⟨_, _, _, rfl, ?_⟩ | refine WC.seq (fun K hK => ?_) | (refine hK _ _ _ ?_; clear hK K) | (refine hK _ _ _ _ rfl ?_; clear hK K) | (refine WX.thenExit (K := K) ?_; clear hK K) | (refine WX.thenExit (K := KL) ?_; clear hL KL)))
      rename_i lv0
      refine WC.loop (I := Nat × Value) (fun j => [(1, .pointer (some ⟨b1, 0, none⟩)), (3, v), (23, cv), (24, .int .i64 (cells.length : Nat)), (25, .int .i64 (i : Nat)), (4, .int .i64 (i : Nat)), (6, j.2), (37, lv0), (38, .int .i64 (l.length : Nat)), (39, .int .i64 (j.1 : Nat))]) (fun _ => rd (Ty.sl Ty.str) l lv0 :: rdAll (Ty.sl Ty.str) (rowsTo col row cells i) vs :: tabsP :: rd (Ty.sl (Ty.sl Ty.str)) cells cv :: Gf) (fun j => own 9 1 j.2 (j.1 + 1) ((rowM row i (l.take j.1)).map sV) :: own 27 1 v (i + 1) vs :: gridB b1 col row cv :: Sf) (fun j => j.1 ≤ l.length) (fun j => l.length - j.1) (0, hb) (Nat.zero_le _) (.cons rfl (.cons rfl (.cons rfl (.cons rfl (.cons rfl (.cons rfl (.cons rfl (.cons rfl (.cons rfl (.cons rfl .nil)))))))))) (fun w h => by
        rw [show ((row : Nat) : Int) + ((i : Nat) : Int) = ((row + i : Nat) : Int) from by omega] at h
        have h1 : Sat B _ (own 9 1 hb 1 [sV (intB ((row + i : Nat) : Int))] :: own 27 1 v (i + 1) vs :: gridB b1 col row cv :: Sf) w := h
        exact (show Sat B (rd (Ty.sl Ty.str) l lv0 :: rdAll (Ty.sl Ty.str) (rowsTo col row cells i) vs :: tabsP :: rd (Ty.sl (Ty.sl Ty.str)) cells cv :: Gf) (own 9 1 hb 1 [sV (intB ((row + i : Nat) : Int))] :: own 27 1 v (i + 1) vs :: gridB b1 col row cv :: Sf) w from h1.to)) ?_
      rintro ⟨k, lv⟩ hk KL2 hL2
      dsimp only at hk ⊢
      have hi0 : ¬ ((i : Nat) : Int) = 0 := by omega
      by_cases hk2 : k < l.length
      · obtain ⟨s, hs⟩ : ∃ s, l[k]? = some s := ⟨_, List.getElem?_eq_getElem hk2⟩
        have hsl := hl2 s (List.mem_of_getElem? hs)
        have hcl := cleanM_len s.length s false (Nat.le_refl _)
        have hts : l.take (k + 1) = l.take k ++ [s] := by rw [List.take_add_one, hs]; rfl
        (repeat (first | refine vgo ?_ | refine ⟨_, rfl, rfl, ?_⟩ | refine ⟨_, rfl, ?_⟩ | refine ⟨rfl, ?_⟩ | intro hb | refine altA ?_ | refine altR ?_ | refine sideA ?_ | refine decTA ?_ | refine decFA ?_ | refine decNA ?_ | refine decBTA ?_ | refine decBFA ?_ | refine ⟨_, by assumption, ?_⟩ | refine ⟨_, _, _, rfl, ?_⟩ | refine WC.seq (fun K hK => ?_) | (refine hK _ _ _ ?_; clear hK K) | (refine hK _ _ _ _ rfl ?_; clear hK K) | (refine WX.thenExit (K := K) ?_; clear hK K) | (refine WX.thenExit (K := KL) ?_; clear hL KL)))
        refine CallV.by' (clean_fun s (by omega)) ?_; rintro _ _ _ ⟨rfl, rfl, rfl⟩; (try simp only [List.cons_append]); (try simp only [List.nil_append])
        (repeat (first | refine vgo ?_ | refine ⟨_, rfl, rfl, ?_⟩ | refine ⟨_, rfl, ?_⟩ | refine ⟨rfl, ?_⟩ | intro hb | refine altA ?_ | refine altR ?_ | refine sideA ?_ | refine decTA ?_ | refine decFA ?_ | refine decNA ?_ | refine decBTA ?_ | refine decBFA ?_ | refine ⟨_, by assumption, ?_⟩ | refine ⟨_, _, _, rfl, ?_⟩ | refine WC.seq (fun K hK => ?_) | (refine hK _ _ _ ?_; clear hK K) | (refine hK _ _ _ _ rfl ?_; clear hK K) | (refine WX.thenExit (K := K) ?_; clear hK K) | (refine WX.thenExit (K := KL) ?_; clear hL KL)))
        refine CallV.by' (cut_fun (cleanM s false) 20 (by omega) (by omega) (by omega)) ?_; rintro _ _ _ ⟨rfl, rfl, rfl⟩; (try simp only [List.cons_append]); (try simp only [List.nil_append])
        (repeat (first | refine vgo ?_ | refine ⟨_, rfl, rfl, ?_⟩ | refine ⟨_, rfl, ?_⟩ | refine ⟨rfl, ?_⟩ | intro hb | refine altA ?_ | refine altR ?_ | refine sideA ?_ | refine decTA ?_ | refine decFA ?_ | refine decNA ?_ | refine decBTA ?_ | refine decBFA ?_ | refine ⟨_, by assumption, ?_⟩ | refine ⟨_, _, _, rfl, ?_⟩ | refine WC.seq (fun K hK => ?_) | (refine hK _ _ _ ?_; clear hK K) | (refine hK _ _ _ _ rfl ?_; clear hK K) | (refine WX.thenExit (K := K) ?_; clear hK K) | (refine WX.thenExit (K := KL) ?_; clear hL KL)))
        refine (hL2 (k + 1, hb) (by dsimp only; omega) (by dsimp only; omega)).conv (.cons rfl (.cons rfl (.cons rfl (.cons rfl (.cons rfl (.cons rfl (.cons rfl (.cons rfl (.cons rfl (.cons rfl .nil)))))))))) (fun w h => ?_)
        rw [show (rowM row i (l.take k)).map sV ++ ([Value.string (bs (cutM (cleanM s false) 20))] ++ []) = (rowM row i (l.take (k + 1))).map sV from by rw [hts, rowM_snoc, List.map_append]; rfl] at h
        exact h.to
      · have hke : k = l.length := by omega
        subst hke
        (repeat (first | refine vgo ?_ | refine ⟨_, rfl, rfl, ?_⟩ | refine ⟨_, rfl, ?_⟩ | refine ⟨rfl, ?_⟩ | intro hb | refine altA ?_ | refine altR ?_ | refine sideA ?_ | refine decTA ?_ | refine decFA ?_ | refine decNA ?_ | refine decBTA ?_ | refine decBFA ?_ | refine ⟨_, by assumption, ?_⟩ | refine ⟨_, _, _, rfl, ?_⟩ | refine WC.seq (fun K hK => ?_) | (refine hK _ _ _ ?_; clear hK K) | (refine hK _ _ _ _ rfl ?_; clear hK K) | (refine WX.thenExit (K := K) ?_; clear hK K) | (refine WX.thenExit (K := KL) ?_; clear hL KL)))
        refine WX.thenExit ?_
        (repeat (first | refine vgo ?_ | refine ⟨_, rfl, rfl, ?_⟩ | refine ⟨_, rfl, ?_⟩ | refine ⟨rfl, ?_⟩ | intro hb | refine altA ?_ | refine altR ?_ | refine sideA ?_ | refine decTA ?_ | refine decFA ?_ | refine decNA ?_ | refine decBTA ?_ | refine decBFA ?_ | refine ⟨_, by assumption, ?_⟩ | refine ⟨_, _, _, rfl, ?_⟩ | refine WC.seq (fun K hK => ?_) | (refine hK _ _ _ ?_; clear hK K) | (refine hK _ _ _ _ rfl ?_; clear hK K) | (refine WX.thenExit (K := K) ?_; clear hK K) | (refine WX.thenExit (K := KL) ?_; clear hL KL)))
        refine (hL (.s (i + 1) hb (vs ++ [lv])) ⟨by omega, by omega⟩ (by dsimp only [St1.i]; omega)).conv (.cons rfl (.cons rfl (.cons rfl (.cons rfl (.cons rfl .nil))))) (fun w h => ?_)
        rw [List.take_length] at h
        have h0 : Sat B (rdAll (Ty.sl Ty.str) (rowsTo col row cells i) vs :: tabsP :: rd (Ty.sl (Ty.sl Ty.str)) cells cv :: Gf) (own 9 1 lv (l.length + 1) ((rowM row i l).map sV) :: own 27 1 hb (i + 1 + 1) (vs ++ [lv]) :: gridB b1 col row cv :: Sf) w := Sat.to (show Sat B _ (own 27 1 hb (i + 1 + 1) (vs ++ [lv]) :: own 9 1 lv (l.length + 1) ((rowM row i l).map sV) :: gridB b1 col row cv :: Sf) w from h)
        have h2 := (h0.pubRow (rowM_len row i l).symm (rowM_ok row i l (by omega) hl2)).rdAllSnoc (R := Ty.sl Ty.str) (l := rowsTo col row cells i) (a := rowM row i l) (vs := vs) (u := lv)
        rw [← rowsTo_succ col row hli] at h2
        exact (show Sat B (rdAll (Ty.sl Ty.str) (rowsTo col row cells (i + 1)) (vs ++ [lv]) :: tabsP :: rd (Ty.sl (Ty.sl Ty.str)) cells cv :: Gf) (own 27 1 hb (i + 1 + 1) (vs ++ [lv]) :: gridB b1 col row cv :: Sf) w from h2.to)
    · (repeat (first | refine vgo ?_ | refine ⟨_, rfl, rfl, ?_⟩ | refine ⟨_, rfl, ?_⟩ | refine ⟨rfl, ?_⟩ | intro hb | refine altA ?_ | refine altR ?_ | refine sideA ?_ | refine decTA ?_ | refine decFA ?_ | refine decNA ?_ | refine decBTA ?_ | refine decBFA ?_ | refine ⟨_, by assumption, ?_⟩ | refine ⟨_, _, _, rfl, ?_⟩ | refine WC.seq (fun K hK => ?_) | (refine hK _ _ _ ?_; clear hK K) | (refine hK _ _ _ _ rfl ?_; clear hK K) | (refine WX.thenExit (K := K) ?_; clear hK K) | (refine WX.thenExit (K := KL) ?_; clear hL KL)))
      subst hRR
      have hie : i = cells.length := by omega
      subst hie
      exact (ph v).conv (.cons rfl (.cons rfl .nil)) (fun w sw => by
        have e1 : rowsTo col row cells cells.length = rowsM col row cells := by unfold rowsTo rowsM; rw [List.take_length]
        rw [e1] at sw
        have h3 : Sat B (rd (Ty.sl (Ty.sl Ty.str)) (rowsM col row cells) v :: _) (gridB b1 col row cv :: Sf) w := sw.pubAll (R := Ty.sl Ty.str) (l := rowsM col row cells) (v := v) rfl rfl rfl (by unfold rowsM; rw [List.length_cons, rowsF_len])
        exact h3.to)
end Go.Qd
