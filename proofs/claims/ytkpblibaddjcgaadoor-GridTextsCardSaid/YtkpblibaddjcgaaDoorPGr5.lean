/-
  Texts of a window: what may stand in a line, by the program.
-/
import Derived.Test.YtkpblibaddjcgaaDoorPGr4
import Derived.Test.YtkpblibaddjcgaaDoorPBld3
namespace Go.Qd
open Go Go.Proofs
def toV (l : List UInt8) (sp : Bool) : List UInt8 :=
  if h : l = [] then []
  else if badB l then (if sp then [] else [63]) ++ toV (l.drop 1) true
  else l.take (dcR l).2 ++ toV (l.drop (dcR l).2) false
termination_by l.length
decreasing_by
  · have := List.length_pos_iff.2 h; rw [List.length_drop]; omega
  · have := List.length_pos_iff.2 h; have := dcR_pos l; rw [List.length_drop]; omega
theorem toV_nil (sp : Bool) : toV [] sp = [] := by rw [toV, dif_pos rfl]
theorem toV_bad {l : List UInt8} (h : l ≠ []) (hb : badB l = true) (sp : Bool) : toV l sp = (if sp then [] else [63]) ++ toV (l.drop 1) true := by rw [toV, dif_neg h, if_pos hb]
theorem toV_ok {l : List UInt8} (h : l ≠ []) (hb : badB l = false) (sp : Bool) : toV l sp = l.take (dcR l).2 ++ toV (l.drop (dcR l).2) false := by
  rw [toV, dif_neg h, if_neg (by rw [hb]; simp)]
theorem bad_dc {l : List UInt8} (_hl : l ≠ []) : badB l = true ↔ ((dcR l).1 = 65533 ∧ (dcR l).2 = 1) := by
  unfold badB
  rw [Bool.and_eq_true, decide_eq_true_eq, decide_eq_true_eq]
  constructor
  · rintro ⟨h1, h2⟩
    exact ⟨dcN_bad h1 h2, h2⟩
  · rintro ⟨h1, h2⟩
    refine ⟨?_, h2⟩
    by_cases h3 : (l.getD 0 0).toNat < 128
    · unfold dcR at h1
      rw [dcN_low h3] at h1
      dsimp only at h1
      omega
    · omega
theorem capV_pos {v : Value} (h : 1 ≤ capV v) : ∃ a m c, v = .slice a m c ∧ 1 ≤ c := by
  unfold capV at h
  split at h
  · exact ⟨_, _, _, rfl, h⟩
  · omega
set_option maxHeartbeats 6400000 in
theorem toValid_fun (l : List UInt8) (hl2 : l.length ≤ 2000000) : Fun Tryd.prog 23 [.string (bs l), .string (bs [63])] [tabsP] [] (fun z G S => z = .string (bs (toV l false)) ∧ G = [] ∧ S = []) := by
  refine Fun.enter Tryd.func23 (by kernel_rfl) rfl Tryd.ntmps23 rfl (fun B Gf Sf => ?_); (try simp only [List.cons_append]); (try simp only [List.nil_append]); simp only [argEnv]
  (repeat (first | refine vgo ?_ | refine ⟨_, rfl, rfl, ?_⟩ | refine ⟨_, rfl, ?_⟩ | refine ⟨rfl, ?_⟩ | intro hb | refine altA ?_ | refine altR ?_ | refine sideA ?_ | refine decTA ?_ | refine decFA ?_ | refine decNA ?_ | refine decBTA ?_ | refine decBFA ?_ | refine ⟨_, by assumption, ?_⟩ | refine ⟨_, _, _, rfl, ?_⟩ | refine WC.seq (fun K hK => ?_) | (refine hK _ _ _ ?_; clear hK K) | (refine hK _ _ _ _ rfl ?_; clear hK K) | (refine WX.thenExit (K := K) ?_; clear hK K) | (refine WX.thenExit (K := KL) ?_; clear hL KL)))
  refine WL.alloc rfl ?_; intro b
  (repeat (first | refine vgo ?_ | refine ⟨_, rfl, rfl, ?_⟩ | refine ⟨_, rfl, ?_⟩ | refine ⟨rfl, ?_⟩ | intro hb | refine altA ?_ | refine altR ?_ | refine sideA ?_ | refine decTA ?_ | refine decFA ?_ | refine decNA ?_ | refine decBTA ?_ | refine decBFA ?_ | refine ⟨_, by assumption, ?_⟩ | refine ⟨_, _, _, rfl, ?_⟩ | refine WC.seq (fun K hK => ?_) | (refine hK _ _ _ ?_; clear hK K) | (refine hK _ _ _ _ rfl ?_; clear hK K) | (refine WX.thenExit (K := K) ?_; clear hK K) | (refine WX.thenExit (K := KL) ?_; clear hL KL)))
  refine WL.rangeS rfl rfl (fun it => ?_)
  (repeat (first | refine vgo ?_ | refine ⟨_, rfl, rfl, ?_⟩ | refine ⟨_, rfl, ?_⟩ | refine ⟨rfl, ?_⟩ | intro hb | refine altA ?_ | refine altR ?_ | refine sideA ?_ | refine decTA ?_ | refine decFA ?_ | refine decNA ?_ | refine decBTA ?_ | refine decBFA ?_ | refine ⟨_, by assumption, ?_⟩ | refine ⟨_, _, _, rfl, ?_⟩ | refine WC.seq (fun K hK => ?_) | (refine hK _ _ _ ?_; clear hK K) | (refine hK _ _ _ _ rfl ?_; clear hK K) | (refine WX.thenExit (K := K) ?_; clear hK K) | (refine WX.thenExit (K := KL) ?_; clear hL KL)))
  refine WC.loop (I := Nat) (fun _ => [(0, .string (bs l)), (1, .string (bs [63])), (5, pB b), (16, .pointer (some ⟨it, 0, none⟩))]) (fun _ => tabsP :: Gf) (fun p => stI it l p :: box b 42 [.pointer none, .slice none 0 0] :: Sf) (fun p => l.take p ++ toV (l.drop p) false = toV l false) (fun p => l.length - p) 0 (by simp) (.cons rfl (.cons rfl (.cons rfl (.cons rfl .nil)))) (fun w h => h.to) ?_
  rintro p hi KL hL
  (repeat (first | refine vgo ?_ | refine ⟨_, rfl, rfl, ?_⟩ | refine ⟨_, rfl, ?_⟩ | refine ⟨rfl, ?_⟩ | intro hb | refine altA ?_ | refine altR ?_ | refine sideA ?_ | refine decTA ?_ | refine decFA ?_ | refine decNA ?_ | refine decBTA ?_ | refine decBFA ?_ | refine ⟨_, by assumption, ?_⟩ | refine ⟨_, _, _, rfl, ?_⟩ | refine WC.seq (fun K hK => ?_) | (refine hK _ _ _ ?_; clear hK K) | (refine hK _ _ _ _ rfl ?_; clear hK K) | (refine WX.thenExit (K := K) ?_; clear hK K) | (refine WX.thenExit (K := KL) ?_; clear hL KL)))
  refine WL.nextS rfl rfl (fun hp => ?_) (fun hp => ?_)
  · rw [List.drop_eq_nil_of_le hp, toV_nil, List.append_nil, List.take_of_length_le hp] at hi
    (repeat (first | refine vgo ?_ | refine ⟨_, rfl, rfl, ?_⟩ | refine ⟨_, rfl, ?_⟩ | refine ⟨rfl, ?_⟩ | intro hb | refine altA ?_ | refine altR ?_ | refine sideA ?_ | refine decTA ?_ | refine decFA ?_ | refine decNA ?_ | refine decBTA ?_ | refine decBFA ?_ | refine ⟨_, by assumption, ?_⟩ | refine ⟨_, _, _, rfl, ?_⟩ | refine WC.seq (fun K hK => ?_) | (refine hK _ _ _ ?_; clear hK K) | (refine hK _ _ _ _ rfl ?_; clear hK K) | (refine WX.thenExit (K := K) ?_; clear hK K) | (refine WX.thenExit (K := KL) ?_; clear hL KL)))
    refine CallV.by' (bldCap_fun (p := .pointer none) (a := none) (m := 0) (c := 0)) ?_; rintro _ _ _ ⟨rfl, rfl, rfl⟩; (try simp only [List.cons_append]); (try simp only [List.nil_append])
    have h00 : ((0 : Nat) : Int) = 0 := rfl
    (repeat (first | refine vgo ?_ | refine ⟨_, rfl, rfl, ?_⟩ | refine ⟨_, rfl, ?_⟩ | refine ⟨rfl, ?_⟩ | intro hb | refine altA ?_ | refine altR ?_ | refine sideA ?_ | refine decTA ?_ | refine decFA ?_ | refine decNA ?_ | refine decBTA ?_ | refine decBFA ?_ | refine ⟨_, by assumption, ?_⟩ | refine ⟨_, _, _, rfl, ?_⟩ | refine WC.seq (fun K hK => ?_) | (refine hK _ _ _ ?_; clear hK K) | (refine hK _ _ _ _ rfl ?_; clear hK K) | (refine WX.thenExit (K := K) ?_; clear hK K) | (refine WX.thenExit (K := KL) ?_; clear hL KL)))
    exact WX.ret1 rfl rfl (fun w sw => ⟨[], [], ⟨by rw [← hi], rfl, rfl⟩, sw.to⟩)
  · have hne : l.drop p ≠ [] := fun e => by have := congrArg List.length e; simp at this; omega
    have hw1 := dcR_pos (l.drop p)
    have hw2 := dcR_le hne
    have hdl : (l.drop p).length = l.length - p := List.length_drop
    have hbd := bad_dc hne
    have next : badB (l.drop p) = false → l.take (p + (dcR (l.drop p)).2) ++ toV (l.drop (p + (dcR (l.drop p)).2)) false = toV l false := fun hb => by
      rw [toV_ok hne hb, List.drop_drop, ← List.append_assoc, ← List.take_add] at hi
      exact hi
    by_cases hf : (dcR (l.drop p)).1 = 65533
    · (repeat (first | refine vgo ?_ | refine ⟨_, rfl, rfl, ?_⟩ | refine ⟨_, rfl, ?_⟩ | refine ⟨rfl, ?_⟩ | intro hb | refine altA ?_ | refine altR ?_ | refine sideA ?_ | refine decTA ?_ | refine decFA ?_ | refine decNA ?_ | refine decBTA ?_ | refine decBFA ?_ | refine ⟨_, by assumption, ?_⟩ | refine ⟨_, _, _, rfl, ?_⟩ | refine WC.seq (fun K hK => ?_) | (refine hK _ _ _ ?_; clear hK K) | (refine hK _ _ _ _ rfl ?_; clear hK K) | (refine WX.thenExit (K := K) ?_; clear hK K) | (refine WX.thenExit (K := KL) ?_; clear hL KL)))
      refine .strL p rfl (by omega) ?_
      (repeat (first | refine vgo ?_ | refine ⟨_, rfl, rfl, ?_⟩ | refine ⟨_, rfl, ?_⟩ | refine ⟨rfl, ?_⟩ | intro hb | refine altA ?_ | refine altR ?_ | refine sideA ?_ | refine decTA ?_ | refine decFA ?_ | refine decNA ?_ | refine decBTA ?_ | refine decBFA ?_ | refine ⟨_, by assumption, ?_⟩ | refine ⟨_, _, _, rfl, ?_⟩ | refine WC.seq (fun K hK => ?_) | (refine hK _ _ _ ?_; clear hK K) | (refine hK _ _ _ _ rfl ?_; clear hK K) | (refine WX.thenExit (K := K) ?_; clear hK K) | (refine WX.thenExit (K := KL) ?_; clear hL KL)))
      refine CallV.by' (decode_fun (l.drop p) hne) ?_; rintro _ _ _ ⟨rfl, rfl, rfl⟩; (try simp only [List.cons_append]); (try simp only [List.nil_append])
      by_cases h1 : (dcR (l.drop p)).2 = 1
      · have hb := hbd.2 ⟨hf, h1⟩
        (repeat (first | refine vgo ?_ | refine ⟨_, rfl, rfl, ?_⟩ | refine ⟨_, rfl, ?_⟩ | refine ⟨rfl, ?_⟩ | intro hb | refine altA ?_ | refine altR ?_ | refine sideA ?_ | refine decTA ?_ | refine decFA ?_ | refine decNA ?_ | refine decBTA ?_ | refine decBFA ?_ | refine ⟨_, by assumption, ?_⟩ | refine ⟨_, _, _, rfl, ?_⟩ | refine WC.seq (fun K hK => ?_) | (refine hK _ _ _ ?_; clear hK K) | (refine hK _ _ _ _ rfl ?_; clear hK K) | (refine WX.thenExit (K := K) ?_; clear hK K) | (refine WX.thenExit (K := KL) ?_; clear hL KL)))
        rw [show IntKind.i64.wrap ((l.length : Int) + ((([63] : List UInt8).length : Nat) : Int)) = ((l.length + 1 : Nat) : Int) from by rw [IntKind.wrap_i64]; simp only [List.length_cons, List.length_nil]; omega]
        refine CallV.by' (grow_fun (b := b) (n := l.length + 1) (by omega) (by omega)) ?_; rintro _ _ _ ⟨rfl, rfl, v, hv, rfl⟩; (try simp only [List.cons_append]); (try simp only [List.nil_append])
        (repeat (first | refine vgo ?_ | refine ⟨_, rfl, rfl, ?_⟩ | refine ⟨_, rfl, ?_⟩ | refine ⟨rfl, ?_⟩ | intro hb | refine altA ?_ | refine altR ?_ | refine sideA ?_ | refine decTA ?_ | refine decFA ?_ | refine decNA ?_ | refine decBTA ?_ | refine decBFA ?_ | refine ⟨_, by assumption, ?_⟩ | refine ⟨_, _, _, rfl, ?_⟩ | refine WC.seq (fun K hK => ?_) | (refine hK _ _ _ ?_; clear hK K) | (refine hK _ _ _ _ rfl ?_; clear hK K) | (refine WX.thenExit (K := K) ?_; clear hK K) | (refine WX.thenExit (K := KL) ?_; clear hL KL)))
        refine .strH p rfl (by omega) ?_
        (repeat (first | refine vgo ?_ | refine ⟨_, rfl, rfl, ?_⟩ | refine ⟨_, rfl, ?_⟩ | refine ⟨rfl, ?_⟩ | intro hb | refine altA ?_ | refine altR ?_ | refine sideA ?_ | refine decTA ?_ | refine decFA ?_ | refine decNA ?_ | refine decBTA ?_ | refine decBFA ?_ | refine ⟨_, by assumption, ?_⟩ | refine ⟨_, _, _, rfl, ?_⟩ | refine WC.seq (fun K hK => ?_) | (refine hK _ _ _ ?_; clear hK K) | (refine hK _ _ _ _ rfl ?_; clear hK K) | (refine WX.thenExit (K := K) ?_; clear hK K) | (refine WX.thenExit (K := KL) ?_; clear hL KL)))
        have htk : (l.take p).length = p := by rw [List.length_take]; omega
        refine CallV.by' (writeString_fun (b := b) (p := pB b) (v := v) (l := []) (l.take p) (.inr rfl) (by simp only [List.length_nil]; omega)) ?_; rintro _ _ _ ⟨rfl, rfl, v', hv', rfl⟩; (try simp only [List.cons_append]); (try simp only [List.nil_append])
        (repeat (first | refine vgo ?_ | refine ⟨_, rfl, rfl, ?_⟩ | refine ⟨_, rfl, ?_⟩ | refine ⟨rfl, ?_⟩ | intro hb | refine altA ?_ | refine altR ?_ | refine sideA ?_ | refine decTA ?_ | refine decFA ?_ | refine decNA ?_ | refine decBTA ?_ | refine decBFA ?_ | refine ⟨_, by assumption, ?_⟩ | refine ⟨_, _, _, rfl, ?_⟩ | refine WC.seq (fun K hK => ?_) | (refine hK _ _ _ ?_; clear hK K) | (refine hK _ _ _ _ rfl ?_; clear hK K) | (refine WX.thenExit (K := K) ?_; clear hK K) | (refine WX.thenExit (K := KL) ?_; clear hL KL)))
        refine .strL p rfl (by omega) ?_
        obtain ⟨a, m, c, rfl, hc1⟩ := capV_pos (v := v') (by omega)
        (repeat (first | refine vgo ?_ | refine ⟨_, rfl, rfl, ?_⟩ | refine ⟨_, rfl, ?_⟩ | refine ⟨rfl, ?_⟩ | intro hb | refine altA ?_ | refine altR ?_ | refine sideA ?_ | refine decTA ?_ | refine decFA ?_ | refine decNA ?_ | refine decBTA ?_ | refine decBFA ?_ | refine ⟨_, by assumption, ?_⟩ | refine ⟨_, _, _, rfl, ?_⟩ | refine WC.seq (fun K hK => ?_) | (refine hK _ _ _ ?_; clear hK K) | (refine hK _ _ _ _ rfl ?_; clear hK K) | (refine WX.thenExit (K := K) ?_; clear hK K) | (refine WX.thenExit (K := KL) ?_; clear hL KL)))
        refine CallV.by' (bldCap_fun (p := pB b) (a := a) (m := m) (c := c)) ?_; rintro _ _ _ ⟨rfl, rfl, rfl⟩; (try simp only [List.cons_append]); (try simp only [List.nil_append])
        (repeat (first | refine vgo ?_ | refine ⟨_, rfl, rfl, ?_⟩ | refine ⟨_, rfl, ?_⟩ | refine ⟨rfl, ?_⟩ | intro hb | refine altA ?_ | refine altR ?_ | refine sideA ?_ | refine decTA ?_ | refine decFA ?_ | refine decNA ?_ | refine decBTA ?_ | refine decBFA ?_ | refine ⟨_, by assumption, ?_⟩ | refine ⟨_, _, _, rfl, ?_⟩ | refine WC.seq (fun K hK => ?_) | (refine hK _ _ _ ?_; clear hK K) | (refine hK _ _ _ _ rfl ?_; clear hK K) | (refine WX.thenExit (K := K) ?_; clear hK K) | (refine WX.thenExit (K := KL) ?_; clear hL KL)))
        generalize ht : l.drop p = t at *
        refine WC.loop (I := Nat × Bool × List UInt8 × Value) (fun i => [(0, .string (bs t)), (1, .string (bs [63])), (5, pB b), (10, .bool i.2.1), (11, .int .i64 (i.1 : Nat))]) (fun _ => tabsP :: Gf) (fun i => box b 42 [pB b, i.2.2.2] :: own 5 1 i.2.2.2 i.2.2.1.length (i.2.2.1.map cU) :: Sf) (fun i => i.2.2.1 ++ toV (t.drop i.1) i.2.1 = toV l false ∧ i.2.2.1.length + (t.length - i.1) ≤ l.length ∧ i.1 ≤ t.length ∧ ((i.1 = 0 ∧ i.2.1 = false) ∨ i.2.2.1 ≠ [])) (fun i => t.length - i.1) (0, false, l.take p, .slice a m c) ⟨by simpa using hi, by dsimp only; omega, Nat.zero_le _, .inl ⟨rfl, rfl⟩⟩ (.cons rfl (.cons rfl (.cons rfl (.cons rfl (.cons rfl .nil))))) (fun w h => by simp only [List.nil_append] at h; exact h.to) ?_
        rintro ⟨q, sp, o, v⟩ ⟨hi2, hlen, hq, ho⟩ KL2 hL2
        dsimp only at hi2 hlen hq ho ⊢
        by_cases hq2 : q < t.length
        · have hune : t.drop q ≠ [] := fun e => by have := congrArg List.length e; simp at this; omega
          have huw1 := dcR_pos (t.drop q)
          have huw2 := dcR_le hune
          have hul : (t.drop q).length = t.length - q := List.length_drop
          obtain ⟨c, hc⟩ : ∃ c, t[q]? = some c := ⟨t[q], List.getElem?_eq_getElem hq2⟩
          have hg : (t.drop q).getD 0 0 = c := by rw [List.getD_eq_getElem?_getD, List.getElem?_drop, Nat.add_zero, hc]; rfl
          by_cases h128 : c.toNat < 128
          · have hdc : (dcR (t.drop q)).2 = 1 := by unfold dcR; rw [dcN_low (by rw [hg]; exact h128)]
            have hnb : badB (t.drop q) = false := by unfold badB; rw [hg]; simp; intro h; omega
            have ht1 : (t.drop q).take 1 = [c] := by
              rw [List.drop_eq_getElem_cons hq2]
              have := (List.getElem?_eq_some_iff.1 hc).2
              rw [this]; rfl
            rw [toV_ok hune hnb, hdc, ht1, List.drop_drop, ← List.append_assoc] at hi2
            (repeat (first | refine vgo ?_ | refine ⟨_, rfl, rfl, ?_⟩ | refine ⟨_, rfl, ?_⟩ | refine ⟨rfl, ?_⟩ | intro hb | refine altA ?_ | refine altR ?_ | refine sideA ?_ | refine decTA ?_ | refine decFA ?_ | refine decNA ?_ | refine decBTA ?_ | refine decBFA ?_ | refine ⟨_, by assumption, ?_⟩ | refine ⟨_, _, _, rfl, ?_⟩ | refine WC.seq (fun K hK => ?_) | (refine hK _ _ _ ?_; clear hK K) | (refine hK _ _ _ _ rfl ?_; clear hK K) | (refine WX.thenExit (K := K) ?_; clear hK K) | (refine WX.thenExit (K := KL) ?_; clear hL KL)))
            refine CallV.by' (writeByte_fun (b := b) (p := pB b) (v := v) (l := o) c (.inr rfl) (by omega)) ?_; rintro _ _ _ ⟨rfl, rfl, v2, rfl⟩; (try simp only [List.cons_append]); (try simp only [List.nil_append])
            (repeat (first | refine vgo ?_ | refine ⟨_, rfl, rfl, ?_⟩ | refine ⟨_, rfl, ?_⟩ | refine ⟨rfl, ?_⟩ | intro hb | refine altA ?_ | refine altR ?_ | refine sideA ?_ | refine decTA ?_ | refine decFA ?_ | refine decNA ?_ | refine decBTA ?_ | refine decBFA ?_ | refine ⟨_, by assumption, ?_⟩ | refine ⟨_, _, _, rfl, ?_⟩ | refine WC.seq (fun K hK => ?_) | (refine hK _ _ _ ?_; clear hK K) | (refine hK _ _ _ _ rfl ?_; clear hK K) | (refine WX.thenExit (K := K) ?_; clear hK K) | (refine WX.thenExit (K := KL) ?_; clear hL KL)))
            rw [show ((q : Nat) : Int) + 1 = ((q + 1 : Nat) : Int) from rfl]
            exact (hL2 (q + 1, false, o ++ [c], v2) ⟨hi2, by simp only [List.length_append, List.length_singleton]; omega, by dsimp only; omega, .inr (by simp)⟩ (by dsimp only; omega)).conv (.cons rfl (.cons rfl (.cons rfl (.cons rfl (.cons rfl .nil))))) (fun w h => h.to)
          · (repeat (first | refine vgo ?_ | refine ⟨_, rfl, rfl, ?_⟩ | refine ⟨_, rfl, ?_⟩ | refine ⟨rfl, ?_⟩ | intro hb | refine altA ?_ | refine altR ?_ | refine sideA ?_ | refine decTA ?_ | refine decFA ?_ | refine decNA ?_ | refine decBTA ?_ | refine decBFA ?_ | refine ⟨_, by assumption, ?_⟩ | refine ⟨_, _, _, rfl, ?_⟩ | refine WC.seq (fun K hK => ?_) | (refine hK _ _ _ ?_; clear hK K) | (refine hK _ _ _ _ rfl ?_; clear hK K) | (refine WX.thenExit (K := K) ?_; clear hK K) | (refine WX.thenExit (K := KL) ?_; clear hL KL)))
            refine .strL q rfl (by omega) ?_
            (repeat (first | refine vgo ?_ | refine ⟨_, rfl, rfl, ?_⟩ | refine ⟨_, rfl, ?_⟩ | refine ⟨rfl, ?_⟩ | intro hb | refine altA ?_ | refine altR ?_ | refine sideA ?_ | refine decTA ?_ | refine decFA ?_ | refine decNA ?_ | refine decBTA ?_ | refine decBFA ?_ | refine ⟨_, by assumption, ?_⟩ | refine ⟨_, _, _, rfl, ?_⟩ | refine WC.seq (fun K hK => ?_) | (refine hK _ _ _ ?_; clear hK K) | (refine hK _ _ _ _ rfl ?_; clear hK K) | (refine WX.thenExit (K := K) ?_; clear hK K) | (refine WX.thenExit (K := KL) ?_; clear hL KL)))
            refine CallV.by' (decode_fun (t.drop q) hune) ?_; rintro _ _ _ ⟨rfl, rfl, rfl⟩; (try simp only [List.cons_append]); (try simp only [List.nil_append])
            have h128b : decide (128 ≤ ((t.drop q).getD 0 0).toNat) = true := by rw [hg]; simp; omega
            by_cases hw : (dcR (t.drop q)).2 = 1
            · have hbt : badB (t.drop q) = true := by unfold badB; rw [h128b, hw]; rfl
              rw [toV_bad hune hbt, List.drop_drop, ← List.append_assoc] at hi2
              cases sp with
              | true =>
                have ho2 : o ≠ [] := by rcases ho with ⟨_, h⟩ | h
                                        · cases h
                                        · exact h
                (repeat (first | refine vgo ?_ | refine ⟨_, rfl, rfl, ?_⟩ | refine ⟨_, rfl, ?_⟩ | refine ⟨rfl, ?_⟩ | intro hb | refine altA ?_ | refine altR ?_ | refine sideA ?_ | refine decTA ?_ | refine decFA ?_ | refine decNA ?_ | refine decBTA ?_ | refine decBFA ?_ | refine ⟨_, by assumption, ?_⟩ | refine ⟨_, _, _, rfl, ?_⟩ | refine WC.seq (fun K hK => ?_) | (refine hK _ _ _ ?_; clear hK K) | (refine hK _ _ _ _ rfl ?_; clear hK K) | (refine WX.thenExit (K := K) ?_; clear hK K) | (refine WX.thenExit (K := KL) ?_; clear hL KL)))
                rw [show ((q : Nat) : Int) + 1 = ((q + 1 : Nat) : Int) from rfl]
                exact (hL2 (q + 1, true, o, v) ⟨by simpa using hi2, by dsimp only; omega, by dsimp only; omega, .inr ho2⟩ (by dsimp only; omega)).conv (.cons rfl (.cons rfl (.cons rfl (.cons rfl (.cons rfl .nil))))) (fun w h => h.to)
              | false =>
                (repeat (first | refine vgo ?_ | refine ⟨_, rfl, rfl, ?_⟩ | refine ⟨_, rfl, ?_⟩ | refine ⟨rfl, ?_⟩ | intro hb | refine altA ?_ | refine altR ?_ | refine sideA ?_ | refine decTA ?_ | refine decFA ?_ | refine decNA ?_ | refine decBTA ?_ | refine decBFA ?_ | refine ⟨_, by assumption, ?_⟩ | refine ⟨_, _, _, rfl, ?_⟩ | refine WC.seq (fun K hK => ?_) | (refine hK _ _ _ ?_; clear hK K) | (refine hK _ _ _ _ rfl ?_; clear hK K) | (refine WX.thenExit (K := K) ?_; clear hK K) | (refine WX.thenExit (K := KL) ?_; clear hL KL)))
                refine CallV.by' (writeString_fun (b := b) (p := pB b) (v := v) (l := o) [63] (.inr rfl) (by simp only [List.length_singleton]; omega)) ?_; rintro _ _ _ ⟨rfl, rfl, v2, hv2, rfl⟩; (try simp only [List.cons_append]); (try simp only [List.nil_append])
                (repeat (first | refine vgo ?_ | refine ⟨_, rfl, rfl, ?_⟩ | refine ⟨_, rfl, ?_⟩ | refine ⟨rfl, ?_⟩ | intro hb | refine altA ?_ | refine altR ?_ | refine sideA ?_ | refine decTA ?_ | refine decFA ?_ | refine decNA ?_ | refine decBTA ?_ | refine decBFA ?_ | refine ⟨_, by assumption, ?_⟩ | refine ⟨_, _, _, rfl, ?_⟩ | refine WC.seq (fun K hK => ?_) | (refine hK _ _ _ ?_; clear hK K) | (refine hK _ _ _ _ rfl ?_; clear hK K) | (refine WX.thenExit (K := K) ?_; clear hK K) | (refine WX.thenExit (K := KL) ?_; clear hL KL)))
                rw [show ((q : Nat) : Int) + 1 = ((q + 1 : Nat) : Int) from rfl]
                exact (hL2 (q + 1, true, o ++ [63], v2) ⟨by simpa using hi2, by simp only [List.length_append, List.length_singleton]; omega, by dsimp only; omega, .inr (by simp)⟩ (by dsimp only; omega)).conv (.cons rfl (.cons rfl (.cons rfl (.cons rfl (.cons rfl .nil))))) (fun w h => h.to)
            · have hbf : badB (t.drop q) = false := by unfold badB; simp [hw]
              rw [toV_ok hune hbf, List.drop_drop, ← List.append_assoc] at hi2
              have htk2 : ((t.drop q).take (dcR (t.drop q)).2).length = (dcR (t.drop q)).2 := by rw [List.length_take]; omega
              have hcut : (t.take (q + (dcR (t.drop q)).2)).drop q = (t.drop q).take (dcR (t.drop q)).2 := by rw [List.drop_take]; congr 1; omega
              (repeat (first | refine vgo ?_ | refine ⟨_, rfl, rfl, ?_⟩ | refine ⟨_, rfl, ?_⟩ | refine ⟨rfl, ?_⟩ | intro hb | refine altA ?_ | refine altR ?_ | refine sideA ?_ | refine decTA ?_ | refine decFA ?_ | refine decNA ?_ | refine decBTA ?_ | refine decBFA ?_ | refine ⟨_, by assumption, ?_⟩ | refine ⟨_, _, _, rfl, ?_⟩ | refine WC.seq (fun K hK => ?_) | (refine hK _ _ _ ?_; clear hK K) | (refine hK _ _ _ _ rfl ?_; clear hK K) | (refine WX.thenExit (K := K) ?_; clear hK K) | (refine WX.thenExit (K := KL) ?_; clear hL KL)))
              refine .strB q (q + (dcR (t.drop q)).2) rfl (by omega) (by omega) (by omega) ?_
              rw [hcut]
              (repeat (first | refine vgo ?_ | refine ⟨_, rfl, rfl, ?_⟩ | refine ⟨_, rfl, ?_⟩ | refine ⟨rfl, ?_⟩ | intro hb | refine altA ?_ | refine altR ?_ | refine sideA ?_ | refine decTA ?_ | refine decFA ?_ | refine decNA ?_ | refine decBTA ?_ | refine decBFA ?_ | refine ⟨_, by assumption, ?_⟩ | refine ⟨_, _, _, rfl, ?_⟩ | refine WC.seq (fun K hK => ?_) | (refine hK _ _ _ ?_; clear hK K) | (refine hK _ _ _ _ rfl ?_; clear hK K) | (refine WX.thenExit (K := K) ?_; clear hK K) | (refine WX.thenExit (K := KL) ?_; clear hL KL)))
              refine CallV.by' (writeString_fun (b := b) (p := pB b) (v := v) (l := o) ((t.drop q).take (dcR (t.drop q)).2) (.inr rfl) (by omega)) ?_; rintro _ _ _ ⟨rfl, rfl, v2, hv2, rfl⟩; (try simp only [List.cons_append]); (try simp only [List.nil_append])
              (repeat (first | refine vgo ?_ | refine ⟨_, rfl, rfl, ?_⟩ | refine ⟨_, rfl, ?_⟩ | refine ⟨rfl, ?_⟩ | intro hb | refine altA ?_ | refine altR ?_ | refine sideA ?_ | refine decTA ?_ | refine decFA ?_ | refine decNA ?_ | refine decBTA ?_ | refine decBFA ?_ | refine ⟨_, by assumption, ?_⟩ | refine ⟨_, _, _, rfl, ?_⟩ | refine WC.seq (fun K hK => ?_) | (refine hK _ _ _ ?_; clear hK K) | (refine hK _ _ _ _ rfl ?_; clear hK K) | (refine WX.thenExit (K := K) ?_; clear hK K) | (refine WX.thenExit (K := KL) ?_; clear hL KL)))
              rw [show ((q : Nat) : Int) + (((dcR (t.drop q)).2 : Nat) : Int) = ((q + (dcR (t.drop q)).2 : Nat) : Int) from by omega]
              exact (hL2 (q + (dcR (t.drop q)).2, false, o ++ (t.drop q).take (dcR (t.drop q)).2, v2) ⟨hi2, by simp only [List.length_append]; omega, by dsimp only; omega, .inr (by intro e; have := congrArg List.length e; rw [List.length_append, htk2] at this; simp at this; omega)⟩ (by dsimp only; omega)).conv (.cons rfl (.cons rfl (.cons rfl (.cons rfl (.cons rfl .nil))))) (fun w h => h.to)
        · have hqe : q = t.length := by omega
          have hpos : 0 < t.length := List.length_pos_iff.2 hne
          have ho2 : o ≠ [] := by rcases ho with ⟨h, _⟩ | h
                                  · omega
                                  · exact h
          rw [hqe, List.drop_length, toV_nil, List.append_nil] at hi2
          (repeat (first | refine vgo ?_ | refine ⟨_, rfl, rfl, ?_⟩ | refine ⟨_, rfl, ?_⟩ | refine ⟨rfl, ?_⟩ | intro hb | refine altA ?_ | refine altR ?_ | refine sideA ?_ | refine decTA ?_ | refine decFA ?_ | refine decNA ?_ | refine decBTA ?_ | refine decBFA ?_ | refine ⟨_, by assumption, ?_⟩ | refine ⟨_, _, _, rfl, ?_⟩ | refine WC.seq (fun K hK => ?_) | (refine hK _ _ _ ?_; clear hK K) | (refine hK _ _ _ _ rfl ?_; clear hK K) | (refine WX.thenExit (K := K) ?_; clear hK K) | (refine WX.thenExit (K := KL) ?_; clear hL KL)))
          refine WX.thenExit (K := KL2) ?_
          (repeat (first | refine vgo ?_ | refine ⟨_, rfl, rfl, ?_⟩ | refine ⟨_, rfl, ?_⟩ | refine ⟨rfl, ?_⟩ | intro hb | refine altA ?_ | refine altR ?_ | refine sideA ?_ | refine decTA ?_ | refine decFA ?_ | refine decNA ?_ | refine decBTA ?_ | refine decBFA ?_ | refine ⟨_, by assumption, ?_⟩ | refine ⟨_, _, _, rfl, ?_⟩ | refine WC.seq (fun K hK => ?_) | (refine hK _ _ _ ?_; clear hK K) | (refine hK _ _ _ _ rfl ?_; clear hK K) | (refine WX.thenExit (K := K) ?_; clear hK K) | (refine WX.thenExit (K := KL) ?_; clear hL KL)))
          refine CallV.by' (string_fun (b := b) (p := pB b) (v := v) ho2) ?_; rintro _ _ _ ⟨rfl, rfl, rfl⟩; (try simp only [List.cons_append]); (try simp only [List.nil_append])
          (repeat (first | refine vgo ?_ | refine ⟨_, rfl, rfl, ?_⟩ | refine ⟨_, rfl, ?_⟩ | refine ⟨rfl, ?_⟩ | intro hb | refine altA ?_ | refine altR ?_ | refine sideA ?_ | refine decTA ?_ | refine decFA ?_ | refine decNA ?_ | refine decBTA ?_ | refine decBFA ?_ | refine ⟨_, by assumption, ?_⟩ | refine ⟨_, _, _, rfl, ?_⟩ | refine WC.seq (fun K hK => ?_) | (refine hK _ _ _ ?_; clear hK K) | (refine hK _ _ _ _ rfl ?_; clear hK K) | (refine WX.thenExit (K := K) ?_; clear hK K) | (refine WX.thenExit (K := KL) ?_; clear hL KL)))
          exact WX.ret1 rfl rfl (fun w sw => ⟨[], [], ⟨by rw [hi2], rfl, rfl⟩, sw.to⟩)
      · have hb : badB (l.drop p) = false := by
          cases hq : badB (l.drop p) with
          | false => rfl
          | true => exact absurd (hbd.1 hq).2 h1
        (repeat (first | refine vgo ?_ | refine ⟨_, rfl, rfl, ?_⟩ | refine ⟨_, rfl, ?_⟩ | refine ⟨rfl, ?_⟩ | intro hb | refine altA ?_ | refine altR ?_ | refine sideA ?_ | refine decTA ?_ | refine decFA ?_ | refine decNA ?_ | refine decBTA ?_ | refine decBFA ?_ | refine ⟨_, by assumption, ?_⟩ | refine ⟨_, _, _, rfl, ?_⟩ | refine WC.seq (fun K hK => ?_) | (refine hK _ _ _ ?_; clear hK K) | (refine hK _ _ _ _ rfl ?_; clear hK K) | (refine WX.thenExit (K := K) ?_; clear hK K) | (refine WX.thenExit (K := KL) ?_; clear hL KL)))
        exact (hL (p + (dcR (l.drop p)).2) (next hb) (by omega)).conv (.cons rfl (.cons rfl (.cons rfl (.cons rfl .nil)))) (fun w h => h.to)
    · have hb : badB (l.drop p) = false := by
        cases hq : badB (l.drop p) with
        | false => rfl
        | true => exact absurd (hbd.1 hq).1 hf
      (repeat (first | refine vgo ?_ | refine ⟨_, rfl, rfl, ?_⟩ | refine ⟨_, rfl, ?_⟩ | refine ⟨rfl, ?_⟩ | intro hb | refine altA ?_ | refine altR ?_ | refine sideA ?_ | refine decTA ?_ | refine decFA ?_ | refine decNA ?_ | refine decBTA ?_ | refine decBFA ?_ | refine ⟨_, by assumption, ?_⟩ | refine ⟨_, _, _, rfl, ?_⟩ | refine WC.seq (fun K hK => ?_) | (refine hK _ _ _ ?_; clear hK K) | (refine hK _ _ _ _ rfl ?_; clear hK K) | (refine WX.thenExit (K := K) ?_; clear hK K) | (refine WX.thenExit (K := KL) ?_; clear hL KL)))
      exact (hL (p + (dcR (l.drop p)).2) (next hb) (by omega)).conv (.cons rfl (.cons rfl (.cons rfl (.cons rfl .nil)))) (fun w h => h.to)
end Go.Qd
