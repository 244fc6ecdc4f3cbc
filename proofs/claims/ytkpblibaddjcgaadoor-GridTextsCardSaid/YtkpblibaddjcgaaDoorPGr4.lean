/-
  Texts of a window: what may stand in a line, by the document.
-/
import Derived.Test.YtkpblibaddjcgaaDoorPGr3
namespace Go.Qd
open Go Go.Proofs
def badB (l : List UInt8) : Bool := decide (128 ≤ (l.getD 0 0).toNat) && decide ((dcR l).2 = 1)
theorem dcN_low {n b0 b1 b2 b3 : Nat} (h : b0 < 128) : Lib.decodeN n b0 b1 b2 b3 = (b0, 1) := by unfold Lib.decodeN; rw [if_pos h]
theorem dcN_bad {n b0 b1 b2 b3 : Nat} (h : 128 ≤ b0) (h1 : (Lib.decodeN n b0 b1 b2 b3).2 = 1) : (Lib.decodeN n b0 b1 b2 b3).1 = 65533 := by
  unfold Lib.decodeN at h1 ⊢
  repeat' split at h1
  all_goals (repeat' split)
  all_goals first | rfl | (exfalso; dsimp only at h1; omega) | (dsimp only at *; omega)
theorem dcN_fffd {n b0 b1 b2 b3 : Nat} (h : (Lib.decodeN n b0 b1 b2 b3).1 = 65533) : (Lib.decodeN n b0 b1 b2 b3).2 = 1 ∨ (2 < n ∧ b0 = 239 ∧ b1 = 191 ∧ b2 = 189) := by
  unfold Lib.decodeN at h ⊢
  repeat' split at h
  all_goals (repeat' split)
  all_goals first | exact .inl rfl | (exfalso; dsimp only at h; omega) | (dsimp only at *; omega)
theorem dcN_efbfbd {n b3 : Nat} (h : 2 < n) : Lib.decodeN n 239 191 189 b3 = (65533, 3) := by
  unfold Lib.decodeN
  have : 1 < n := by omega
  simp [h, this]
theorem bad_iff {l : List UInt8} (hl : l ≠ []) : badB l = true ↔ ((dcR l).1 = 65533 ∧ ¬ (3 ≤ l.length ∧ l.take 3 = [239, 191, 189])) := by
  obtain ⟨c, r, rfl⟩ : ∃ c r, l = c :: r := by cases l with
    | nil => exact absurd rfl hl
    | cons c r => exact ⟨c, r, rfl⟩
  unfold badB
  rw [Bool.and_eq_true, decide_eq_true_eq, decide_eq_true_eq]
  constructor
  · rintro ⟨h1, h2⟩
    refine ⟨dcN_bad h1 h2, ?_⟩
    rintro ⟨h3, h4⟩
    obtain ⟨d, e, q, rfl⟩ : ∃ d e q, r = d :: e :: q := by
      rcases r with _ | ⟨d, _ | ⟨e, q⟩⟩
      · simp at h3
      · simp at h3
      · exact ⟨d, e, q, rfl⟩
    simp only [List.take, List.cons.injEq, and_true] at h4
    obtain ⟨rfl, rfl, rfl⟩ := h4
    unfold dcR at h2
    have := dcN_efbfbd (n := (239 :: 191 :: 189 :: q : List UInt8).length) (b3 := ((239 :: 191 :: 189 :: q : List UInt8).getD 3 0).toNat) (by simp)
    rw [show ((239 :: 191 :: 189 :: q : List UInt8).getD 0 0).toNat = 239 from rfl, show ((239 :: 191 :: 189 :: q : List UInt8).getD 1 0).toNat = 191 from rfl, show ((239 :: 191 :: 189 :: q : List UInt8).getD 2 0).toNat = 189 from rfl, this] at h2
    cases h2
  · rintro ⟨h1, h2⟩
    unfold dcR at h1 ⊢
    refine ⟨?_, ?_⟩
    · by_cases h3 : ((c :: r : List UInt8).getD 0 0).toNat < 128
      · rw [dcN_low h3] at h1
        dsimp only at h1
        omega
      · omega
    · rcases dcN_fffd h1 with h3 | ⟨h3, h4, h5, h6⟩
      · exact h3
      · exfalso
        apply h2
        rcases r with _ | ⟨d, _ | ⟨e, q⟩⟩
        · simp at h3
        · simp at h3
        · refine ⟨by simp, ?_⟩
          have e1 : c = 239 := UInt8.toNat.inj h4
          have e2 : d = 191 := UInt8.toNat.inj h5
          have e3 : e = 189 := UInt8.toNat.inj h6
          rw [e1, e2, e3]; rfl
def ctlB (c : UInt8) : Bool := decide (c.toNat < 32) || decide (c.toNat = 127)
def cleanM (l : List UInt8) (sp : Bool) : List UInt8 :=
  if h : l = [] then []
  else if badB l then (if sp then [] else [63]) ++ cleanM (l.drop 1) true
  else (if (dcR l).2 = 1 ∧ ctlB (l.getD 0 0) = true then [63] else l.take (dcR l).2) ++ cleanM (l.drop (dcR l).2) false
termination_by l.length
decreasing_by
  · have := List.length_pos_iff.2 h; rw [List.length_drop]; omega
  · have := List.length_pos_iff.2 h; have := dcR_pos l; rw [List.length_drop]; omega
theorem cleanM_nil (sp : Bool) : cleanM [] sp = [] := by rw [cleanM, dif_pos rfl]
theorem cleanM_bad {l : List UInt8} (h : l ≠ []) (hb : badB l = true) (sp : Bool) : cleanM l sp = (if sp then [] else [63]) ++ cleanM (l.drop 1) true := by rw [cleanM, dif_neg h, if_pos hb]
theorem cleanM_ok {l : List UInt8} (h : l ≠ []) (hb : badB l = false) (sp : Bool) : cleanM l sp = (if (dcR l).2 = 1 ∧ ctlB (l.getD 0 0) = true then [63] else l.take (dcR l).2) ++ cleanM (l.drop (dcR l).2) false := by
  rw [cleanM, dif_neg h, if_neg (by rw [hb]; simp)]
set_option maxHeartbeats 1600000 in
theorem length_fun (l : List UInt8) (hl : l ≠ []) (hl2 : l.length ≤ 2000000) : Fun Tryd.prog 27 [.string (bs l)] [] [] (fun z G S => z = .int .i64 ((if badB l then 0 else (dcR l).2 : Nat)) ∧ G = [] ∧ S = []) := by
  have hpos : 0 < l.length := List.length_pos_iff.2 hl
  have hw1 := dcR_pos l
  have hw2 := dcR_le hl
  have hb := bad_iff hl
  refine Fun.enter Tryd.func27 (by kernel_rfl) rfl Tryd.ntmps27 rfl (fun B Gf Sf => ?_); (try simp only [List.cons_append]); (try simp only [List.nil_append]); simp only [argEnv]
  (repeat (first | refine vgo ?_ | refine ⟨_, rfl, rfl, ?_⟩ | refine ⟨_, rfl, ?_⟩ | refine ⟨rfl, ?_⟩ | intro hb | refine altA ?_ | refine altR ?_ | refine sideA ?_ | refine decTA ?_ | refine decFA ?_ | refine decNA ?_ | refine decBTA ?_ | refine decBFA ?_ | refine ⟨_, by assumption, ?_⟩ | refine ⟨_, _, _, rfl, ?_⟩ | refine WC.seq (fun K hK => ?_) | (refine hK _ _ _ ?_; clear hK K) | (refine hK _ _ _ _ rfl ?_; clear hK K) | (refine WX.thenExit (K := K) ?_; clear hK K) | (refine WX.thenExit (K := KL) ?_; clear hL KL)))
  refine WL.rangeS rfl rfl (fun it => ?_)
  (repeat (first | refine vgo ?_ | refine ⟨_, rfl, rfl, ?_⟩ | refine ⟨_, rfl, ?_⟩ | refine ⟨rfl, ?_⟩ | intro hb | refine altA ?_ | refine altR ?_ | refine sideA ?_ | refine decTA ?_ | refine decFA ?_ | refine decNA ?_ | refine decBTA ?_ | refine decBFA ?_ | refine ⟨_, by assumption, ?_⟩ | refine ⟨_, _, _, rfl, ?_⟩ | refine WC.seq (fun K hK => ?_) | (refine hK _ _ _ ?_; clear hK K) | (refine hK _ _ _ _ rfl ?_; clear hK K) | (refine WX.thenExit (K := K) ?_; clear hK K) | (refine WX.thenExit (K := KL) ?_; clear hL KL)))
  refine WC.loop (I := Nat) (fun _ => [(0, .string (bs l)), (6, .pointer (some ⟨it, 0, none⟩))]) (fun _ => Gf) (fun p => stI it l p :: Sf) (fun p => p = 0 ∨ (p = (dcR l).2 ∧ badB l = false)) (fun p => if p = 0 then 1 else 0) 0 (.inl rfl) (.cons rfl (.cons rfl .nil)) (fun w h => h.to) ?_
  rintro p hi KL hL
  rcases hi with rfl | ⟨rfl, hb0⟩
  · (repeat (first | refine vgo ?_ | refine ⟨_, rfl, rfl, ?_⟩ | refine ⟨_, rfl, ?_⟩ | refine ⟨rfl, ?_⟩ | intro hb | refine altA ?_ | refine altR ?_ | refine sideA ?_ | refine decTA ?_ | refine decFA ?_ | refine decNA ?_ | refine decBTA ?_ | refine decBFA ?_ | refine ⟨_, by assumption, ?_⟩ | refine ⟨_, _, _, rfl, ?_⟩ | refine WC.seq (fun K hK => ?_) | (refine hK _ _ _ ?_; clear hK K) | (refine hK _ _ _ _ rfl ?_; clear hK K) | (refine WX.thenExit (K := K) ?_; clear hK K) | (refine WX.thenExit (K := KL) ?_; clear hL KL)))
    refine WL.nextS rfl rfl (fun hp => by omega) (fun hp => ?_)
    rw [List.drop_zero, Nat.zero_add]
    by_cases hf : (dcR l).1 = 65533
    · by_cases h3 : l.length < 3
      · have hbt := hb.2 ⟨hf, fun h => by omega⟩
        (repeat (first | refine vgo ?_ | refine ⟨_, rfl, rfl, ?_⟩ | refine ⟨_, rfl, ?_⟩ | refine ⟨rfl, ?_⟩ | intro hb | refine altA ?_ | refine altR ?_ | refine sideA ?_ | refine decTA ?_ | refine decFA ?_ | refine decNA ?_ | refine decBTA ?_ | refine decBFA ?_ | refine ⟨_, by assumption, ?_⟩ | refine ⟨_, _, _, rfl, ?_⟩ | refine WC.seq (fun K hK => ?_) | (refine hK _ _ _ ?_; clear hK K) | (refine hK _ _ _ _ rfl ?_; clear hK K) | (refine WX.thenExit (K := K) ?_; clear hK K) | (refine WX.thenExit (K := KL) ?_; clear hL KL)))
        exact WX.ret1 rfl rfl (fun w sw => ⟨[], [], ⟨by rw [hbt]; rfl, rfl, rfl⟩, sw.to⟩)
      · by_cases h4 : l.take 3 = [239, 191, 189]
        · have hbf : badB l = false := by
            cases hq : badB l with
            | false => rfl
            | true => exact absurd ⟨by omega, h4⟩ (hb.1 hq).2
          have h4n : ¬ ¬ l.take 3 = [239, 191, 189] := fun h => h h4
          (repeat (first | refine vgo ?_ | refine ⟨_, rfl, rfl, ?_⟩ | refine ⟨_, rfl, ?_⟩ | refine ⟨rfl, ?_⟩ | intro hb | refine altA ?_ | refine altR ?_ | refine sideA ?_ | refine decTA ?_ | refine decFA ?_ | refine decNA ?_ | refine decBTA ?_ | refine decBFA ?_ | refine ⟨_, by assumption, ?_⟩ | refine ⟨_, _, _, rfl, ?_⟩ | refine WC.seq (fun K hK => ?_) | (refine hK _ _ _ ?_; clear hK K) | (refine hK _ _ _ _ rfl ?_; clear hK K) | (refine WX.thenExit (K := K) ?_; clear hK K) | (refine WX.thenExit (K := KL) ?_; clear hL KL)))
          refine .strH 3 rfl (by omega) ?_
          (repeat (first | refine vgo ?_ | refine ⟨_, rfl, rfl, ?_⟩ | refine ⟨_, rfl, ?_⟩ | refine ⟨rfl, ?_⟩ | intro hb | refine altA ?_ | refine altR ?_ | refine sideA ?_ | refine decTA ?_ | refine decFA ?_ | refine decNA ?_ | refine decBTA ?_ | refine decBFA ?_ | refine ⟨_, by assumption, ?_⟩ | refine ⟨_, _, _, rfl, ?_⟩ | refine WC.seq (fun K hK => ?_) | (refine hK _ _ _ ?_; clear hK K) | (refine hK _ _ _ _ rfl ?_; clear hK K) | (refine WX.thenExit (K := K) ?_; clear hK K) | (refine WX.thenExit (K := KL) ?_; clear hL KL)))
          exact (hL (dcR l).2 (.inr ⟨rfl, hbf⟩) (by rw [if_neg (by omega), if_pos rfl]; omega)).conv (.cons rfl (.cons rfl .nil)) (fun w h => h.to)
        · have hbt := hb.2 ⟨hf, fun h => h4 h.2⟩
          (repeat (first | refine vgo ?_ | refine ⟨_, rfl, rfl, ?_⟩ | refine ⟨_, rfl, ?_⟩ | refine ⟨rfl, ?_⟩ | intro hb | refine altA ?_ | refine altR ?_ | refine sideA ?_ | refine decTA ?_ | refine decFA ?_ | refine decNA ?_ | refine decBTA ?_ | refine decBFA ?_ | refine ⟨_, by assumption, ?_⟩ | refine ⟨_, _, _, rfl, ?_⟩ | refine WC.seq (fun K hK => ?_) | (refine hK _ _ _ ?_; clear hK K) | (refine hK _ _ _ _ rfl ?_; clear hK K) | (refine WX.thenExit (K := K) ?_; clear hK K) | (refine WX.thenExit (K := KL) ?_; clear hL KL)))
          refine .strH 3 rfl (by omega) ?_
          (repeat (first | refine vgo ?_ | refine ⟨_, rfl, rfl, ?_⟩ | refine ⟨_, rfl, ?_⟩ | refine ⟨rfl, ?_⟩ | intro hb | refine altA ?_ | refine altR ?_ | refine sideA ?_ | refine decTA ?_ | refine decFA ?_ | refine decNA ?_ | refine decBTA ?_ | refine decBFA ?_ | refine ⟨_, by assumption, ?_⟩ | refine ⟨_, _, _, rfl, ?_⟩ | refine WC.seq (fun K hK => ?_) | (refine hK _ _ _ ?_; clear hK K) | (refine hK _ _ _ _ rfl ?_; clear hK K) | (refine WX.thenExit (K := K) ?_; clear hK K) | (refine WX.thenExit (K := KL) ?_; clear hL KL)))
          exact WX.ret1 rfl rfl (fun w sw => ⟨[], [], ⟨by rw [hbt]; rfl, rfl, rfl⟩, sw.to⟩)
    · have hbf : badB l = false := by
        cases hq : badB l with
        | false => rfl
        | true => exact absurd (hb.1 hq).1 hf
      (repeat (first | refine vgo ?_ | refine ⟨_, rfl, rfl, ?_⟩ | refine ⟨_, rfl, ?_⟩ | refine ⟨rfl, ?_⟩ | intro hb | refine altA ?_ | refine altR ?_ | refine sideA ?_ | refine decTA ?_ | refine decFA ?_ | refine decNA ?_ | refine decBTA ?_ | refine decBFA ?_ | refine ⟨_, by assumption, ?_⟩ | refine ⟨_, _, _, rfl, ?_⟩ | refine WC.seq (fun K hK => ?_) | (refine hK _ _ _ ?_; clear hK K) | (refine hK _ _ _ _ rfl ?_; clear hK K) | (refine WX.thenExit (K := K) ?_; clear hK K) | (refine WX.thenExit (K := KL) ?_; clear hL KL)))
      exact (hL (dcR l).2 (.inr ⟨rfl, hbf⟩) (by rw [if_neg (by omega), if_pos rfl]; omega)).conv (.cons rfl (.cons rfl .nil)) (fun w h => h.to)
  · (repeat (first | refine vgo ?_ | refine ⟨_, rfl, rfl, ?_⟩ | refine ⟨_, rfl, ?_⟩ | refine ⟨rfl, ?_⟩ | intro hb | refine altA ?_ | refine altR ?_ | refine sideA ?_ | refine decTA ?_ | refine decFA ?_ | refine decNA ?_ | refine decBTA ?_ | refine decBFA ?_ | refine ⟨_, by assumption, ?_⟩ | refine ⟨_, _, _, rfl, ?_⟩ | refine WC.seq (fun K hK => ?_) | (refine hK _ _ _ ?_; clear hK K) | (refine hK _ _ _ _ rfl ?_; clear hK K) | (refine WX.thenExit (K := K) ?_; clear hK K) | (refine WX.thenExit (K := KL) ?_; clear hL KL)))
    refine WL.nextS rfl rfl (fun hp => ?_) (fun hp => ?_)
    · (repeat (first | refine vgo ?_ | refine ⟨_, rfl, rfl, ?_⟩ | refine ⟨_, rfl, ?_⟩ | refine ⟨rfl, ?_⟩ | intro hb | refine altA ?_ | refine altR ?_ | refine sideA ?_ | refine decTA ?_ | refine decFA ?_ | refine decNA ?_ | refine decBTA ?_ | refine decBFA ?_ | refine ⟨_, by assumption, ?_⟩ | refine ⟨_, _, _, rfl, ?_⟩ | refine WC.seq (fun K hK => ?_) | (refine hK _ _ _ ?_; clear hK K) | (refine hK _ _ _ _ rfl ?_; clear hK K) | (refine WX.thenExit (K := K) ?_; clear hK K) | (refine WX.thenExit (K := KL) ?_; clear hL KL)))
      exact WX.ret1 rfl rfl (fun w sw => ⟨[], [], ⟨by rw [hb0, if_neg (by simp), show l.length = (dcR l).2 by omega], rfl, rfl⟩, sw.to⟩)
    · (repeat (first | refine vgo ?_ | refine ⟨_, rfl, rfl, ?_⟩ | refine ⟨_, rfl, ?_⟩ | refine ⟨rfl, ?_⟩ | intro hb | refine altA ?_ | refine altR ?_ | refine sideA ?_ | refine decTA ?_ | refine decFA ?_ | refine decNA ?_ | refine decBTA ?_ | refine decBFA ?_ | refine ⟨_, by assumption, ?_⟩ | refine ⟨_, _, _, rfl, ?_⟩ | refine WC.seq (fun K hK => ?_) | (refine hK _ _ _ ?_; clear hK K) | (refine hK _ _ _ _ rfl ?_; clear hK K) | (refine WX.thenExit (K := K) ?_; clear hK K) | (refine WX.thenExit (K := KL) ?_; clear hL KL)))
      exact WX.ret1 rfl rfl (fun w sw => ⟨[], [], ⟨by rw [hb0, if_neg (by simp)], rfl, rfl⟩, sw.to⟩)
set_option maxHeartbeats 3200000 in
theorem rclean_fun (l : List UInt8) (hl2 : l.length ≤ 2000000) : Fun Tryd.prog 19 [.string (bs l)] [] [] (fun z G S => z = .string (bs (cleanM l false)) ∧ G = [] ∧ S = []) := by
  refine Fun.enter Tryd.func19 (by kernel_rfl) rfl Tryd.ntmps19 rfl (fun B Gf Sf => ?_); (try simp only [List.cons_append]); (try simp only [List.nil_append]); simp only [argEnv]
  (repeat (first | refine vgo ?_ | refine ⟨_, rfl, rfl, ?_⟩ | refine ⟨_, rfl, ?_⟩ | refine ⟨rfl, ?_⟩ | intro hb | refine altA ?_ | refine altR ?_ | refine sideA ?_ | refine decTA ?_ | refine decFA ?_ | refine decNA ?_ | refine decBTA ?_ | refine decBFA ?_ | refine ⟨_, by assumption, ?_⟩ | refine ⟨_, _, _, rfl, ?_⟩ | refine WC.seq (fun K hK => ?_) | (refine hK _ _ _ ?_; clear hK K) | (refine hK _ _ _ _ rfl ?_; clear hK K) | (refine WX.thenExit (K := K) ?_; clear hK K) | (refine WX.thenExit (K := KL) ?_; clear hL KL)))
  refine WC.loop (I := List UInt8 × List UInt8 × Bool) (fun i => [(0, .string (bs i.1)), (3, .string (bs i.2.1)), (4, .bool i.2.2)]) (fun _ => Gf) (fun _ => Sf) (fun i => i.2.1 ++ cleanM i.1 i.2.2 = cleanM l false ∧ i.2.1.length + i.1.length ≤ l.length) (fun i => i.1.length) (l, [], false) ⟨rfl, by simp⟩ (.cons rfl (.cons rfl (.cons rfl .nil))) (fun w h => h.to) ?_
  rintro ⟨r, o, sp⟩ ⟨hi, hlen⟩ KL hL
  dsimp only at hi hlen ⊢
  by_cases hr : r = []
  · subst hr
    rw [cleanM_nil, List.append_nil] at hi
    subst hi
    have h0 : ¬ (0 : Int) < (([] : List UInt8).length : Nat) := by simp
    (repeat (first | refine vgo ?_ | refine ⟨_, rfl, rfl, ?_⟩ | refine ⟨_, rfl, ?_⟩ | refine ⟨rfl, ?_⟩ | intro hb | refine altA ?_ | refine altR ?_ | refine sideA ?_ | refine decTA ?_ | refine decFA ?_ | refine decNA ?_ | refine decBTA ?_ | refine decBFA ?_ | refine ⟨_, by assumption, ?_⟩ | refine ⟨_, _, _, rfl, ?_⟩ | refine WC.seq (fun K hK => ?_) | (refine hK _ _ _ ?_; clear hK K) | (refine hK _ _ _ _ rfl ?_; clear hK K) | (refine WX.thenExit (K := K) ?_; clear hK K) | (refine WX.thenExit (K := KL) ?_; clear hL KL)))
    exact WX.ret1 rfl rfl (fun w sw => ⟨[], [], ⟨rfl, rfl, rfl⟩, sw.to⟩)
  have hpos : 0 < r.length := List.length_pos_iff.2 hr
  have hw1 := dcR_pos r
  have hw2 := dcR_le hr
  (repeat (first | refine vgo ?_ | refine ⟨_, rfl, rfl, ?_⟩ | refine ⟨_, rfl, ?_⟩ | refine ⟨rfl, ?_⟩ | intro hb | refine altA ?_ | refine altR ?_ | refine sideA ?_ | refine decTA ?_ | refine decFA ?_ | refine decNA ?_ | refine decBTA ?_ | refine decBFA ?_ | refine ⟨_, by assumption, ?_⟩ | refine ⟨_, _, _, rfl, ?_⟩ | refine WC.seq (fun K hK => ?_) | (refine hK _ _ _ ?_; clear hK K) | (refine hK _ _ _ _ rfl ?_; clear hK K) | (refine WX.thenExit (K := K) ?_; clear hK K) | (refine WX.thenExit (K := KL) ?_; clear hL KL)))
  refine CallV.by' (length_fun r hr (by omega)) ?_; rintro _ _ _ ⟨rfl, rfl, rfl⟩; (try simp only [List.cons_append]); (try simp only [List.nil_append])
  cases hb : badB r with
  | true =>
    rw [cleanM_bad hr hb] at hi
    rw [if_pos rfl]
    have h00 : ((0 : Nat) : Int) = 0 := rfl
    cases sp with
    | true =>
      (repeat (first | refine vgo ?_ | refine ⟨_, rfl, rfl, ?_⟩ | refine ⟨_, rfl, ?_⟩ | refine ⟨rfl, ?_⟩ | intro hb | refine altA ?_ | refine altR ?_ | refine sideA ?_ | refine decTA ?_ | refine decFA ?_ | refine decNA ?_ | refine decBTA ?_ | refine decBFA ?_ | refine ⟨_, by assumption, ?_⟩ | refine ⟨_, _, _, rfl, ?_⟩ | refine WC.seq (fun K hK => ?_) | (refine hK _ _ _ ?_; clear hK K) | (refine hK _ _ _ _ rfl ?_; clear hK K) | (refine WX.thenExit (K := K) ?_; clear hK K) | (refine WX.thenExit (K := KL) ?_; clear hL KL)))
      refine .strL 1 rfl (by omega) ?_
      (repeat (first | refine vgo ?_ | refine ⟨_, rfl, rfl, ?_⟩ | refine ⟨_, rfl, ?_⟩ | refine ⟨rfl, ?_⟩ | intro hb | refine altA ?_ | refine altR ?_ | refine sideA ?_ | refine decTA ?_ | refine decFA ?_ | refine decNA ?_ | refine decBTA ?_ | refine decBFA ?_ | refine ⟨_, by assumption, ?_⟩ | refine ⟨_, _, _, rfl, ?_⟩ | refine WC.seq (fun K hK => ?_) | (refine hK _ _ _ ?_; clear hK K) | (refine hK _ _ _ _ rfl ?_; clear hK K) | (refine WX.thenExit (K := K) ?_; clear hK K) | (refine WX.thenExit (K := KL) ?_; clear hL KL)))
      exact (hL (r.drop 1, o, true) ⟨by simpa using hi, by rw [List.length_drop]; dsimp only; omega⟩ (by simp only [List.length_drop]; omega)).conv (.cons rfl (.cons rfl (.cons rfl .nil))) (fun w h => h.to)
    | false =>
      (repeat (first | refine vgo ?_ | refine ⟨_, rfl, rfl, ?_⟩ | refine ⟨_, rfl, ?_⟩ | refine ⟨rfl, ?_⟩ | intro hb | refine altA ?_ | refine altR ?_ | refine sideA ?_ | refine decTA ?_ | refine decFA ?_ | refine decNA ?_ | refine decBTA ?_ | refine decBFA ?_ | refine ⟨_, by assumption, ?_⟩ | refine ⟨_, _, _, rfl, ?_⟩ | refine WC.seq (fun K hK => ?_) | (refine hK _ _ _ ?_; clear hK K) | (refine hK _ _ _ _ rfl ?_; clear hK K) | (refine WX.thenExit (K := K) ?_; clear hK K) | (refine WX.thenExit (K := KL) ?_; clear hL KL)))
      refine .strL 1 rfl (by omega) ?_
      (repeat (first | refine vgo ?_ | refine ⟨_, rfl, rfl, ?_⟩ | refine ⟨_, rfl, ?_⟩ | refine ⟨rfl, ?_⟩ | intro hb | refine altA ?_ | refine altR ?_ | refine sideA ?_ | refine decTA ?_ | refine decFA ?_ | refine decNA ?_ | refine decBTA ?_ | refine decBFA ?_ | refine ⟨_, by assumption, ?_⟩ | refine ⟨_, _, _, rfl, ?_⟩ | refine WC.seq (fun K hK => ?_) | (refine hK _ _ _ ?_; clear hK K) | (refine hK _ _ _ _ rfl ?_; clear hK K) | (refine WX.thenExit (K := K) ?_; clear hK K) | (refine WX.thenExit (K := KL) ?_; clear hL KL)))
      exact (hL (r.drop 1, o ++ [63], true) ⟨by simpa using hi, by simp only [List.length_drop, List.length_append, List.length_singleton]; omega⟩ (by simp only [List.length_drop]; omega)).conv (.cons rfl (.cons rfl (.cons rfl .nil))) (fun w h => h.to)
  | false =>
    rw [cleanM_ok hr hb] at hi
    rw [if_neg (by simp)]
    obtain ⟨c, r', rfl⟩ : ∃ c r', r = c :: r' := by cases r with
      | nil => exact absurd rfl hr
      | cons c r' => exact ⟨c, r', rfl⟩
    generalize hrr : c :: r' = r at *
    have hc : r[0]? = some c := by rw [← hrr]; rfl
    have hg : r.getD 0 0 = c := by rw [← hrr]; rfl
    rw [hg] at hi
    have keep : ¬ ((dcR r).2 = 1 ∧ ctlB c = true) → o ++ r.take (dcR r).2 ++ cleanM (r.drop (dcR r).2) false = cleanM l false := fun h => by rw [if_neg h] at hi; rw [List.append_assoc]; exact hi
    have ctl : (dcR r).2 = 1 → ctlB c = true → o ++ [63] ++ cleanM (r.drop (dcR r).2) false = cleanM l false := fun h1 h2 => by rw [if_pos ⟨h1, h2⟩] at hi; rw [List.append_assoc]; exact hi
    have htk : (r.take (dcR r).2).length = (dcR r).2 := by rw [List.length_take]; omega
    have hdr : (r.drop (dcR r).2).length = r.length - (dcR r).2 := List.length_drop
    by_cases h1 : (dcR r).2 = 1
    · by_cases h32 : c.toNat < 32
      · have hk := ctl h1 (by unfold ctlB; simp [h32])
        (repeat (first | refine vgo ?_ | refine ⟨_, rfl, rfl, ?_⟩ | refine ⟨_, rfl, ?_⟩ | refine ⟨rfl, ?_⟩ | intro hb | refine altA ?_ | refine altR ?_ | refine sideA ?_ | refine decTA ?_ | refine decFA ?_ | refine decNA ?_ | refine decBTA ?_ | refine decBFA ?_ | refine ⟨_, by assumption, ?_⟩ | refine ⟨_, _, _, rfl, ?_⟩ | refine WC.seq (fun K hK => ?_) | (refine hK _ _ _ ?_; clear hK K) | (refine hK _ _ _ _ rfl ?_; clear hK K) | (refine WX.thenExit (K := K) ?_; clear hK K) | (refine WX.thenExit (K := KL) ?_; clear hL KL)))
        refine .strL (dcR r).2 rfl (by omega) ?_
        (repeat (first | refine vgo ?_ | refine ⟨_, rfl, rfl, ?_⟩ | refine ⟨_, rfl, ?_⟩ | refine ⟨rfl, ?_⟩ | intro hb | refine altA ?_ | refine altR ?_ | refine sideA ?_ | refine decTA ?_ | refine decFA ?_ | refine decNA ?_ | refine decBTA ?_ | refine decBFA ?_ | refine ⟨_, by assumption, ?_⟩ | refine ⟨_, _, _, rfl, ?_⟩ | refine WC.seq (fun K hK => ?_) | (refine hK _ _ _ ?_; clear hK K) | (refine hK _ _ _ _ rfl ?_; clear hK K) | (refine WX.thenExit (K := K) ?_; clear hK K) | (refine WX.thenExit (K := KL) ?_; clear hL KL)))
        exact (hL (r.drop (dcR r).2, o ++ [63], false) ⟨hk, by simp only [List.length_append, List.length_singleton]; omega⟩ (by dsimp only; omega)).conv (.cons rfl (.cons rfl (.cons rfl .nil))) (fun w h => h.to)
      · by_cases h127 : c.toNat = 127
        · have hk := ctl h1 (by unfold ctlB; simp [h127])
          (repeat (first | refine vgo ?_ | refine ⟨_, rfl, rfl, ?_⟩ | refine ⟨_, rfl, ?_⟩ | refine ⟨rfl, ?_⟩ | intro hb | refine altA ?_ | refine altR ?_ | refine sideA ?_ | refine decTA ?_ | refine decFA ?_ | refine decNA ?_ | refine decBTA ?_ | refine decBFA ?_ | refine ⟨_, by assumption, ?_⟩ | refine ⟨_, _, _, rfl, ?_⟩ | refine WC.seq (fun K hK => ?_) | (refine hK _ _ _ ?_; clear hK K) | (refine hK _ _ _ _ rfl ?_; clear hK K) | (refine WX.thenExit (K := K) ?_; clear hK K) | (refine WX.thenExit (K := KL) ?_; clear hL KL)))
          refine .strL (dcR r).2 rfl (by omega) ?_
          (repeat (first | refine vgo ?_ | refine ⟨_, rfl, rfl, ?_⟩ | refine ⟨_, rfl, ?_⟩ | refine ⟨rfl, ?_⟩ | intro hb | refine altA ?_ | refine altR ?_ | refine sideA ?_ | refine decTA ?_ | refine decFA ?_ | refine decNA ?_ | refine decBTA ?_ | refine decBFA ?_ | refine ⟨_, by assumption, ?_⟩ | refine ⟨_, _, _, rfl, ?_⟩ | refine WC.seq (fun K hK => ?_) | (refine hK _ _ _ ?_; clear hK K) | (refine hK _ _ _ _ rfl ?_; clear hK K) | (refine WX.thenExit (K := K) ?_; clear hK K) | (refine WX.thenExit (K := KL) ?_; clear hL KL)))
          exact (hL (r.drop (dcR r).2, o ++ [63], false) ⟨hk, by simp only [List.length_append, List.length_singleton]; omega⟩ (by dsimp only; omega)).conv (.cons rfl (.cons rfl (.cons rfl .nil))) (fun w h => h.to)
        · have hk := keep (fun h => by have := h.2; unfold ctlB at this; simp [h32, h127] at this)
          (repeat (first | refine vgo ?_ | refine ⟨_, rfl, rfl, ?_⟩ | refine ⟨_, rfl, ?_⟩ | refine ⟨rfl, ?_⟩ | intro hb | refine altA ?_ | refine altR ?_ | refine sideA ?_ | refine decTA ?_ | refine decFA ?_ | refine decNA ?_ | refine decBTA ?_ | refine decBFA ?_ | refine ⟨_, by assumption, ?_⟩ | refine ⟨_, _, _, rfl, ?_⟩ | refine WC.seq (fun K hK => ?_) | (refine hK _ _ _ ?_; clear hK K) | (refine hK _ _ _ _ rfl ?_; clear hK K) | (refine WX.thenExit (K := K) ?_; clear hK K) | (refine WX.thenExit (K := KL) ?_; clear hL KL)))
          refine .strH (dcR r).2 rfl (by omega) ?_
          (repeat (first | refine vgo ?_ | refine ⟨_, rfl, rfl, ?_⟩ | refine ⟨_, rfl, ?_⟩ | refine ⟨rfl, ?_⟩ | intro hb | refine altA ?_ | refine altR ?_ | refine sideA ?_ | refine decTA ?_ | refine decFA ?_ | refine decNA ?_ | refine decBTA ?_ | refine decBFA ?_ | refine ⟨_, by assumption, ?_⟩ | refine ⟨_, _, _, rfl, ?_⟩ | refine WC.seq (fun K hK => ?_) | (refine hK _ _ _ ?_; clear hK K) | (refine hK _ _ _ _ rfl ?_; clear hK K) | (refine WX.thenExit (K := K) ?_; clear hK K) | (refine WX.thenExit (K := KL) ?_; clear hL KL)))
          refine .strL (dcR r).2 rfl (by omega) ?_
          (repeat (first | refine vgo ?_ | refine ⟨_, rfl, rfl, ?_⟩ | refine ⟨_, rfl, ?_⟩ | refine ⟨rfl, ?_⟩ | intro hb | refine altA ?_ | refine altR ?_ | refine sideA ?_ | refine decTA ?_ | refine decFA ?_ | refine decNA ?_ | refine decBTA ?_ | refine decBFA ?_ | refine ⟨_, by assumption, ?_⟩ | refine ⟨_, _, _, rfl, ?_⟩ | refine WC.seq (fun K hK => ?_) | (refine hK _ _ _ ?_; clear hK K) | (refine hK _ _ _ _ rfl ?_; clear hK K) | (refine WX.thenExit (K := K) ?_; clear hK K) | (refine WX.thenExit (K := KL) ?_; clear hL KL)))
          exact (hL (r.drop (dcR r).2, o ++ r.take (dcR r).2, false) ⟨hk, by simp only [List.length_append]; omega⟩ (by dsimp only; omega)).conv (.cons rfl (.cons rfl (.cons rfl .nil))) (fun w h => h.to)
    · have hk := keep (fun h => h1 h.1)
      (repeat (first | refine vgo ?_ | refine ⟨_, rfl, rfl, ?_⟩ | refine ⟨_, rfl, ?_⟩ | refine ⟨rfl, ?_⟩ | intro hb | refine altA ?_ | refine altR ?_ | refine sideA ?_ | refine decTA ?_ | refine decFA ?_ | refine decNA ?_ | refine decBTA ?_ | refine decBFA ?_ | refine ⟨_, by assumption, ?_⟩ | refine ⟨_, _, _, rfl, ?_⟩ | refine WC.seq (fun K hK => ?_) | (refine hK _ _ _ ?_; clear hK K) | (refine hK _ _ _ _ rfl ?_; clear hK K) | (refine WX.thenExit (K := K) ?_; clear hK K) | (refine WX.thenExit (K := KL) ?_; clear hL KL)))
      refine .strH (dcR r).2 rfl (by omega) ?_
      (repeat (first | refine vgo ?_ | refine ⟨_, rfl, rfl, ?_⟩ | refine ⟨_, rfl, ?_⟩ | refine ⟨rfl, ?_⟩ | intro hb | refine altA ?_ | refine altR ?_ | refine sideA ?_ | refine decTA ?_ | refine decFA ?_ | refine decNA ?_ | refine decBTA ?_ | refine decBFA ?_ | refine ⟨_, by assumption, ?_⟩ | refine ⟨_, _, _, rfl, ?_⟩ | refine WC.seq (fun K hK => ?_) | (refine hK _ _ _ ?_; clear hK K) | (refine hK _ _ _ _ rfl ?_; clear hK K) | (refine WX.thenExit (K := K) ?_; clear hK K) | (refine WX.thenExit (K := KL) ?_; clear hL KL)))
      refine .strL (dcR r).2 rfl (by omega) ?_
      (repeat (first | refine vgo ?_ | refine ⟨_, rfl, rfl, ?_⟩ | refine ⟨_, rfl, ?_⟩ | refine ⟨rfl, ?_⟩ | intro hb | refine altA ?_ | refine altR ?_ | refine sideA ?_ | refine decTA ?_ | refine decFA ?_ | refine decNA ?_ | refine decBTA ?_ | refine decBFA ?_ | refine ⟨_, by assumption, ?_⟩ | refine ⟨_, _, _, rfl, ?_⟩ | refine WC.seq (fun K hK => ?_) | (refine hK _ _ _ ?_; clear hK K) | (refine hK _ _ _ _ rfl ?_; clear hK K) | (refine WX.thenExit (K := K) ?_; clear hK K) | (refine WX.thenExit (K := KL) ?_; clear hL KL)))
      exact (hL (r.drop (dcR r).2, o ++ r.take (dcR r).2, false) ⟨hk, by simp only [List.length_append]; omega⟩ (by dsimp only; omega)).conv (.cons rfl (.cons rfl (.cons rfl .nil))) (fun w h => h.to)
end Go.Qd
