/-
  Texts of a window: padded texts.
-/
import Derived.Test.YtkpblibaddjcgaaDoorPGr1
import Derived.Test.YtkpblibaddjcgaaDoorQBel
import Derived.Test.YtkpblibaddjcgaaDoorSDec
namespace Go.Qd
open Go Go.Proofs
/-- The two tables of the library's that runes are read by. -/
def tabsP : Pers where
  holds m := (∃ cs ty fz, m 0 = some (.cells cs ty fz) ∧ ∀ c, c < 256 → cs[c]? = some (.int .u8 (Lib.firstT c))) ∧
    (∃ cs ty fz, m 1 = some (.cells cs ty fz) ∧ ∀ i, i < 16 → cs[2 * i]? = some (.int .u8 (Lib.accLo i)) ∧ cs[2 * i + 1]? = some (.int .u8 (Lib.accHi i)))
  mono := fun _ _ h => by
    rintro ⟨⟨cs, ty, fz, h1, h2⟩, ⟨ds, ty', fz', h3, h4⟩⟩
    exact ⟨⟨cs, ty, fz, h _ _ h1, h2⟩, ⟨ds, ty', fz', h _ _ h3, h4⟩⟩
theorem Sat.tabs {B w : World} {G : List Pers} {S : List Res} (h : Sat B G S w) (hm : tabsP ∈ G) : Lib.Utf8Tabs 0 1 w := by
  obtain ⟨m, k, _, hw, _, hg, _⟩ := h.heap
  obtain ⟨⟨cs, ty, fz, h1, h2⟩, ⟨ds, ty', fz', h3, h4⟩⟩ := hg _ hm
  refine ⟨fun c hc => ?_, fun i hi => ⟨?_, ?_⟩⟩
  · rw [Lib.cell_of_heap (hw _ _ h1)]; exact h2 c hc
  · rw [Lib.cell_of_heap (hw _ _ h3)]; exact (h4 i hi).1
  · rw [Lib.cell_of_heap (hw _ _ h3)]; exact (h4 i hi).2
theorem decode_fun (l : List UInt8) (hl : l ≠ []) : Fun Tryd.prog 28 [.string (bs l)] [tabsP] [] (fun r G S => r = .tuple #[.int .i32 ((dcR l).1 : Nat), .int .i64 ((dcR l).2 : Nat)] ∧ G = [] ∧ S = []) :=
  Fun.below Tryd.func28 (by kernel_rfl) rfl (fun B Gf S w sw => (Tryd.utf8_DecodeRuneInString (bs l) w (sw.tabs (.head _))).mono (by
    rintro e w' ⟨rfl, hb⟩
    have e1 : Lib.decodeGo (bs l) = dcR l := by
      unfold Lib.decodeGo
      rw [if_neg (by rw [bs_size]; intro e; exact hl (List.eq_nil_of_length_eq_zero e)), dcR_at, List.drop_zero]
    rw [e1]
    exact ⟨rfl, hb⟩))
theorem repL (c : UInt8) (n : Nat) : Lib.repeatL [c] n = List.replicate n c := by
  induction n with
  | zero => rfl
  | succ n ih => rw [Lib.repeatL, ih]; rfl
theorem repeat_fun (c : UInt8) (n : Nat) (hn : n ≤ 1000000000) : Fun Tryd.prog 24 [.string (bs [c]), .int .i64 (n : Nat)] [] [] (fun r G S => r = .string (bs (List.replicate n c)) ∧ G = [] ∧ S = []) :=
  Fun.below Tryd.func24 (by kernel_rfl) rfl (fun B Gf S w sw => (Tryd.strings_Repeat (bs [c]) n w (by omega) (by rw [bs_size]; simp; omega)).mono (by
    rintro e w' ⟨rfl, hb⟩
    have e1 : Lib.repeatL (bs [c]).data.toList n = List.replicate n c := repL c n
    rw [e1]
    exact ⟨rfl, hb⟩))
def tM : List UInt8 → List UInt8
  | [] => []
  | c :: r => if c = 45 then r else c :: r
theorem trim_tM (l : List UInt8) : Lib.trimPrefix l [45] = tM l := by
  cases l with
  | nil => rfl
  | cons c r =>
    show _ = if c = 45 then r else c :: r
    unfold Lib.trimPrefix Lib.hasPrefix
    by_cases h : c = 45
    · subst h; rfl
    · rw [if_neg h, if_neg]
      simp [List.isPrefixOf, Ne.symm h]
theorem trim_fun (l : List UInt8) : Fun Tryd.prog 35 [.string (bs l), .string (bs [45])] [] [] (fun r G S => r = .string (bs (tM l)) ∧ G = [] ∧ S = []) :=
  Fun.same Tryd.func35 (by kernel_rfl) rfl (fun B Gf S w sw => (Tryd.strings_TrimPrefix (bs l) (bs [45]) w).mono (by
    rintro e w' ⟨rfl, rfl⟩
    exact ⟨by rw [← trim_tM], rfl⟩))
/-- Begins as a number does. -/
def numB (l : List UInt8) : Bool :=
  match tM l with
  | [] => false
  | c :: _ => decide (48 ≤ c.toNat) && decide (c.toNat ≤ 57)
def padM (l : List UInt8) (w : Nat) : List UInt8 := if numB l then List.replicate (w - rnF l 0) 32 ++ l else l ++ List.replicate (w - rnF l 0) 32
set_option maxHeartbeats 1600000 in
theorem right_fun (l : List UInt8) : Fun Tryd.prog 25 [.string (bs l)] [] [] (fun z G S => z = .bool (numB l) ∧ G = [] ∧ S = []) := by
  refine Fun.enter Tryd.func25 (by kernel_rfl) rfl Tryd.ntmps25 rfl (fun B Gf Sf => ?_); (try simp only [List.cons_append]); (try simp only [List.nil_append]); simp only [argEnv]
  (repeat (first | refine vgo ?_ | refine ⟨_, rfl, rfl, ?_⟩ | refine ⟨_, rfl, ?_⟩ | refine ⟨rfl, ?_⟩ | intro hb | refine altA ?_ | refine altR ?_ | refine sideA ?_ | refine decTA ?_ | refine decFA ?_ | refine decNA ?_ | refine decBTA ?_ | refine decBFA ?_ | refine ⟨_, by assumption, ?_⟩ | refine ⟨_, _, _, rfl, ?_⟩ | refine WC.seq (fun K hK => ?_) | (refine hK _ _ _ ?_; clear hK K) | (refine hK _ _ _ _ rfl ?_; clear hK K) | (refine WX.thenExit (K := K) ?_; clear hK K) | (refine WX.thenExit (K := KL) ?_; clear hL KL)))
  refine CallV.by' (trim_fun l) ?_; rintro _ _ _ ⟨rfl, rfl, rfl⟩; (try simp only [List.cons_append]); (try simp only [List.nil_append])
  cases hq : tM l with
  | nil =>
    have e : numB l = false := by unfold numB; rw [hq]
    (repeat (first | refine vgo ?_ | refine ⟨_, rfl, rfl, ?_⟩ | refine ⟨_, rfl, ?_⟩ | refine ⟨rfl, ?_⟩ | intro hb | refine altA ?_ | refine altR ?_ | refine sideA ?_ | refine decTA ?_ | refine decFA ?_ | refine decNA ?_ | refine decBTA ?_ | refine decBFA ?_ | refine ⟨_, by assumption, ?_⟩ | refine ⟨_, _, _, rfl, ?_⟩ | refine WC.seq (fun K hK => ?_) | (refine hK _ _ _ ?_; clear hK K) | (refine hK _ _ _ _ rfl ?_; clear hK K) | (refine WX.thenExit (K := K) ?_; clear hK K) | (refine WX.thenExit (K := KL) ?_; clear hL KL)))
    exact WX.ret1 rfl rfl (fun w sw => ⟨[], [], ⟨by rw [e], rfl, rfl⟩, sw.to⟩)
  | cons c r =>
    have hc : (c :: r)[0]? = some c := rfl
    have hne : ¬ (c :: r = []) := by simp
    have e : numB l = (decide (48 ≤ c.toNat) && decide (c.toNat ≤ 57)) := by unfold numB; rw [hq]
    by_cases h1 : 48 ≤ c.toNat
    · by_cases h2 : c.toNat ≤ 57
      · (repeat (first | refine vgo ?_ | refine ⟨_, rfl, rfl, ?_⟩ | refine ⟨_, rfl, ?_⟩ | refine ⟨rfl, ?_⟩ | intro hb | refine altA ?_ | refine altR ?_ | refine sideA ?_ | refine decTA ?_ | refine decFA ?_ | refine decNA ?_ | refine decBTA ?_ | refine decBFA ?_ | refine ⟨_, by assumption, ?_⟩ | refine ⟨_, _, _, rfl, ?_⟩ | refine WC.seq (fun K hK => ?_) | (refine hK _ _ _ ?_; clear hK K) | (refine hK _ _ _ _ rfl ?_; clear hK K) | (refine WX.thenExit (K := K) ?_; clear hK K) | (refine WX.thenExit (K := KL) ?_; clear hL KL)))
        exact WX.ret1 rfl rfl (fun w sw => ⟨[], [], ⟨by rw [e]; simp [h1, h2]; omega, rfl, rfl⟩, sw.to⟩)
      · (repeat (first | refine vgo ?_ | refine ⟨_, rfl, rfl, ?_⟩ | refine ⟨_, rfl, ?_⟩ | refine ⟨rfl, ?_⟩ | intro hb | refine altA ?_ | refine altR ?_ | refine sideA ?_ | refine decTA ?_ | refine decFA ?_ | refine decNA ?_ | refine decBTA ?_ | refine decBFA ?_ | refine ⟨_, by assumption, ?_⟩ | refine ⟨_, _, _, rfl, ?_⟩ | refine WC.seq (fun K hK => ?_) | (refine hK _ _ _ ?_; clear hK K) | (refine hK _ _ _ _ rfl ?_; clear hK K) | (refine WX.thenExit (K := K) ?_; clear hK K) | (refine WX.thenExit (K := KL) ?_; clear hL KL)))
        exact WX.ret1 rfl rfl (fun w sw => ⟨[], [], ⟨by rw [e]; simp [h1, h2]; omega, rfl, rfl⟩, sw.to⟩)
    · (repeat (first | refine vgo ?_ | refine ⟨_, rfl, rfl, ?_⟩ | refine ⟨_, rfl, ?_⟩ | refine ⟨rfl, ?_⟩ | intro hb | refine altA ?_ | refine altR ?_ | refine sideA ?_ | refine decTA ?_ | refine decFA ?_ | refine decNA ?_ | refine decBTA ?_ | refine decBFA ?_ | refine ⟨_, by assumption, ?_⟩ | refine ⟨_, _, _, rfl, ?_⟩ | refine WC.seq (fun K hK => ?_) | (refine hK _ _ _ ?_; clear hK K) | (refine hK _ _ _ _ rfl ?_; clear hK K) | (refine WX.thenExit (K := K) ?_; clear hK K) | (refine WX.thenExit (K := KL) ?_; clear hL KL)))
      exact WX.ret1 rfl rfl (fun w sw => ⟨[], [], ⟨by rw [e]; simp [h1], rfl, rfl⟩, sw.to⟩)
set_option maxHeartbeats 1600000 in
theorem padded_fun (l : List UInt8) (w : Nat) (hl : l.length ≤ 2000000) (hw : w ≤ 1000000) (hr : rnF l 0 ≤ w) : Fun Tryd.prog 15 [.string (bs l), .int .i64 (w : Nat)] [] [] (fun z G S => z = .string (bs (padM l w)) ∧ G = [] ∧ S = []) := by
  refine Fun.enter Tryd.func15 (by kernel_rfl) rfl Tryd.ntmps15 rfl (fun B Gf Sf => ?_); (try simp only [List.cons_append]); (try simp only [List.nil_append]); simp only [argEnv]
  (repeat (first | refine vgo ?_ | refine ⟨_, rfl, rfl, ?_⟩ | refine ⟨_, rfl, ?_⟩ | refine ⟨rfl, ?_⟩ | intro hb | refine altA ?_ | refine altR ?_ | refine sideA ?_ | refine decTA ?_ | refine decFA ?_ | refine decNA ?_ | refine decBTA ?_ | refine decBFA ?_ | refine ⟨_, by assumption, ?_⟩ | refine ⟨_, _, _, rfl, ?_⟩ | refine WC.seq (fun K hK => ?_) | (refine hK _ _ _ ?_; clear hK K) | (refine hK _ _ _ _ rfl ?_; clear hK K) | (refine WX.thenExit (K := K) ?_; clear hK K) | (refine WX.thenExit (K := KL) ?_; clear hL KL)))
  refine CallV.by' (rcount_fun l hl) ?_; rintro _ _ _ ⟨rfl, rfl, rfl⟩; (try simp only [List.cons_append]); (try simp only [List.nil_append])
  (repeat (first | refine vgo ?_ | refine ⟨_, rfl, rfl, ?_⟩ | refine ⟨_, rfl, ?_⟩ | refine ⟨rfl, ?_⟩ | intro hb | refine altA ?_ | refine altR ?_ | refine sideA ?_ | refine decTA ?_ | refine decFA ?_ | refine decNA ?_ | refine decBTA ?_ | refine decBFA ?_ | refine ⟨_, by assumption, ?_⟩ | refine ⟨_, _, _, rfl, ?_⟩ | refine WC.seq (fun K hK => ?_) | (refine hK _ _ _ ?_; clear hK K) | (refine hK _ _ _ _ rfl ?_; clear hK K) | (refine WX.thenExit (K := K) ?_; clear hK K) | (refine WX.thenExit (K := KL) ?_; clear hL KL)))
  rw [show ((w : Nat) : Int) - ((rnF l 0 : Nat) : Int) = ((w - rnF l 0 : Nat) : Int) from by omega]
  refine CallV.by' (repeat_fun 32 (w - rnF l 0) (by omega)) ?_; rintro _ _ _ ⟨rfl, rfl, rfl⟩; (try simp only [List.cons_append]); (try simp only [List.nil_append])
  (repeat (first | refine vgo ?_ | refine ⟨_, rfl, rfl, ?_⟩ | refine ⟨_, rfl, ?_⟩ | refine ⟨rfl, ?_⟩ | intro hb | refine altA ?_ | refine altR ?_ | refine sideA ?_ | refine decTA ?_ | refine decFA ?_ | refine decNA ?_ | refine decBTA ?_ | refine decBFA ?_ | refine ⟨_, by assumption, ?_⟩ | refine ⟨_, _, _, rfl, ?_⟩ | refine WC.seq (fun K hK => ?_) | (refine hK _ _ _ ?_; clear hK K) | (refine hK _ _ _ _ rfl ?_; clear hK K) | (refine WX.thenExit (K := K) ?_; clear hK K) | (refine WX.thenExit (K := KL) ?_; clear hL KL)))
  refine CallV.by' (right_fun l) ?_; rintro _ _ _ ⟨rfl, rfl, rfl⟩; (try simp only [List.cons_append]); (try simp only [List.nil_append])
  have hlen : (List.replicate (w - rnF l 0) (32 : UInt8)).length ≤ 1000000 := by rw [List.length_replicate]; omega
  cases hq : numB l with
  | true =>
    (repeat (first | refine vgo ?_ | refine ⟨_, rfl, rfl, ?_⟩ | refine ⟨_, rfl, ?_⟩ | refine ⟨rfl, ?_⟩ | intro hb | refine altA ?_ | refine altR ?_ | refine sideA ?_ | refine decTA ?_ | refine decFA ?_ | refine decNA ?_ | refine decBTA ?_ | refine decBFA ?_ | refine ⟨_, by assumption, ?_⟩ | refine ⟨_, _, _, rfl, ?_⟩ | refine WC.seq (fun K hK => ?_) | (refine hK _ _ _ ?_; clear hK K) | (refine hK _ _ _ _ rfl ?_; clear hK K) | (refine WX.thenExit (K := K) ?_; clear hK K) | (refine WX.thenExit (K := KL) ?_; clear hL KL)))
    exact WX.ret1 rfl rfl (fun w sw => ⟨[], [], ⟨by unfold padM; rw [hq]; rfl, rfl, rfl⟩, sw.to⟩)
  | false =>
    (repeat (first | refine vgo ?_ | refine ⟨_, rfl, rfl, ?_⟩ | refine ⟨_, rfl, ?_⟩ | refine ⟨rfl, ?_⟩ | intro hb | refine altA ?_ | refine altR ?_ | refine sideA ?_ | refine decTA ?_ | refine decFA ?_ | refine decNA ?_ | refine decBTA ?_ | refine decBFA ?_ | refine ⟨_, by assumption, ?_⟩ | refine ⟨_, _, _, rfl, ?_⟩ | refine WC.seq (fun K hK => ?_) | (refine hK _ _ _ ?_; clear hK K) | (refine hK _ _ _ _ rfl ?_; clear hK K) | (refine WX.thenExit (K := K) ?_; clear hK K) | (refine WX.thenExit (K := KL) ?_; clear hL KL)))
    exact WX.ret1 rfl rfl (fun w sw => ⟨[], [], ⟨by unfold padM; rw [hq]; rfl, rfl, rfl⟩, sw.to⟩)
set_option maxHeartbeats 3200000 in
theorem pad_fun (l : List UInt8) (w : Nat) (hl : l.length ≤ 2000000) (hw : w ≤ 1000000) : Fun Tryd.prog 21 [.string (bs l), .int .i64 (w : Nat)] [] [] (fun z G S => z = .string (bs (padM l w)) ∧ G = [] ∧ S = []) := by
  refine Fun.enter Tryd.func21 (by kernel_rfl) rfl Tryd.ntmps21 rfl (fun B Gf Sf => ?_); (try simp only [List.cons_append]); (try simp only [List.nil_append]); simp only [argEnv]
  (repeat (first | refine vgo ?_ | refine ⟨_, rfl, rfl, ?_⟩ | refine ⟨_, rfl, ?_⟩ | refine ⟨rfl, ?_⟩ | intro hb | refine altA ?_ | refine altR ?_ | refine sideA ?_ | refine decTA ?_ | refine decFA ?_ | refine decNA ?_ | refine decBTA ?_ | refine decBFA ?_ | refine ⟨_, by assumption, ?_⟩ | refine ⟨_, _, _, rfl, ?_⟩ | refine WC.seq (fun K hK => ?_) | (refine hK _ _ _ ?_; clear hK K) | (refine hK _ _ _ _ rfl ?_; clear hK K) | (refine WX.thenExit (K := K) ?_; clear hK K) | (refine WX.thenExit (K := KL) ?_; clear hL KL)))
  refine CallV.by' (signs_fun l hl) ?_; rintro _ _ _ ⟨rfl, rfl, rfl⟩; (try simp only [List.cons_append]); (try simp only [List.nil_append])
  (repeat (first | refine vgo ?_ | refine ⟨_, rfl, rfl, ?_⟩ | refine ⟨_, rfl, ?_⟩ | refine ⟨rfl, ?_⟩ | intro hb | refine altA ?_ | refine altR ?_ | refine sideA ?_ | refine decTA ?_ | refine decFA ?_ | refine decNA ?_ | refine decBTA ?_ | refine decBFA ?_ | refine ⟨_, by assumption, ?_⟩ | refine ⟨_, _, _, rfl, ?_⟩ | refine WC.seq (fun K hK => ?_) | (refine hK _ _ _ ?_; clear hK K) | (refine hK _ _ _ _ rfl ?_; clear hK K) | (refine WX.thenExit (K := K) ?_; clear hK K) | (refine WX.thenExit (K := KL) ?_; clear hL KL)))
  have hle := rnF_len l
  refine WC.loop (I := Nat) (fun i => [(0, .string (bs l)), (1, .int .i64 (w : Nat)), (5, .string (bs (List.replicate i 32))), (6, .int .i64 ((rnF l 0 + i : Nat)))]) (fun _ => Gf) (fun _ => Sf) (fun i => i ≤ w - rnF l 0) (fun i => w - rnF l 0 - i) 0 (Nat.zero_le _) (.cons rfl (.cons rfl (.cons rfl (.cons rfl .nil)))) (fun w h => h.to) ?_
  intro k hk KL hL
  have hlen : (List.replicate k (32 : UInt8)).length ≤ 1000000 := by rw [List.length_replicate]; omega
  by_cases hm : rnF l 0 + k < w
  · (repeat (first | refine vgo ?_ | refine ⟨_, rfl, rfl, ?_⟩ | refine ⟨_, rfl, ?_⟩ | refine ⟨rfl, ?_⟩ | intro hb | refine altA ?_ | refine altR ?_ | refine sideA ?_ | refine decTA ?_ | refine decFA ?_ | refine decNA ?_ | refine decBTA ?_ | refine decBFA ?_ | refine ⟨_, by assumption, ?_⟩ | refine ⟨_, _, _, rfl, ?_⟩ | refine WC.seq (fun K hK => ?_) | (refine hK _ _ _ ?_; clear hK K) | (refine hK _ _ _ _ rfl ?_; clear hK K) | (refine WX.thenExit (K := K) ?_; clear hK K) | (refine WX.thenExit (K := KL) ?_; clear hL KL)))
    rw [show List.replicate k (32 : UInt8) ++ [32] = List.replicate (k + 1) 32 from by rw [List.replicate_succ']]
    exact (hL (k + 1) (by omega) (by omega)).conv (.cons rfl (.cons rfl (.cons rfl (.cons rfl .nil)))) (fun w h => h.to)
  · have hk2 : k = w - rnF l 0 := by omega
    subst hk2
    have fin : ∀ b, numB l = b → padM l w = if b then List.replicate (w - rnF l 0) 32 ++ l else l ++ List.replicate (w - rnF l 0) 32 := fun b hb => by unfold padM; rw [hb]
    rcases l with _ | ⟨c, r⟩
    · have e := fin false rfl
      (repeat (first | refine vgo ?_ | refine ⟨_, rfl, rfl, ?_⟩ | refine ⟨_, rfl, ?_⟩ | refine ⟨rfl, ?_⟩ | intro hb | refine altA ?_ | refine altR ?_ | refine sideA ?_ | refine decTA ?_ | refine decFA ?_ | refine decNA ?_ | refine decBTA ?_ | refine decBFA ?_ | refine ⟨_, by assumption, ?_⟩ | refine ⟨_, _, _, rfl, ?_⟩ | refine WC.seq (fun K hK => ?_) | (refine hK _ _ _ ?_; clear hK K) | (refine hK _ _ _ _ rfl ?_; clear hK K) | (refine WX.thenExit (K := K) ?_; clear hK K) | (refine WX.thenExit (K := KL) ?_; clear hL KL)))
      exact WX.ret1 rfl rfl (fun w sw => ⟨[], [], ⟨by rw [e]; rfl, rfl, rfl⟩, sw.to⟩)
    · have hl1 : (c :: r).length = r.length + 1 := rfl
      have hc : (c :: r)[0]? = some c := rfl
      by_cases h45 : c = 45
      · subst h45
        have h45 : ((45 : UInt8).toNat : Int) = 45 := rfl
        rcases r with _ | ⟨d, r⟩
        · have e := fin false rfl
          have hl2 : ([45] : List UInt8).length = 1 := rfl
          (repeat (first | refine vgo ?_ | refine ⟨_, rfl, rfl, ?_⟩ | refine ⟨_, rfl, ?_⟩ | refine ⟨rfl, ?_⟩ | intro hb | refine altA ?_ | refine altR ?_ | refine sideA ?_ | refine decTA ?_ | refine decFA ?_ | refine decNA ?_ | refine decBTA ?_ | refine decBFA ?_ | refine ⟨_, by assumption, ?_⟩ | refine ⟨_, _, _, rfl, ?_⟩ | refine WC.seq (fun K hK => ?_) | (refine hK _ _ _ ?_; clear hK K) | (refine hK _ _ _ _ rfl ?_; clear hK K) | (refine WX.thenExit (K := K) ?_; clear hK K) | (refine WX.thenExit (K := KL) ?_; clear hL KL)))
          exact WX.ret1 rfl rfl (fun w sw => ⟨[], [], ⟨by rw [e]; rfl, rfl, rfl⟩, sw.to⟩)
        · have hl2 : (45 :: d :: r : List UInt8).length = r.length + 2 := rfl
          have hd : (45 :: d :: r : List UInt8)[1]? = some d := rfl
          have e0 : numB (45 :: d :: r) = (decide (48 ≤ d.toNat) && decide (d.toNat ≤ 57)) := rfl
          by_cases h1 : 48 ≤ d.toNat
          · by_cases h2 : d.toNat ≤ 57
            · have e := fin true (by rw [e0]; simp [h1, h2])
              (repeat (first | refine vgo ?_ | refine ⟨_, rfl, rfl, ?_⟩ | refine ⟨_, rfl, ?_⟩ | refine ⟨rfl, ?_⟩ | intro hb | refine altA ?_ | refine altR ?_ | refine sideA ?_ | refine decTA ?_ | refine decFA ?_ | refine decNA ?_ | refine decBTA ?_ | refine decBFA ?_ | refine ⟨_, by assumption, ?_⟩ | refine ⟨_, _, _, rfl, ?_⟩ | refine WC.seq (fun K hK => ?_) | (refine hK _ _ _ ?_; clear hK K) | (refine hK _ _ _ _ rfl ?_; clear hK K) | (refine WX.thenExit (K := K) ?_; clear hK K) | (refine WX.thenExit (K := KL) ?_; clear hL KL)))
              exact WX.ret1 rfl rfl (fun w sw => ⟨[], [], ⟨by rw [e]; rfl, rfl, rfl⟩, sw.to⟩)
            · have e := fin false (by rw [e0]; simp [h1, h2])
              (repeat (first | refine vgo ?_ | refine ⟨_, rfl, rfl, ?_⟩ | refine ⟨_, rfl, ?_⟩ | refine ⟨rfl, ?_⟩ | intro hb | refine altA ?_ | refine altR ?_ | refine sideA ?_ | refine decTA ?_ | refine decFA ?_ | refine decNA ?_ | refine decBTA ?_ | refine decBFA ?_ | refine ⟨_, by assumption, ?_⟩ | refine ⟨_, _, _, rfl, ?_⟩ | refine WC.seq (fun K hK => ?_) | (refine hK _ _ _ ?_; clear hK K) | (refine hK _ _ _ _ rfl ?_; clear hK K) | (refine WX.thenExit (K := K) ?_; clear hK K) | (refine WX.thenExit (K := KL) ?_; clear hL KL)))
              exact WX.ret1 rfl rfl (fun w sw => ⟨[], [], ⟨by rw [e]; rfl, rfl, rfl⟩, sw.to⟩)
          · have e := fin false (by rw [e0]; simp [h1])
            (repeat (first | refine vgo ?_ | refine ⟨_, rfl, rfl, ?_⟩ | refine ⟨_, rfl, ?_⟩ | refine ⟨rfl, ?_⟩ | intro hb | refine altA ?_ | refine altR ?_ | refine sideA ?_ | refine decTA ?_ | refine decFA ?_ | refine decNA ?_ | refine decBTA ?_ | refine decBFA ?_ | refine ⟨_, by assumption, ?_⟩ | refine ⟨_, _, _, rfl, ?_⟩ | refine WC.seq (fun K hK => ?_) | (refine hK _ _ _ ?_; clear hK K) | (refine hK _ _ _ _ rfl ?_; clear hK K) | (refine WX.thenExit (K := K) ?_; clear hK K) | (refine WX.thenExit (K := KL) ?_; clear hL KL)))
            exact WX.ret1 rfl rfl (fun w sw => ⟨[], [], ⟨by rw [e]; rfl, rfl, rfl⟩, sw.to⟩)
      · have h45' : ¬ (c.toNat : Int) = 45 := fun e => h45 (UInt8.toNat.inj (by have : (45 : UInt8).toNat = 45 := rfl; omega))
        have e0 : numB (c :: r) = (decide (48 ≤ c.toNat) && decide (c.toNat ≤ 57)) := by
          have ht : tM (c :: r) = c :: r := if_neg h45
          unfold numB
          rw [ht]
        by_cases h1 : 48 ≤ c.toNat
        · by_cases h2 : c.toNat ≤ 57
          · have e := fin true (by rw [e0]; simp [h1, h2])
            (repeat (first | refine vgo ?_ | refine ⟨_, rfl, rfl, ?_⟩ | refine ⟨_, rfl, ?_⟩ | refine ⟨rfl, ?_⟩ | intro hb | refine altA ?_ | refine altR ?_ | refine sideA ?_ | refine decTA ?_ | refine decFA ?_ | refine decNA ?_ | refine decBTA ?_ | refine decBFA ?_ | refine ⟨_, by assumption, ?_⟩ | refine ⟨_, _, _, rfl, ?_⟩ | refine WC.seq (fun K hK => ?_) | (refine hK _ _ _ ?_; clear hK K) | (refine hK _ _ _ _ rfl ?_; clear hK K) | (refine WX.thenExit (K := K) ?_; clear hK K) | (refine WX.thenExit (K := KL) ?_; clear hL KL)))
            exact WX.ret1 rfl rfl (fun w sw => ⟨[], [], ⟨by rw [e]; rfl, rfl, rfl⟩, sw.to⟩)
          · have e := fin false (by rw [e0]; simp [h1, h2])
            (repeat (first | refine vgo ?_ | refine ⟨_, rfl, rfl, ?_⟩ | refine ⟨_, rfl, ?_⟩ | refine ⟨rfl, ?_⟩ | intro hb | refine altA ?_ | refine altR ?_ | refine sideA ?_ | refine decTA ?_ | refine decFA ?_ | refine decNA ?_ | refine decBTA ?_ | refine decBFA ?_ | refine ⟨_, by assumption, ?_⟩ | refine ⟨_, _, _, rfl, ?_⟩ | refine WC.seq (fun K hK => ?_) | (refine hK _ _ _ ?_; clear hK K) | (refine hK _ _ _ _ rfl ?_; clear hK K) | (refine WX.thenExit (K := K) ?_; clear hK K) | (refine WX.thenExit (K := KL) ?_; clear hL KL)))
            exact WX.ret1 rfl rfl (fun w sw => ⟨[], [], ⟨by rw [e]; rfl, rfl, rfl⟩, sw.to⟩)
        · have e := fin false (by rw [e0]; simp [h1])
          (repeat (first | refine vgo ?_ | refine ⟨_, rfl, rfl, ?_⟩ | refine ⟨_, rfl, ?_⟩ | refine ⟨rfl, ?_⟩ | intro hb | refine altA ?_ | refine altR ?_ | refine sideA ?_ | refine decTA ?_ | refine decFA ?_ | refine decNA ?_ | refine decBTA ?_ | refine decBFA ?_ | refine ⟨_, by assumption, ?_⟩ | refine ⟨_, _, _, rfl, ?_⟩ | refine WC.seq (fun K hK => ?_) | (refine hK _ _ _ ?_; clear hK K) | (refine hK _ _ _ _ rfl ?_; clear hK K) | (refine WX.thenExit (K := K) ?_; clear hK K) | (refine WX.thenExit (K := KL) ?_; clear hL KL)))
          exact WX.ret1 rfl rfl (fun w sw => ⟨[], [], ⟨by rw [e]; rfl, rfl, rfl⟩, sw.to⟩)
end Go.Qd
