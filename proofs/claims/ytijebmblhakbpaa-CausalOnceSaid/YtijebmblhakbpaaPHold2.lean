/-
  What waits: slices of operations, copied and cut.
-/
import Derived.Test.YtijebmblhakbpaaPMat
import Derived.Test.YtijebmblhakbpaaQDel
namespace Go.Qd
/-! ### What waits: slices of operations, copied and cut. -/
section
open Go Go.Proofs
theorem hclone_fun (v : Value) (m : Nat) (xs : List Value) (h1 : ∀ u ∈ xs, u.oneCell' = true) (hm : m ≤ 100000) : Fun Try.prog 68 [v] [] [own 56 24 v m xs]
    (fun r G S => G = [] ∧ S = [own 56 24 v m xs, own 56 24 r m xs]) := by
  refine Fun.enter Try.func68 (by kernel_rfl) rfl Try.ntmps68 rfl (fun B Gf Sf => ?_); (try simp only [List.cons_append]); (try simp only [List.nil_append]); simp only [argEnv]
  refine WC.ex (fun w sw => sw.own_cases.1) (fun hxl => ?_)
  refine WC.openOwn (v := v) (fun e m0 => ?_) (fun b cp cs e hmc hcp hcl hct => ?_)
  · subst e
    subst m0
    obtain rfl : xs = [] := List.eq_nil_of_length_eq_zero hxl
    (repeat (first | refine vgo ?_ | refine ⟨_, rfl, rfl, ?_⟩ | refine ⟨_, rfl, ?_⟩ | refine ⟨rfl, ?_⟩ | intro hb | refine altA ?_ | refine altR ?_ | refine sideA ?_ | refine decTA ?_ | refine decFA ?_ | refine decNA ?_ | refine decBTA ?_ | refine decBFA ?_ | refine ⟨_, by assumption, ?_⟩ | refine ⟨_, _, _, rfl, ?_⟩ | refine WC.seq (fun K hK => ?_) | (refine hK _ _ _ ?_; clear hK K) | (refine hK _ _ _ _ rfl ?_; clear hK K) | (refine WX.thenExit (K := K) ?_; clear hK K) | (refine WX.thenExit (K := KL) ?_; clear hL KL)))
    exact WX.ret1 rfl rfl (fun w sw => ⟨_, _, ⟨rfl, rfl⟩, (sw.ownNil 56 24).to⟩)
  · subst e
    have hmx : m * 24 ≤ cp * 24 := Nat.mul_le_mul_right _ hmc
    (repeat (first | refine vgo ?_ | refine ⟨_, rfl, rfl, ?_⟩ | refine ⟨_, rfl, ?_⟩ | refine ⟨rfl, ?_⟩ | intro hb | refine altA ?_ | refine altR ?_ | refine sideA ?_ | refine decTA ?_ | refine decFA ?_ | refine decNA ?_ | refine decBTA ?_ | refine decBFA ?_ | refine ⟨_, by assumption, ?_⟩ | refine ⟨_, _, _, rfl, ?_⟩ | refine WC.seq (fun K hK => ?_) | (refine hK _ _ _ ?_; clear hK K) | (refine hK _ _ _ _ rfl ?_; clear hK K) | (refine WX.thenExit (K := K) ?_; clear hK K) | (refine WX.thenExit (K := KL) ?_; clear hL KL)))
    refine AppV.bx (o := 0) (b := b) (E' := 56) (cs := cs) (.inr rfl) (by omega) (by rw [List.drop_zero, hct]; exact h1) rfl (by omega) (by simp only [maxLen]; omega) (fun v' => ?_)
    rw [Nat.zero_add, List.nil_append, List.drop_zero, hct]
    (repeat (first | refine vgo ?_ | refine ⟨_, rfl, rfl, ?_⟩ | refine ⟨_, rfl, ?_⟩ | refine ⟨rfl, ?_⟩ | intro hb | refine altA ?_ | refine altR ?_ | refine sideA ?_ | refine decTA ?_ | refine decFA ?_ | refine decNA ?_ | refine decBTA ?_ | refine decBFA ?_ | refine ⟨_, by assumption, ?_⟩ | refine ⟨_, _, _, rfl, ?_⟩ | refine WC.seq (fun K hK => ?_) | (refine hK _ _ _ ?_; clear hK K) | (refine hK _ _ _ _ rfl ?_; clear hK K) | (refine WX.thenExit (K := K) ?_; clear hK K) | (refine WX.thenExit (K := KL) ?_; clear hL KL)))
    refine WX.ret1 rfl rfl (fun w sw => ⟨_, _, ⟨rfl, rfl⟩, ?_⟩)
    have sw2 := sw.closeOwn (b := b) (cp := cp) 24 m hcl hmc hcp
    rw [hct] at sw2
    exact sw2.to
theorem del_cells {xs cs : List Value} {i j m cp s : Nat} (hij : i ≤ j) (hj : j ≤ m) (hmc : m ≤ cp) (hcl : cs.length = cp * s) (hct : cs.take (m * s) = xs) {cs' : List Value}
    (h : cs'.take ((i + (m - j)) * s) = (cs.take (i * s) ++ (cs.drop (j * s)).take ((m - j) * s) ++ cs.drop ((i + (m - j)) * s)).take ((i + (m - j)) * s)) : cs'.take ((m - (j - i)) * s) = xs.take (i * s) ++ xs.drop (j * s) := by
  have h1 : i * s ≤ m * s := Nat.mul_le_mul_right _ (by omega)
  have h2 : m * s ≤ cp * s := Nat.mul_le_mul_right _ hmc
  have h3 : j * s ≤ m * s := Nat.mul_le_mul_right _ hj
  have h4 : (m - j) * s = m * s - j * s := Nat.sub_mul ..
  have h5 : (i + (m - j)) * s = i * s + (m - j) * s := Nat.add_mul ..
  rw [show m - (j - i) = i + (m - j) from by omega, h, List.take_left' (by rw [List.length_append, List.length_take, List.length_take, List.length_drop, hcl]; omega), ← hct, List.take_take, Nat.min_eq_left h1, List.drop_take, h4]
theorem hdelete_fun (v : Value) (m i j : Nat) (xs : List Value) (h1 : ∀ u ∈ xs, u.oneCell' = true) (hm : m ≤ 100000) (hij : i ≤ j) (hj : j ≤ m) : Fun Try.prog 108 [v, .int .i64 i, .int .i64 j] [] [own 56 24 v m xs]
    (fun r G S => G = [] ∧ S = [own 56 24 r (m - (j - i)) (xs.take (i * 24) ++ xs.drop (j * 24))]) := by
  refine Fun.enter Try.func108 (by kernel_rfl) rfl Try.ntmps108 rfl (fun B Gf Sf => ?_); (try simp only [List.cons_append]); (try simp only [List.nil_append]); simp only [argEnv]
  refine WC.ex (fun w sw => sw.own_cases.1) (fun hxl => ?_)
  refine WC.openOwn (v := v) (fun e m0 => ?_) (fun b cp cs e hmc hcp hcl hct => ?_)
  · subst e
    subst m0
    obtain rfl : j = 0 := by omega
    obtain rfl : i = 0 := by omega
    obtain rfl : xs = [] := List.eq_nil_of_length_eq_zero hxl
    (repeat (first | refine vgo ?_ | refine ⟨_, rfl, rfl, ?_⟩ | refine ⟨_, rfl, ?_⟩ | refine ⟨rfl, ?_⟩ | intro hb | refine altA ?_ | refine altR ?_ | refine sideA ?_ | refine decTA ?_ | refine decFA ?_ | refine decNA ?_ | refine decBTA ?_ | refine decBFA ?_ | refine ⟨_, by assumption, ?_⟩ | refine ⟨_, _, _, rfl, ?_⟩ | refine WC.seq (fun K hK => ?_) | (refine hK _ _ _ ?_; clear hK K) | (refine hK _ _ _ _ rfl ?_; clear hK K) | (refine WX.thenExit (K := K) ?_; clear hK K) | (refine WX.thenExit (K := KL) ?_; clear hL KL)))
    exact WX.ret1 rfl rfl (fun w sw => ⟨_, _, ⟨rfl, rfl⟩, (show Sat B ([] ++ Gf) ([own 56 24 (.slice none 0 0) 0 []] ++ Sf) w from sw.to)⟩)
  · subst e
    by_cases hij2 : i = j
    · subst hij2
      (repeat (first | refine vgo ?_ | refine ⟨_, rfl, rfl, ?_⟩ | refine ⟨_, rfl, ?_⟩ | refine ⟨rfl, ?_⟩ | intro hb | refine altA ?_ | refine altR ?_ | refine sideA ?_ | refine decTA ?_ | refine decFA ?_ | refine decNA ?_ | refine decBTA ?_ | refine decBFA ?_ | refine ⟨_, by assumption, ?_⟩ | refine ⟨_, _, _, rfl, ?_⟩ | refine WC.seq (fun K hK => ?_) | (refine hK _ _ _ ?_; clear hK K) | (refine hK _ _ _ _ rfl ?_; clear hK K) | (refine WX.thenExit (K := K) ?_; clear hK K) | (refine WX.thenExit (K := KL) ?_; clear hL KL)))
      refine WX.ret1 rfl rfl (fun w sw => ⟨_, _, ⟨rfl, rfl⟩, ?_⟩)
      have sw2 := sw.closeOwn (b := b) (cp := cp) 24 m hcl hmc hcp
      rw [hct] at sw2
      rw [Nat.sub_self, Nat.sub_zero, List.take_append_drop]
      exact sw2.to
    · (repeat (first | refine vgo ?_ | refine ⟨_, rfl, rfl, ?_⟩ | refine ⟨_, rfl, ?_⟩ | refine ⟨rfl, ?_⟩ | intro hb | refine altA ?_ | refine altR ?_ | refine sideA ?_ | refine decTA ?_ | refine decFA ?_ | refine decNA ?_ | refine decBTA ?_ | refine decBFA ?_ | refine ⟨_, by assumption, ?_⟩ | refine ⟨_, _, _, rfl, ?_⟩ | refine WC.seq (fun K hK => ?_) | (refine hK _ _ _ ?_; clear hK K) | (refine hK _ _ _ _ rfl ?_; clear hK K) | (refine WX.thenExit (K := K) ?_; clear hK K) | (refine WX.thenExit (K := KL) ?_; clear hL KL)))
      refine WC.drawVL2 (j := 0) (j2 := 3) (S := (Sf)) ([[box b 56 cs]]) rfl rfl rfl rfl rfl rfl rfl (by repeat (first | exact Wo.nil | (apply Wo.keep; exact rfl) | (apply Wo.drop; exact rfl))) (fun w sw => by (try simp only [List.flatten_cons, List.flatten_nil, List.append_nil, List.cons_append, List.nil_append]); exact sw.to) ?_; (try dsimp only [chunks])
      (repeat refine ObP3.c0B ?_); try (refine ObP3.nil ?_; (repeat (intro _)); (conv => whnf); (try dsimp only [envO, List.cons_append, List.nil_append]))
      have hmx : m * 24 ≤ cp * 24 := Nat.mul_le_mul_right _ hmc
      have hjx : j * 24 ≤ m * 24 := Nat.mul_le_mul_right _ hj
      have hix : i * 24 ≤ m * 24 := Nat.mul_le_mul_right _ (by omega)
      have hmj : (m - j) * 24 = m * 24 - j * 24 := Nat.sub_mul ..
      have h1' : ∀ u ∈ (cs.drop (j * 24)).take ((m - j) * 24), u.oneCell' = true := by
        rw [hmj, ← List.drop_take, hct]
        exact fun u hu => h1 u (List.mem_of_mem_drop hu)
      have hadr2 : m - j = 0 ∨ adr b j cp 24 = ⟨b, j * 24, none⟩ := (adr_or b j cp 24).imp (fun h => by omega) id
      have hadr3 : adr b (i + (m - j)) cp 24 = ⟨b, (i + (m - j)) * 24, none⟩ := (adr_or b (i + (m - j)) cp 24).resolve_left (by omega)
      refine ObP3.cons1 [] [1000] (.ex Unit (fun _ => .slice (some ⟨b, 0, none⟩) (i + (m - j)) cp) (fun _ => []) (fun _ => [box b 56 (cs.take (i * 24) ++ (cs.drop (j * 24)).take ((m - j) * 24) ++ cs.drop ((i + (m - j)) * 24))])) ?_ rfl ?_
      · (repeat (intro _)); (conv => whnf); (try dsimp only [envO, List.cons_append, List.nil_append])
        (repeat (first | refine vgo ?_ | refine ⟨_, rfl, rfl, ?_⟩ | refine ⟨_, rfl, ?_⟩ | refine ⟨rfl, ?_⟩ | intro hb | refine altA ?_ | refine altR ?_ | refine sideA ?_ | refine decTA ?_ | refine decFA ?_ | refine decNA ?_ | refine decBTA ?_ | refine decBFA ?_ | refine ⟨_, by assumption, ?_⟩ | refine ⟨_, _, _, rfl, ?_⟩ | refine WC.seq (fun K hK => ?_) | (refine hK _ _ _ ?_; clear hK K) | (refine hK _ _ _ _ rfl ?_; clear hK K) | (refine WX.thenExit (K := K) ?_; clear hK K) | (refine WX.thenExit (K := KL) ?_; clear hL KL)))
        refine AppV.inBox (o := j * 24) (b := b) (sz := 24) (E := 56) (cs := cs) hadr2 (by omega) (by omega) (by omega) h1' ?_
        (repeat (first | refine vgo ?_ | refine ⟨_, rfl, rfl, ?_⟩ | refine ⟨_, rfl, ?_⟩ | refine ⟨rfl, ?_⟩ | intro hb | refine altA ?_ | refine altR ?_ | refine sideA ?_ | refine decTA ?_ | refine decFA ?_ | refine decNA ?_ | refine decBTA ?_ | refine decBFA ?_ | refine ⟨_, by assumption, ?_⟩ | refine ⟨_, _, _, rfl, ?_⟩ | refine WC.seq (fun K hK => ?_) | (refine hK _ _ _ ?_; clear hK K) | (refine hK _ _ _ _ rfl ?_; clear hK K) | (refine WX.thenExit (K := K) ?_; clear hK K) | (refine WX.thenExit (K := KL) ?_; clear hL KL)))
        exact WX.pgEx () rfl (fun w sw => sw.to)
      (repeat refine ObP3.c0B ?_); try (refine ObP3.nil ?_; (repeat (intro _)); (conv => whnf); (try dsimp only [envO, List.cons_append, List.nil_append]))
      (repeat (first | refine vgo ?_ | refine ⟨_, rfl, rfl, ?_⟩ | refine ⟨_, rfl, ?_⟩ | refine ⟨rfl, ?_⟩ | intro hb | refine altA ?_ | refine altR ?_ | refine sideA ?_ | refine decTA ?_ | refine decFA ?_ | refine decNA ?_ | refine decBTA ?_ | refine decBFA ?_ | refine ⟨_, by assumption, ?_⟩ | refine ⟨_, _, _, rfl, ?_⟩ | refine WC.seq (fun K hK => ?_) | (refine hK _ _ _ ?_; clear hK K) | (refine hK _ _ _ _ rfl ?_; clear hK K) | (refine WX.thenExit (K := K) ?_; clear hK K) | (refine WX.thenExit (K := KL) ?_; clear hL KL)))
      have hn1 : (cs.take (i * 24) ++ (cs.drop (j * 24)).take ((m - j) * 24) ++ cs.drop ((i + (m - j)) * 24)).length = cp * 24 := by
        simp only [List.length_append, List.length_take, List.length_drop, hcl]; omega
      rw [hadr3]
      refine WL.clear (b := b) (E := 56) (sz := 24) rfl rfl (by decide) (by rw [hn1]; omega) (fun cs' hl' ht' => ?_)
      (repeat (first | refine vgo ?_ | refine ⟨_, rfl, rfl, ?_⟩ | refine ⟨_, rfl, ?_⟩ | refine ⟨rfl, ?_⟩ | intro hb | refine altA ?_ | refine altR ?_ | refine sideA ?_ | refine decTA ?_ | refine decFA ?_ | refine decNA ?_ | refine decBTA ?_ | refine decBFA ?_ | refine ⟨_, by assumption, ?_⟩ | refine ⟨_, _, _, rfl, ?_⟩ | refine WC.seq (fun K hK => ?_) | (refine hK _ _ _ ?_; clear hK K) | (refine hK _ _ _ _ rfl ?_; clear hK K) | (refine WX.thenExit (K := K) ?_; clear hK K) | (refine WX.thenExit (K := KL) ?_; clear hL KL)))
      refine WX.ret1 rfl rfl (fun w sw => ⟨_, _, ⟨rfl, rfl⟩, ?_⟩)
      have sw2 := sw.closeOwn (b := b) (cp := cp) 24 (i + (m - j)) (by rw [hl', hn1]) (by omega) hcp
      have e := del_cells hij hj hmc hcl hct ht'
      have e2 : i + (m - j) = m - (j - i) := by omega
      rw [e2] at sw2 ⊢
      rw [e] at sw2
      exact sw2.to
/-- An operation of the program, of those that the statements make: nobody's but its origin's, numbers, and what is known. -/
abbrev oTail : List Value := [.int .u64 0, .int .i64 0, .int .u64 0, .int .i64 0, .int .i64 0, .int .i64 0, .string .empty, .int .i64 0, .int .i64 0, .string .empty, .int .u64 0, .int .i64 0, .int .u64 0, .int .i64 0, .int .u64 0, .int .i64 0, .int .u64 0, .int .i64 0, .slice none 0 0]
abbrev opC (o : Int) (n t : Nat) (d : Value) (k : Int) : List Value := .int .i64 o :: .int .u64 n :: .int .u64 t :: d :: .int .i64 k :: oTail
abbrev opV (o : Int) (n t : Nat) (d : Value) (k : Int) : Value := .agg (opC o n t d k).toArray
structure OpT where
  o : Int
  n : Nat
  t : Nat
  c : List Nat
  d : Value
  k : Int
abbrev OpT.C (x : OpT) : List Value := opC x.o x.n x.t x.d x.k
abbrev OpT.V (x : OpT) : Value := opV x.o x.n x.t x.d x.k
def opsC (l : List OpT) : List Value := l.flatMap OpT.C
theorem opsC_len : ∀ l : List OpT, (opsC l).length = l.length * 24
  | [] => rfl
  | x :: l => by
    have := opsC_len l
    unfold opsC at this ⊢
    have e : (OpT.C x).length = 24 := rfl
    rw [List.flatMap_cons, List.length_append, this, e]
    show 24 + l.length * 24 = (l.length + 1) * 24
    omega
theorem opsC_seg : ∀ {l : List OpT} {i : Nat} {x : OpT}, l[i]? = some x → ((opsC l).drop (i * 24)).take 24 = x.C
  | [], _, _, h => by simp at h
  | y :: l, 0, x, h => by
    simp only [List.getElem?_cons_zero, Option.some.injEq] at h; subst h
    unfold opsC
    rw [List.flatMap_cons, Nat.zero_mul, List.drop_zero]
    exact List.take_left' rfl
  | y :: l, i + 1, x, h => by
    rw [List.getElem?_cons_succ] at h
    have e := opsC_seg h
    unfold opsC at e ⊢
    rw [List.flatMap_cons, show (i + 1) * 24 = 24 + i * 24 from by omega, ← List.drop_drop, List.drop_left' (show (OpT.C y).length = 24 from rfl), e]
def idxI {α : Type} (p : α → Bool) (l : List α) : Int := match l.findIdx? p with
  | some i => (i : Int)
  | none => -1
theorem idxI_some {α : Type} {p : α → Bool} {l : List α} {i : Nat} {x : α} (h : l[i]? = some x) (hp : p x = true) (hn : ∀ (j : Nat) (y : α), j < i → l[j]? = some y → p y = false) : idxI p l = (i : Int) := by
  have : l.findIdx? p = some i := by
    rw [List.findIdx?_eq_some_iff_getElem]
    obtain ⟨h1, rfl⟩ := List.getElem?_eq_some_iff.1 h
    exact ⟨h1, hp, fun j hj => by simpa using hn j _ hj (List.getElem?_eq_getElem (by omega))⟩
  unfold idxI; rw [this]
theorem idxI_none {α : Type} {p : α → Bool} {l : List α} (hn : ∀ (j : Nat) (y : α), l[j]? = some y → p y = false) : idxI p l = -1 := by
  have : l.findIdx? p = none := by
    rw [List.findIdx?_eq_none_iff]
    intro x hx
    obtain ⟨j, hj⟩ := List.mem_iff_getElem?.1 hx
    exact hn j x hj
  unfold idxI; rw [this]
theorem hold_has1_fun (x : OpT) (b1 b2 : Nat) (org : Int) (num : Nat) : Fun Try.prog 103 [x.V, .pointer (some ⟨b1, 0, none⟩), .pointer (some ⟨b2, 0, none⟩)] [] [box b1 3 [.int .i64 org], box b2 23 [.int .u64 num]]
    (fun r G S => r = .bool (decide (x.o = org ∧ x.n = num)) ∧ G = [] ∧ S = [box b1 3 [.int .i64 org], box b2 23 [.int .u64 num]]) := by
  obtain ⟨o, n, t, c, d, k⟩ := x
  dsimp only
  refine Fun.enter Try.func103 (by kernel_rfl) rfl Try.ntmps103 rfl (fun B Gf Sf => ?_); (try simp only [List.cons_append]); (try simp only [List.nil_append]); simp only [argEnv]
  (repeat (first | refine vgo ?_ | refine ⟨_, rfl, rfl, ?_⟩ | refine ⟨_, rfl, ?_⟩ | refine ⟨rfl, ?_⟩ | intro hb | refine altA ?_ | refine altR ?_ | refine sideA ?_ | refine decTA ?_ | refine decFA ?_ | refine decNA ?_ | refine decBTA ?_ | refine decBFA ?_ | refine ⟨_, by assumption, ?_⟩ | refine ⟨_, _, _, rfl, ?_⟩ | refine WC.seq (fun K hK => ?_) | (refine hK _ _ _ ?_; clear hK K) | (refine hK _ _ _ _ rfl ?_; clear hK K) | (refine WX.thenExit (K := K) ?_; clear hK K) | (refine WX.thenExit (K := KL) ?_; clear hL KL)))
  (first | refine WL.boxA rfl rfl ?_ | refine WL.box rfl rfl rfl ?_); intro b3
  by_cases h1 : o = org
  · (repeat (first | refine vgo ?_ | refine ⟨_, rfl, rfl, ?_⟩ | refine ⟨_, rfl, ?_⟩ | refine ⟨rfl, ?_⟩ | intro hb | refine altA ?_ | refine altR ?_ | refine sideA ?_ | refine decTA ?_ | refine decFA ?_ | refine decNA ?_ | refine decBTA ?_ | refine decBFA ?_ | refine ⟨_, by assumption, ?_⟩ | refine ⟨_, _, _, rfl, ?_⟩ | refine WC.seq (fun K hK => ?_) | (refine hK _ _ _ ?_; clear hK K) | (refine hK _ _ _ _ rfl ?_; clear hK K) | (refine WX.thenExit (K := K) ?_; clear hK K) | (refine WX.thenExit (K := KL) ?_; clear hL KL)))
    exact WX.ret1 rfl rfl (fun w sw => ⟨_, _, ⟨by congr 1; exact decide_eq_decide.2 ⟨fun h => ⟨h1, Int.ofNat.inj h⟩, fun h => congrArg Int.ofNat h.2⟩, rfl, rfl⟩, sw.to⟩)
  · (repeat (first | refine vgo ?_ | refine ⟨_, rfl, rfl, ?_⟩ | refine ⟨_, rfl, ?_⟩ | refine ⟨rfl, ?_⟩ | intro hb | refine altA ?_ | refine altR ?_ | refine sideA ?_ | refine decTA ?_ | refine decFA ?_ | refine decNA ?_ | refine decBTA ?_ | refine decBFA ?_ | refine ⟨_, by assumption, ?_⟩ | refine ⟨_, _, _, rfl, ?_⟩ | refine WC.seq (fun K hK => ?_) | (refine hK _ _ _ ?_; clear hK K) | (refine hK _ _ _ _ rfl ?_; clear hK K) | (refine WX.thenExit (K := K) ?_; clear hK K) | (refine WX.thenExit (K := KL) ?_; clear hL KL)))
    exact WX.ret1 rfl rfl (fun w sw => ⟨_, _, ⟨by congr 1; exact (decide_eq_false (fun h => h1 h.1)).symm, rfl, rfl⟩, sw.to⟩)
set_option maxHeartbeats 1600000 in
theorem hindex2_fun (f : FuncId) (c1 c2 : Value) (S1 S2 : Res) (l : List OpT) (p : OpT → Bool) (v : Value) (hl : l.length ≤ 100000)
    (hp : ∀ x ∈ l, Fun Try.prog f (x.V :: [c1, c2]) (rd (Ty.sl Ty.u64) x.c x.d :: []) [S1, S2] (fun r G S => r = .bool (p x) ∧ G = [] ∧ S = [S1, S2])) :
    Fun Try.prog 106 [v, .func (.func f) #[] (List.toArray [c1, c2])] (rdAll (Ty.sl Ty.u64) (l.map OpT.c) (l.map OpT.d) :: []) (own 56 24 v l.length (opsC l) :: [S1, S2])
    (fun r G S => r = .int .i64 (idxI p l) ∧ G = [] ∧ S = own 56 24 v l.length (opsC l) :: [S1, S2]) := by
  refine Fun.enter Try.func106 (by kernel_rfl) rfl Try.ntmps106 rfl (fun B Gf Sf => ?_); (try simp only [List.cons_append]); (try simp only [List.nil_append]); simp only [argEnv]
  refine WC.openOwn (v := v) (fun e m0 => ?_) (fun b cp cs e hmc hcp hcl hct => ?_)
  · subst e
    obtain rfl : l = [] := List.eq_nil_of_length_eq_zero m0
    have hidx : idxI p [] = -1 := rfl
    (repeat (first | refine vgo ?_ | refine ⟨_, rfl, rfl, ?_⟩ | refine ⟨_, rfl, ?_⟩ | refine ⟨rfl, ?_⟩ | intro hb | refine altA ?_ | refine altR ?_ | refine sideA ?_ | refine decTA ?_ | refine decFA ?_ | refine decNA ?_ | refine decBTA ?_ | refine decBFA ?_ | refine ⟨_, by assumption, ?_⟩ | refine ⟨_, _, _, rfl, ?_⟩ | refine WC.seq (fun K hK => ?_) | (refine hK _ _ _ ?_; clear hK K) | (refine hK _ _ _ _ rfl ?_; clear hK K) | (refine WX.thenExit (K := K) ?_; clear hK K) | (refine WX.thenExit (K := KL) ?_; clear hL KL)))
    refine WC.loop (I := Unit) (fun i => [(8, .int .i64 0), (7, .int .i64 ((0 : Nat) : Int))]) (fun _ => rdAll (Ty.sl Ty.u64) [] [] :: Gf) (fun _ => own 56 24 (.slice none 0 0) 0 [] :: S1 :: S2 :: Sf) (fun i => True) (fun i => 0) () trivial (.cons rfl (.cons rfl .nil)) (fun w h => h) ?_
    intro _ _ KL hL
    (repeat (first | refine vgo ?_ | refine ⟨_, rfl, rfl, ?_⟩ | refine ⟨_, rfl, ?_⟩ | refine ⟨rfl, ?_⟩ | intro hb | refine altA ?_ | refine altR ?_ | refine sideA ?_ | refine decTA ?_ | refine decFA ?_ | refine decNA ?_ | refine decBTA ?_ | refine decBFA ?_ | refine ⟨_, by assumption, ?_⟩ | refine ⟨_, _, _, rfl, ?_⟩ | refine WC.seq (fun K hK => ?_) | (refine hK _ _ _ ?_; clear hK K) | (refine hK _ _ _ _ rfl ?_; clear hK K) | (refine WX.thenExit (K := K) ?_; clear hK K) | (refine WX.thenExit (K := KL) ?_; clear hL KL)))
    exact WX.ret1 rfl rfl (fun w sw => ⟨_, _, ⟨rfl, rfl, rfl⟩, (show Sat B ([] ++ (rdAll (Ty.sl Ty.u64) [] [] :: Gf)) ((own 56 24 (.slice none 0 0) 0 [] :: [S1, S2]) ++ Sf) w from sw.to)⟩)
  · subst e
    obtain ⟨t, rfl⟩ : ∃ t, cs = opsC l ++ t := ⟨cs.drop (l.length * 24), by rw [← hct, List.take_append_drop]⟩
    have hol := opsC_len l
    (repeat (first | refine vgo ?_ | refine ⟨_, rfl, rfl, ?_⟩ | refine ⟨_, rfl, ?_⟩ | refine ⟨rfl, ?_⟩ | intro hb | refine altA ?_ | refine altR ?_ | refine sideA ?_ | refine decTA ?_ | refine decFA ?_ | refine decNA ?_ | refine decBTA ?_ | refine decBFA ?_ | refine ⟨_, by assumption, ?_⟩ | refine ⟨_, _, _, rfl, ?_⟩ | refine WC.seq (fun K hK => ?_) | (refine hK _ _ _ ?_; clear hK K) | (refine hK _ _ _ _ rfl ?_; clear hK K) | (refine WX.thenExit (K := K) ?_; clear hK K) | (refine WX.thenExit (K := KL) ?_; clear hL KL)))
    refine WC.loop (I := Nat) (fun i => [(8, .int .i64 (i : Nat)), (7, .int .i64 (l.length : Nat)), (4, .int .i64 0), (0, .slice (some ⟨b, 0, none⟩) l.length cp), (1, .func (.func f) #[] (List.toArray [c1, c2]))]) (fun _ => rdAll (Ty.sl Ty.u64) (l.map OpT.c) (l.map OpT.d) :: Gf) (fun _ => box b 56 (opsC l ++ t) :: S1 :: S2 :: Sf) (fun i => i ≤ l.length ∧ ∀ (j : Nat) (y : OpT), j < i → l[j]? = some y → p y = false) (fun i => l.length - i) 0 ⟨Nat.zero_le _, fun j y h => absurd h (Nat.not_lt_zero _)⟩ (.cons rfl (.cons rfl (.cons rfl (.cons rfl (.cons rfl .nil))))) (fun w h => h) ?_
    rintro i ⟨hi, hno⟩ KL hL
    by_cases hk : i < l.length
    · obtain ⟨x, hx⟩ : ∃ x, l[i]? = some x := ⟨_, List.getElem?_eq_getElem hk⟩
      have hseg := opsC_seg hx
      have is1 : SegC (opsC l ++ t) (i * 24) 24 x.C := ⟨by
        refine ⟨?_, rfl⟩
        rw [List.drop_append_of_le_length (by omega), List.take_append_of_le_length (by rw [List.length_drop]; omega), hseg]⟩
      have hpx := hp x (List.mem_of_getElem? hx)
      refine WC.allGet (R := Ty.sl Ty.u64) (l := l.map OpT.c) (vs := l.map OpT.d) (i := i) (a := x.c) (.head _) (by rw [List.getElem?_map, hx]; rfl) (fun u hu => ?_)
      rw [List.getElem?_map, hx] at hu
      obtain rfl : x.d = u := Option.some.inj hu
      (repeat (first | refine vgo ?_ | refine ⟨_, rfl, rfl, ?_⟩ | refine ⟨_, rfl, ?_⟩ | refine ⟨rfl, ?_⟩ | intro hb | refine altA ?_ | refine altR ?_ | refine sideA ?_ | refine decTA ?_ | refine decFA ?_ | refine decNA ?_ | refine decBTA ?_ | refine decBFA ?_ | refine ⟨_, by assumption, ?_⟩ | refine ⟨_, _, _, rfl, ?_⟩ | refine WC.seq (fun K hK => ?_) | (refine hK _ _ _ ?_; clear hK K) | (refine hK _ _ _ _ rfl ?_; clear hK K) | (refine WX.thenExit (K := K) ?_; clear hK K) | (refine WX.thenExit (K := KL) ?_; clear hL KL)))
      refine CallV.by' (hpx) ?_; rintro _ _ _ ⟨rfl, rfl, rfl⟩; (try simp only [List.cons_append]); (try simp only [List.nil_append])
      by_cases hpp : p x = true
      · have hidx : idxI p l = (i : Int) := idxI_some hx hpp hno
        rw [hpp]
        (repeat (first | refine vgo ?_ | refine ⟨_, rfl, rfl, ?_⟩ | refine ⟨_, rfl, ?_⟩ | refine ⟨rfl, ?_⟩ | intro hb | refine altA ?_ | refine altR ?_ | refine sideA ?_ | refine decTA ?_ | refine decFA ?_ | refine decNA ?_ | refine decBTA ?_ | refine decBFA ?_ | refine ⟨_, by assumption, ?_⟩ | refine ⟨_, _, _, rfl, ?_⟩ | refine WC.seq (fun K hK => ?_) | (refine hK _ _ _ ?_; clear hK K) | (refine hK _ _ _ _ rfl ?_; clear hK K) | (refine WX.thenExit (K := K) ?_; clear hK K) | (refine WX.thenExit (K := KL) ?_; clear hL KL)))
        refine WX.ret1 rfl rfl (fun w sw => ⟨_, _, ⟨by rw [hidx], rfl, rfl⟩, ?_⟩)
        have sw2 := sw.closeOwn (b := b) (cp := cp) 24 l.length hcl hmc hcp
        rw [hct] at sw2
        exact sw2.to
      · have hpf : p x = false := by cases h : p x <;> simp_all
        rw [hpf]
        (repeat (first | refine vgo ?_ | refine ⟨_, rfl, rfl, ?_⟩ | refine ⟨_, rfl, ?_⟩ | refine ⟨rfl, ?_⟩ | intro hb | refine altA ?_ | refine altR ?_ | refine sideA ?_ | refine decTA ?_ | refine decFA ?_ | refine decNA ?_ | refine decBTA ?_ | refine decBFA ?_ | refine ⟨_, by assumption, ?_⟩ | refine ⟨_, _, _, rfl, ?_⟩ | refine WC.seq (fun K hK => ?_) | (refine hK _ _ _ ?_; clear hK K) | (refine hK _ _ _ _ rfl ?_; clear hK K) | (refine WX.thenExit (K := K) ?_; clear hK K) | (refine WX.thenExit (K := KL) ?_; clear hL KL)))
        exact (hL (i + 1) ⟨hk, fun j y hj hy => by
          by_cases e : j = i
          · subst e; rw [hx] at hy; cases hy; exact hpf
          · exact hno j y (by omega) hy⟩ (by omega)).conv (.cons rfl (.cons rfl (.cons rfl (.cons rfl (.cons rfl .nil))))) (fun w h => h.to)
    · have hidx : idxI p l = -1 := idxI_none fun j y hy => hno j y (by have := (List.getElem?_eq_some_iff.1 hy).1; omega) hy
      (repeat (first | refine vgo ?_ | refine ⟨_, rfl, rfl, ?_⟩ | refine ⟨_, rfl, ?_⟩ | refine ⟨rfl, ?_⟩ | intro hb | refine altA ?_ | refine altR ?_ | refine sideA ?_ | refine decTA ?_ | refine decFA ?_ | refine decNA ?_ | refine decBTA ?_ | refine decBFA ?_ | refine ⟨_, by assumption, ?_⟩ | refine ⟨_, _, _, rfl, ?_⟩ | refine WC.seq (fun K hK => ?_) | (refine hK _ _ _ ?_; clear hK K) | (refine hK _ _ _ _ rfl ?_; clear hK K) | (refine WX.thenExit (K := K) ?_; clear hK K) | (refine WX.thenExit (K := KL) ?_; clear hL KL)))
      refine WX.ret1 rfl rfl (fun w sw => ⟨_, _, ⟨by rw [hidx], rfl, rfl⟩, ?_⟩)
      have sw2 := sw.closeOwn (b := b) (cp := cp) 24 l.length hcl hmc hcp
      rw [hct] at sw2
      exact sw2.to
set_option maxHeartbeats 1600000 in
theorem hindex1_fun (f : FuncId) (c1 : Value) (S1 : Res) (g1 : Pers) (l : List OpT) (p : OpT → Bool) (v : Value) (hl : l.length ≤ 100000)
    (hp : ∀ x ∈ l, Fun Try.prog f (x.V :: [c1]) (rd (Ty.sl Ty.u64) x.c x.d :: [g1]) [S1] (fun r G S => r = .bool (p x) ∧ G = [] ∧ S = [S1])) :
    Fun Try.prog 106 [v, .func (.func f) #[] (List.toArray [c1])] (rdAll (Ty.sl Ty.u64) (l.map OpT.c) (l.map OpT.d) :: [g1]) (own 56 24 v l.length (opsC l) :: [S1])
    (fun r G S => r = .int .i64 (idxI p l) ∧ G = [] ∧ S = own 56 24 v l.length (opsC l) :: [S1]) := by
  refine Fun.enter Try.func106 (by kernel_rfl) rfl Try.ntmps106 rfl (fun B Gf Sf => ?_); (try simp only [List.cons_append]); (try simp only [List.nil_append]); simp only [argEnv]
  refine WC.openOwn (v := v) (fun e m0 => ?_) (fun b cp cs e hmc hcp hcl hct => ?_)
  · subst e
    obtain rfl : l = [] := List.eq_nil_of_length_eq_zero m0
    have hidx : idxI p [] = -1 := rfl
    (repeat (first | refine vgo ?_ | refine ⟨_, rfl, rfl, ?_⟩ | refine ⟨_, rfl, ?_⟩ | refine ⟨rfl, ?_⟩ | intro hb | refine altA ?_ | refine altR ?_ | refine sideA ?_ | refine decTA ?_ | refine decFA ?_ | refine decNA ?_ | refine decBTA ?_ | refine decBFA ?_ | refine ⟨_, by assumption, ?_⟩ | refine ⟨_, _, _, rfl, ?_⟩ | refine WC.seq (fun K hK => ?_) | (refine hK _ _ _ ?_; clear hK K) | (refine hK _ _ _ _ rfl ?_; clear hK K) | (refine WX.thenExit (K := K) ?_; clear hK K) | (refine WX.thenExit (K := KL) ?_; clear hL KL)))
    refine WC.loop (I := Unit) (fun i => [(8, .int .i64 0), (7, .int .i64 ((0 : Nat) : Int))]) (fun _ => rdAll (Ty.sl Ty.u64) [] [] :: g1 :: Gf) (fun _ => own 56 24 (.slice none 0 0) 0 [] :: S1 :: Sf) (fun i => True) (fun i => 0) () trivial (.cons rfl (.cons rfl .nil)) (fun w h => h) ?_
    intro _ _ KL hL
    (repeat (first | refine vgo ?_ | refine ⟨_, rfl, rfl, ?_⟩ | refine ⟨_, rfl, ?_⟩ | refine ⟨rfl, ?_⟩ | intro hb | refine altA ?_ | refine altR ?_ | refine sideA ?_ | refine decTA ?_ | refine decFA ?_ | refine decNA ?_ | refine decBTA ?_ | refine decBFA ?_ | refine ⟨_, by assumption, ?_⟩ | refine ⟨_, _, _, rfl, ?_⟩ | refine WC.seq (fun K hK => ?_) | (refine hK _ _ _ ?_; clear hK K) | (refine hK _ _ _ _ rfl ?_; clear hK K) | (refine WX.thenExit (K := K) ?_; clear hK K) | (refine WX.thenExit (K := KL) ?_; clear hL KL)))
    exact WX.ret1 rfl rfl (fun w sw => ⟨_, _, ⟨rfl, rfl, rfl⟩, (show Sat B ([] ++ (rdAll (Ty.sl Ty.u64) [] [] :: g1 :: Gf)) ((own 56 24 (.slice none 0 0) 0 [] :: [S1]) ++ Sf) w from sw.to)⟩)
  · subst e
    obtain ⟨t, rfl⟩ : ∃ t, cs = opsC l ++ t := ⟨cs.drop (l.length * 24), by rw [← hct, List.take_append_drop]⟩
    have hol := opsC_len l
    (repeat (first | refine vgo ?_ | refine ⟨_, rfl, rfl, ?_⟩ | refine ⟨_, rfl, ?_⟩ | refine ⟨rfl, ?_⟩ | intro hb | refine altA ?_ | refine altR ?_ | refine sideA ?_ | refine decTA ?_ | refine decFA ?_ | refine decNA ?_ | refine decBTA ?_ | refine decBFA ?_ | refine ⟨_, by assumption, ?_⟩ | refine ⟨_, _, _, rfl, ?_⟩ | refine WC.seq (fun K hK => ?_) | (refine hK _ _ _ ?_; clear hK K) | (refine hK _ _ _ _ rfl ?_; clear hK K) | (refine WX.thenExit (K := K) ?_; clear hK K) | (refine WX.thenExit (K := KL) ?_; clear hL KL)))
    refine WC.loop (I := Nat) (fun i => [(8, .int .i64 (i : Nat)), (7, .int .i64 (l.length : Nat)), (4, .int .i64 0), (0, .slice (some ⟨b, 0, none⟩) l.length cp), (1, .func (.func f) #[] (List.toArray [c1]))]) (fun _ => rdAll (Ty.sl Ty.u64) (l.map OpT.c) (l.map OpT.d) :: g1 :: Gf) (fun _ => box b 56 (opsC l ++ t) :: S1 :: Sf) (fun i => i ≤ l.length ∧ ∀ (j : Nat) (y : OpT), j < i → l[j]? = some y → p y = false) (fun i => l.length - i) 0 ⟨Nat.zero_le _, fun j y h => absurd h (Nat.not_lt_zero _)⟩ (.cons rfl (.cons rfl (.cons rfl (.cons rfl (.cons rfl .nil))))) (fun w h => h) ?_
    rintro i ⟨hi, hno⟩ KL hL
    by_cases hk : i < l.length
    · obtain ⟨x, hx⟩ : ∃ x, l[i]? = some x := ⟨_, List.getElem?_eq_getElem hk⟩
      have hseg := opsC_seg hx
      have is1 : SegC (opsC l ++ t) (i * 24) 24 x.C := ⟨by
        refine ⟨?_, rfl⟩
        rw [List.drop_append_of_le_length (by omega), List.take_append_of_le_length (by rw [List.length_drop]; omega), hseg]⟩
      have hpx := hp x (List.mem_of_getElem? hx)
      refine WC.allGet (R := Ty.sl Ty.u64) (l := l.map OpT.c) (vs := l.map OpT.d) (i := i) (a := x.c) (.head _) (by rw [List.getElem?_map, hx]; rfl) (fun u hu => ?_)
      rw [List.getElem?_map, hx] at hu
      obtain rfl : x.d = u := Option.some.inj hu
      (repeat (first | refine vgo ?_ | refine ⟨_, rfl, rfl, ?_⟩ | refine ⟨_, rfl, ?_⟩ | refine ⟨rfl, ?_⟩ | intro hb | refine altA ?_ | refine altR ?_ | refine sideA ?_ | refine decTA ?_ | refine decFA ?_ | refine decNA ?_ | refine decBTA ?_ | refine decBFA ?_ | refine ⟨_, by assumption, ?_⟩ | refine ⟨_, _, _, rfl, ?_⟩ | refine WC.seq (fun K hK => ?_) | (refine hK _ _ _ ?_; clear hK K) | (refine hK _ _ _ _ rfl ?_; clear hK K) | (refine WX.thenExit (K := K) ?_; clear hK K) | (refine WX.thenExit (K := KL) ?_; clear hL KL)))
      refine CallV.by' (hpx) ?_; rintro _ _ _ ⟨rfl, rfl, rfl⟩; (try simp only [List.cons_append]); (try simp only [List.nil_append])
      by_cases hpp : p x = true
      · have hidx : idxI p l = (i : Int) := idxI_some hx hpp hno
        rw [hpp]
        (repeat (first | refine vgo ?_ | refine ⟨_, rfl, rfl, ?_⟩ | refine ⟨_, rfl, ?_⟩ | refine ⟨rfl, ?_⟩ | intro hb | refine altA ?_ | refine altR ?_ | refine sideA ?_ | refine decTA ?_ | refine decFA ?_ | refine decNA ?_ | refine decBTA ?_ | refine decBFA ?_ | refine ⟨_, by assumption, ?_⟩ | refine ⟨_, _, _, rfl, ?_⟩ | refine WC.seq (fun K hK => ?_) | (refine hK _ _ _ ?_; clear hK K) | (refine hK _ _ _ _ rfl ?_; clear hK K) | (refine WX.thenExit (K := K) ?_; clear hK K) | (refine WX.thenExit (K := KL) ?_; clear hL KL)))
        refine WX.ret1 rfl rfl (fun w sw => ⟨_, _, ⟨by rw [hidx], rfl, rfl⟩, ?_⟩)
        have sw2 := sw.closeOwn (b := b) (cp := cp) 24 l.length hcl hmc hcp
        rw [hct] at sw2
        exact sw2.to
      · have hpf : p x = false := by cases h : p x <;> simp_all
        rw [hpf]
        (repeat (first | refine vgo ?_ | refine ⟨_, rfl, rfl, ?_⟩ | refine ⟨_, rfl, ?_⟩ | refine ⟨rfl, ?_⟩ | intro hb | refine altA ?_ | refine altR ?_ | refine sideA ?_ | refine decTA ?_ | refine decFA ?_ | refine decNA ?_ | refine decBTA ?_ | refine decBFA ?_ | refine ⟨_, by assumption, ?_⟩ | refine ⟨_, _, _, rfl, ?_⟩ | refine WC.seq (fun K hK => ?_) | (refine hK _ _ _ ?_; clear hK K) | (refine hK _ _ _ _ rfl ?_; clear hK K) | (refine WX.thenExit (K := K) ?_; clear hK K) | (refine WX.thenExit (K := KL) ?_; clear hL KL)))
        exact (hL (i + 1) ⟨hk, fun j y hj hy => by
          by_cases e : j = i
          · subst e; rw [hx] at hy; cases hy; exact hpf
          · exact hno j y (by omega) hy⟩ (by omega)).conv (.cons rfl (.cons rfl (.cons rfl (.cons rfl (.cons rfl .nil))))) (fun w h => h.to)
    · have hidx : idxI p l = -1 := idxI_none fun j y hy => hno j y (by have := (List.getElem?_eq_some_iff.1 hy).1; omega) hy
      (repeat (first | refine vgo ?_ | refine ⟨_, rfl, rfl, ?_⟩ | refine ⟨_, rfl, ?_⟩ | refine ⟨rfl, ?_⟩ | intro hb | refine altA ?_ | refine altR ?_ | refine sideA ?_ | refine decTA ?_ | refine decFA ?_ | refine decNA ?_ | refine decBTA ?_ | refine decBFA ?_ | refine ⟨_, by assumption, ?_⟩ | refine ⟨_, _, _, rfl, ?_⟩ | refine WC.seq (fun K hK => ?_) | (refine hK _ _ _ ?_; clear hK K) | (refine hK _ _ _ _ rfl ?_; clear hK K) | (refine WX.thenExit (K := K) ?_; clear hK K) | (refine WX.thenExit (K := KL) ?_; clear hL KL)))
      refine WX.ret1 rfl rfl (fun w sw => ⟨_, _, ⟨by rw [hidx], rfl, rfl⟩, ?_⟩)
      have sw2 := sw.closeOwn (b := b) (cp := cp) 24 l.length hcl hmc hcp
      rw [hct] at sw2
      exact sw2.to
/-- A hold: its room, and what waits. -/
abbrev hRes (h : Nat) (most : Nat) (lv : Value) (l : List OpT) : List Res := [box h 159 [.int .i64 most, lv], own 56 24 lv l.length (opsC l)]
abbrev hG (l : List OpT) : Pers := rdAll (Ty.sl Ty.u64) (l.map OpT.c) (l.map OpT.d)
theorem Fun.moreG {P : Program} {f : FuncId} {args : List Value} {S : List Res} {R : Value → List Pers → List Res → Prop} {g : Pers} (h : Fun P f args [] S R) : Fun P f args [g] S R := ⟨h.callable, fun B Gf Sf w sw => h.calls B (g :: Gf) Sf w sw⟩
theorem hcontains_fun (f : FuncId) (c1 c2 : Value) (S1 S2 : Res) (l : List OpT) (p : OpT → Bool) (v : Value) (hl : l.length ≤ 100000)
    (hp : ∀ x ∈ l, Fun Try.prog f (x.V :: [c1, c2]) (rd (Ty.sl Ty.u64) x.c x.d :: []) [S1, S2] (fun r G S => r = .bool (p x) ∧ G = [] ∧ S = [S1, S2])) :
    Fun Try.prog 102 [v, .func (.func f) #[] (List.toArray [c1, c2])] [hG l] (own 56 24 v l.length (opsC l) :: [S1, S2])
    (fun r G S => r = .bool (decide (0 ≤ idxI p l)) ∧ G = [] ∧ S = own 56 24 v l.length (opsC l) :: [S1, S2]) := by
  refine Fun.enter Try.func102 (by kernel_rfl) rfl Try.ntmps102 rfl (fun B Gf Sf => ?_); (try simp only [List.cons_append]); (try simp only [List.nil_append]); simp only [argEnv]
  (repeat (first | refine vgo ?_ | refine ⟨_, rfl, rfl, ?_⟩ | refine ⟨_, rfl, ?_⟩ | refine ⟨rfl, ?_⟩ | intro hb | refine altA ?_ | refine altR ?_ | refine sideA ?_ | refine decTA ?_ | refine decFA ?_ | refine decNA ?_ | refine decBTA ?_ | refine decBFA ?_ | refine ⟨_, by assumption, ?_⟩ | refine ⟨_, _, _, rfl, ?_⟩ | refine WC.seq (fun K hK => ?_) | (refine hK _ _ _ ?_; clear hK K) | (refine hK _ _ _ _ rfl ?_; clear hK K) | (refine WX.thenExit (K := K) ?_; clear hK K) | (refine WX.thenExit (K := KL) ?_; clear hL KL)))
  refine CallV.by' (hindex2_fun f c1 c2 S1 S2 l p v hl hp) ?_; rintro _ _ _ ⟨rfl, rfl, rfl⟩; (try simp only [List.cons_append]); (try simp only [List.nil_append])
  (repeat (first | refine vgo ?_ | refine ⟨_, rfl, rfl, ?_⟩ | refine ⟨_, rfl, ?_⟩ | refine ⟨rfl, ?_⟩ | intro hb | refine altA ?_ | refine altR ?_ | refine sideA ?_ | refine decTA ?_ | refine decFA ?_ | refine decNA ?_ | refine decBTA ?_ | refine decBFA ?_ | refine ⟨_, by assumption, ?_⟩ | refine ⟨_, _, _, rfl, ?_⟩ | refine WC.seq (fun K hK => ?_) | (refine hK _ _ _ ?_; clear hK K) | (refine hK _ _ _ _ rfl ?_; clear hK K) | (refine WX.thenExit (K := K) ?_; clear hK K) | (refine WX.thenExit (K := KL) ?_; clear hL KL)))
  exact WX.ret1 rfl rfl (fun w sw => ⟨_, _, ⟨rfl, rfl, rfl⟩, sw.to⟩)
theorem hnew_fun (n : Int) : Fun Try.prog 50 [.int .i64 n] [] [] (fun r G S => ∃ h : Nat, r = .pointer (some ⟨h, 0, none⟩) ∧ G = [hG []] ∧ S = hRes h (min (max n 0) 1000).toNat (.slice none 0 0) []) := by
  refine Fun.enter Try.func50 (by kernel_rfl) rfl Try.ntmps50 rfl (fun B Gf Sf => ?_); (try simp only [List.cons_append]); (try simp only [List.nil_append]); simp only [argEnv]
  (repeat (first | refine vgo ?_ | refine ⟨_, rfl, rfl, ?_⟩ | refine ⟨_, rfl, ?_⟩ | refine ⟨rfl, ?_⟩ | intro hb | refine altA ?_ | refine altR ?_ | refine sideA ?_ | refine decTA ?_ | refine decFA ?_ | refine decNA ?_ | refine decBTA ?_ | refine decBFA ?_ | refine ⟨_, by assumption, ?_⟩ | refine ⟨_, _, _, rfl, ?_⟩ | refine WC.seq (fun K hK => ?_) | (refine hK _ _ _ ?_; clear hK K) | (refine hK _ _ _ _ rfl ?_; clear hK K) | (refine WX.thenExit (K := K) ?_; clear hK K) | (refine WX.thenExit (K := KL) ?_; clear hL KL)))
  (first | refine WL.boxA rfl rfl ?_ | refine WL.box rfl rfl rfl ?_); intro bh
  (repeat (first | refine vgo ?_ | refine ⟨_, rfl, rfl, ?_⟩ | refine ⟨_, rfl, ?_⟩ | refine ⟨rfl, ?_⟩ | intro hb | refine altA ?_ | refine altR ?_ | refine sideA ?_ | refine decTA ?_ | refine decFA ?_ | refine decNA ?_ | refine decBTA ?_ | refine decBFA ?_ | refine ⟨_, by assumption, ?_⟩ | refine ⟨_, _, _, rfl, ?_⟩ | refine WC.seq (fun K hK => ?_) | (refine hK _ _ _ ?_; clear hK K) | (refine hK _ _ _ _ rfl ?_; clear hK K) | (refine WX.thenExit (K := K) ?_; clear hK K) | (refine WX.thenExit (K := KL) ?_; clear hL KL)))
  have e : ((min (max n 0) 1000).toNat : Int) = min (max n 0) 1000 := by omega
  exact WX.ret1 rfl rfl (fun w sw => ⟨_, _, ⟨bh, rfl, rfl, rfl⟩, by
    have e2 : hRes bh (min (max n 0) 1000).toNat (.slice none 0 0) [] = [box bh 159 [.int .i64 (min (max n 0) 1000), .slice none 0 0], own 56 24 (.slice none 0 0) 0 []] := by unfold hRes; rw [e]; rfl
    rw [e2]
    exact (show Sat B (rdAll (Ty.sl Ty.u64) [] [] :: Gf) (box bh 159 [.int .i64 (min (max n 0) 1000), .slice none 0 0] :: own 56 24 (.slice none 0 0) 0 [] :: Sf) w from ((sw.rdAllNil (Ty.sl Ty.u64)).ownNil 56 24).to)⟩)
theorem hhas_fun (h most : Nat) (lv : Value) (l : List OpT) (org : Int) (num : Nat) (hl : l.length ≤ 1000) : Fun Try.prog 81 [.pointer (some ⟨h, 0, none⟩), .int .i64 org, .int .u64 num] [hG l] (hRes h most lv l)
    (fun r G S => r = .bool (decide (0 ≤ idxI (fun x : OpT => decide (x.o = org ∧ x.n = num)) l)) ∧ G = [] ∧ S = hRes h most lv l) := by
  refine Fun.enter Try.func81 (by kernel_rfl) rfl Try.ntmps81 rfl (fun B Gf Sf => ?_); (try simp only [List.cons_append]); (try simp only [List.nil_append]); simp only [argEnv]
  (repeat (first | refine vgo ?_ | refine ⟨_, rfl, rfl, ?_⟩ | refine ⟨_, rfl, ?_⟩ | refine ⟨rfl, ?_⟩ | intro hb | refine altA ?_ | refine altR ?_ | refine sideA ?_ | refine decTA ?_ | refine decFA ?_ | refine decNA ?_ | refine decBTA ?_ | refine decBFA ?_ | refine ⟨_, by assumption, ?_⟩ | refine ⟨_, _, _, rfl, ?_⟩ | refine WC.seq (fun K hK => ?_) | (refine hK _ _ _ ?_; clear hK K) | (refine hK _ _ _ _ rfl ?_; clear hK K) | (refine WX.thenExit (K := K) ?_; clear hK K) | (refine WX.thenExit (K := KL) ?_; clear hL KL)))
  (first | refine WL.boxA rfl rfl ?_ | refine WL.box rfl rfl rfl ?_); intro b1
  (repeat (first | refine vgo ?_ | refine ⟨_, rfl, rfl, ?_⟩ | refine ⟨_, rfl, ?_⟩ | refine ⟨rfl, ?_⟩ | intro hb | refine altA ?_ | refine altR ?_ | refine sideA ?_ | refine decTA ?_ | refine decFA ?_ | refine decNA ?_ | refine decBTA ?_ | refine decBFA ?_ | refine ⟨_, by assumption, ?_⟩ | refine ⟨_, _, _, rfl, ?_⟩ | refine WC.seq (fun K hK => ?_) | (refine hK _ _ _ ?_; clear hK K) | (refine hK _ _ _ _ rfl ?_; clear hK K) | (refine WX.thenExit (K := K) ?_; clear hK K) | (refine WX.thenExit (K := KL) ?_; clear hL KL)))
  (first | refine WL.boxA rfl rfl ?_ | refine WL.box rfl rfl rfl ?_); intro b2
  refine WL.sat (S' := (box b2 23 [.int .u64 num] :: box b1 3 [.int .i64 org] :: box h 159 [.int .i64 most, lv] :: own 56 24 lv l.length (opsC l) :: Sf)) (fun _ h => h) ?_
  (repeat (first | refine vgo ?_ | refine ⟨_, rfl, rfl, ?_⟩ | refine ⟨_, rfl, ?_⟩ | refine ⟨rfl, ?_⟩ | intro hb | refine altA ?_ | refine altR ?_ | refine sideA ?_ | refine decTA ?_ | refine decFA ?_ | refine decNA ?_ | refine decBTA ?_ | refine decBFA ?_ | refine ⟨_, by assumption, ?_⟩ | refine ⟨_, _, _, rfl, ?_⟩ | refine WC.seq (fun K hK => ?_) | (refine hK _ _ _ ?_; clear hK K) | (refine hK _ _ _ _ rfl ?_; clear hK K) | (refine WX.thenExit (K := K) ?_; clear hK K) | (refine WX.thenExit (K := KL) ?_; clear hL KL)))
  refine CallV.by' (hcontains_fun 103 (.pointer (some ⟨b1, 0, none⟩)) (.pointer (some ⟨b2, 0, none⟩)) (box b1 3 [.int .i64 org]) (box b2 23 [.int .u64 num]) l (fun x : OpT => decide (x.o = org ∧ x.n = num)) lv (by omega) (fun x _ => Fun.moreG (hold_has1_fun x b1 b2 org num))) ?_; rintro _ _ _ ⟨rfl, rfl, rfl⟩; (try simp only [List.cons_append]); (try simp only [List.nil_append])
  (repeat (first | refine vgo ?_ | refine ⟨_, rfl, rfl, ?_⟩ | refine ⟨_, rfl, ?_⟩ | refine ⟨rfl, ?_⟩ | intro hb | refine altA ?_ | refine altR ?_ | refine sideA ?_ | refine decTA ?_ | refine decFA ?_ | refine decNA ?_ | refine decBTA ?_ | refine decBFA ?_ | refine ⟨_, by assumption, ?_⟩ | refine ⟨_, _, _, rfl, ?_⟩ | refine WC.seq (fun K hK => ?_) | (refine hK _ _ _ ?_; clear hK K) | (refine hK _ _ _ _ rfl ?_; clear hK K) | (refine WX.thenExit (K := K) ?_; clear hK K) | (refine WX.thenExit (K := KL) ?_; clear hL KL)))
  exact WX.ret1 rfl rfl (fun w sw => ⟨_, _, ⟨rfl, rfl, rfl⟩, sw.to⟩)
end
/-! ### What waits: Put, Next. -/
section
open Go Go.Proofs
theorem opsC_snoc (l : List OpT) (x : OpT) : opsC (l ++ [x]) = opsC l ++ x.C := by
  unfold opsC; rw [List.flatMap_append, List.flatMap_cons, List.flatMap_nil, List.append_nil]
abbrev hasP (l : List OpT) (o : Int) (n : Nat) : Prop := 0 ≤ idxI (fun x : OpT => decide (x.o = o ∧ x.n = n)) l
def putE (l : List OpT) (most : Nat) (x : OpT) : Int := if hasP l x.o x.n then 7 else if most ≤ l.length then 25 else 0
def putL (l : List OpT) (most : Nat) (x : OpT) : List OpT := if hasP l x.o x.n then l else if most ≤ l.length then l else l ++ [x]
set_option maxHeartbeats 1600000 in
theorem hput_fun (h most : Nat) (lv : Value) (l : List OpT) (x : OpT) (hl : l.length ≤ 999) (hmost : most ≤ 1000) : Fun Try.prog 57 [.pointer (some ⟨h, 0, none⟩), x.V] [hG l, rd (Ty.sl Ty.u64) x.c x.d] (hRes h most lv l)
    (fun r G S => ∃ lv', r = .int .i64 (putE l most x) ∧ G = [hG (putL l most x)] ∧ S = hRes h most lv' (putL l most x)) := by
  obtain ⟨o, n, t, c, d, k⟩ := x
  dsimp only
  refine Fun.enter Try.func57 (by kernel_rfl) rfl Try.ntmps57 rfl (fun B Gf Sf => ?_); (try simp only [List.cons_append]); (try simp only [List.nil_append]); simp only [argEnv]
  (repeat (first | refine vgo ?_ | refine ⟨_, rfl, rfl, ?_⟩ | refine ⟨_, rfl, ?_⟩ | refine ⟨rfl, ?_⟩ | intro hb | refine altA ?_ | refine altR ?_ | refine sideA ?_ | refine decTA ?_ | refine decFA ?_ | refine decNA ?_ | refine decBTA ?_ | refine decBFA ?_ | refine ⟨_, by assumption, ?_⟩ | refine ⟨_, _, _, rfl, ?_⟩ | refine WC.seq (fun K hK => ?_) | (refine hK _ _ _ ?_; clear hK K) | (refine hK _ _ _ _ rfl ?_; clear hK K) | (refine WX.thenExit (K := K) ?_; clear hK K) | (refine WX.thenExit (K := KL) ?_; clear hL KL)))
  (first | refine WL.boxA rfl rfl ?_ | refine WL.box rfl rfl rfl ?_); intro b3
  (repeat (first | refine vgo ?_ | refine ⟨_, rfl, rfl, ?_⟩ | refine ⟨_, rfl, ?_⟩ | refine ⟨rfl, ?_⟩ | intro hb | refine altA ?_ | refine altR ?_ | refine sideA ?_ | refine decTA ?_ | refine decFA ?_ | refine decNA ?_ | refine decBTA ?_ | refine decBFA ?_ | refine ⟨_, by assumption, ?_⟩ | refine ⟨_, _, _, rfl, ?_⟩ | refine WC.seq (fun K hK => ?_) | (refine hK _ _ _ ?_; clear hK K) | (refine hK _ _ _ _ rfl ?_; clear hK K) | (refine WX.thenExit (K := K) ?_; clear hK K) | (refine WX.thenExit (K := KL) ?_; clear hL KL)))
  refine CallV.by' (hhas_fun h most lv l o n (by omega)) ?_; rintro _ _ _ ⟨rfl, rfl, rfl⟩; (try simp only [List.cons_append]); (try simp only [List.nil_append])
  by_cases hh : 0 ≤ idxI (fun x : OpT => decide (x.o = o ∧ x.n = n)) l
  · have e1 : putE l most ⟨o, n, t, c, d, k⟩ = 7 := if_pos hh
    have e2 : putL l most ⟨o, n, t, c, d, k⟩ = l := if_pos hh
    (repeat (first | refine vgo ?_ | refine ⟨_, rfl, rfl, ?_⟩ | refine ⟨_, rfl, ?_⟩ | refine ⟨rfl, ?_⟩ | intro hb | refine altA ?_ | refine altR ?_ | refine sideA ?_ | refine decTA ?_ | refine decFA ?_ | refine decNA ?_ | refine decBTA ?_ | refine decBFA ?_ | refine ⟨_, by assumption, ?_⟩ | refine ⟨_, _, _, rfl, ?_⟩ | refine WC.seq (fun K hK => ?_) | (refine hK _ _ _ ?_; clear hK K) | (refine hK _ _ _ _ rfl ?_; clear hK K) | (refine WX.thenExit (K := K) ?_; clear hK K) | (refine WX.thenExit (K := KL) ?_; clear hL KL)))
    exact WX.ret1 rfl rfl (fun w sw => ⟨_, _, ⟨lv, by rw [e1], rfl, rfl⟩, by rw [e2]; exact sw.to⟩)
  · by_cases hm : most ≤ l.length
    · have e1 : putE l most ⟨o, n, t, c, d, k⟩ = 25 := (if_neg hh).trans (if_pos hm)
      have e2 : putL l most ⟨o, n, t, c, d, k⟩ = l := (if_neg hh).trans (if_pos hm)
      (repeat (first | refine vgo ?_ | refine ⟨_, rfl, rfl, ?_⟩ | refine ⟨_, rfl, ?_⟩ | refine ⟨rfl, ?_⟩ | intro hb | refine altA ?_ | refine altR ?_ | refine sideA ?_ | refine decTA ?_ | refine decFA ?_ | refine decNA ?_ | refine decBTA ?_ | refine decBFA ?_ | refine ⟨_, by assumption, ?_⟩ | refine ⟨_, _, _, rfl, ?_⟩ | refine WC.seq (fun K hK => ?_) | (refine hK _ _ _ ?_; clear hK K) | (refine hK _ _ _ _ rfl ?_; clear hK K) | (refine WX.thenExit (K := K) ?_; clear hK K) | (refine WX.thenExit (K := KL) ?_; clear hL KL)))
      (apply WC.drawE; exact rfl; focus (repeat (first | exact Wo.nil | (apply Wo.keep; exact rfl) | (apply Wo.drop; exact rfl)))); (repeat refine ObP3.c0A ?_); try (refine ObP3.nil ?_; (repeat (intro _)); (conv => whnf); (try dsimp only [envO, List.cons_append, List.nil_append]))
      (repeat (first | refine vgo ?_ | refine ⟨_, rfl, rfl, ?_⟩ | refine ⟨_, rfl, ?_⟩ | refine ⟨rfl, ?_⟩ | intro hb | refine altA ?_ | refine altR ?_ | refine sideA ?_ | refine decTA ?_ | refine decFA ?_ | refine decNA ?_ | refine decBTA ?_ | refine decBFA ?_ | refine ⟨_, by assumption, ?_⟩ | refine ⟨_, _, _, rfl, ?_⟩ | refine WC.seq (fun K hK => ?_) | (refine hK _ _ _ ?_; clear hK K) | (refine hK _ _ _ _ rfl ?_; clear hK K) | (refine WX.thenExit (K := K) ?_; clear hK K) | (refine WX.thenExit (K := KL) ?_; clear hL KL)))
      exact WX.ret1 rfl rfl (fun w sw => ⟨_, _, ⟨lv, by rw [e1], rfl, rfl⟩, by rw [e2]; exact sw.to⟩)
    · have e1 : putE l most ⟨o, n, t, c, d, k⟩ = 0 := (if_neg hh).trans (if_neg hm)
      have e2 : putL l most ⟨o, n, t, c, d, k⟩ = l ++ [⟨o, n, t, c, d, k⟩] := (if_neg hh).trans (if_neg hm)
      (repeat (first | refine vgo ?_ | refine ⟨_, rfl, rfl, ?_⟩ | refine ⟨_, rfl, ?_⟩ | refine ⟨rfl, ?_⟩ | intro hb | refine altA ?_ | refine altR ?_ | refine sideA ?_ | refine decTA ?_ | refine decFA ?_ | refine decNA ?_ | refine decBTA ?_ | refine decBFA ?_ | refine ⟨_, by assumption, ?_⟩ | refine ⟨_, _, _, rfl, ?_⟩ | refine WC.seq (fun K hK => ?_) | (refine hK _ _ _ ?_; clear hK K) | (refine hK _ _ _ _ rfl ?_; clear hK K) | (refine WX.thenExit (K := K) ?_; clear hK K) | (refine WX.thenExit (K := KL) ?_; clear hL KL)))
      (apply WC.drawE; exact rfl; focus (repeat (first | exact Wo.nil | (apply Wo.keep; exact rfl) | (apply Wo.drop; exact rfl)))); (repeat refine ObP3.c0A ?_); try (refine ObP3.nil ?_; (repeat (intro _)); (conv => whnf); (try dsimp only [envO, List.cons_append, List.nil_append]))
      (repeat (first | refine vgo ?_ | refine ⟨_, rfl, rfl, ?_⟩ | refine ⟨_, rfl, ?_⟩ | refine ⟨rfl, ?_⟩ | intro hb | refine altA ?_ | refine altR ?_ | refine sideA ?_ | refine decTA ?_ | refine decFA ?_ | refine decNA ?_ | refine decBTA ?_ | refine decBFA ?_ | refine ⟨_, by assumption, ?_⟩ | refine ⟨_, _, _, rfl, ?_⟩ | refine WC.seq (fun K hK => ?_) | (refine hK _ _ _ ?_; clear hK K) | (refine hK _ _ _ _ rfl ?_; clear hK K) | (refine WX.thenExit (K := K) ?_; clear hK K) | (refine WX.thenExit (K := KL) ?_; clear hL KL)))
      refine WC.drawV (S := (box b3 56 (opC o n t d k) :: Sf)) ([[box h 159 [.int .i64 most, lv]], [own 56 24 lv l.length (opsC l)]]) rfl (by repeat (first | exact Wo.nil | (apply Wo.keep; exact rfl) | (apply Wo.drop; exact rfl))) (fun w sw => by (try simp only [List.flatten_cons, List.flatten_nil, List.append_nil, List.cons_append, List.nil_append]); exact sw.to) ?_; (try dsimp only [chunks])
      (repeat (first | refine ObP3.c0A ?_ | (apply ObP3.cons1 [1000] []; (focus ((repeat (intro _)); (conv => whnf); (try dsimp only [envO, List.cons_append, List.nil_append]); (repeat (first | refine vgo ?_ | refine ⟨_, rfl, rfl, ?_⟩ | refine ⟨_, rfl, ?_⟩ | refine ⟨rfl, ?_⟩ | intro hb | refine altA ?_ | refine altR ?_ | refine sideA ?_ | refine decTA ?_ | refine decFA ?_ | refine decNA ?_ | refine decBTA ?_ | refine decBFA ?_ | refine ⟨_, by assumption, ?_⟩ | refine ⟨_, _, _, rfl, ?_⟩ | refine WC.seq (fun K hK => ?_) | (refine hK _ _ _ ?_; clear hK K) | (refine hK _ _ _ _ rfl ?_; clear hK K) | (refine WX.thenExit (K := K) ?_; clear hK K) | (refine WX.thenExit (K := KL) ?_; clear hL KL))); first | exact WX.pgIs rfl | exact WX.pgRd rfl | exact WX.pgCell rfl | exact WX.pgNone | exact WX.pgOwn rfl)); exact rfl))); try (refine ObP3.nil ?_; (repeat (intro _)); (conv => whnf); (try dsimp only [envO, List.cons_append, List.nil_append]))
      (apply ObP3.cons1 [] [1001, 6]; (focus ((repeat (intro _)); (conv => whnf); (try dsimp only [envO, List.cons_append, List.nil_append]); (repeat (first | refine vgo ?_ | refine ⟨_, rfl, rfl, ?_⟩ | refine ⟨_, rfl, ?_⟩ | refine ⟨rfl, ?_⟩ | intro hb | refine altA ?_ | refine altR ?_ | refine sideA ?_ | refine decTA ?_ | refine decFA ?_ | refine decNA ?_ | refine decBTA ?_ | refine decBFA ?_ | refine ⟨_, by assumption, ?_⟩ | refine ⟨_, _, _, rfl, ?_⟩ | refine WC.seq (fun K hK => ?_) | (refine hK _ _ _ ?_; clear hK K) | (refine hK _ _ _ _ rfl ?_; clear hK K) | (refine WX.thenExit (K := K) ?_; clear hK K) | (refine WX.thenExit (K := KL) ?_; clear hL KL))); first | exact WX.pgHeadV rfl | exact WX.pgHead | exact WX.pgOwn rfl)); exact rfl)
      (repeat refine ObP3.c0B ?_); try (refine ObP3.nil ?_; (repeat (intro _)); (conv => whnf); (try dsimp only [envO, List.cons_append, List.nil_append]))
      refine ObP3.cons1 [] [1000, 7] (.ex Value (fun _ => undef) (fun _ => []) (fun u => [box h 159 [.int .i64 most, u], own 56 24 u (l.length + 1) (opsC l ++ opC o n t d k)])) ?_ rfl ?_
      · (repeat (intro _)); (conv => whnf); (try dsimp only [envO, List.cons_append, List.nil_append])
        (repeat (first | refine vgo ?_ | refine ⟨_, rfl, rfl, ?_⟩ | refine ⟨_, rfl, ?_⟩ | refine ⟨rfl, ?_⟩ | intro hb | refine altA ?_ | refine altR ?_ | refine sideA ?_ | refine decTA ?_ | refine decFA ?_ | refine decNA ?_ | refine decBTA ?_ | refine decBFA ?_ | refine ⟨_, by assumption, ?_⟩ | refine ⟨_, _, _, rfl, ?_⟩ | refine WC.seq (fun K hK => ?_) | (refine hK _ _ _ ?_; clear hK K) | (refine hK _ _ _ _ rfl ?_; clear hK K) | (refine WX.thenExit (K := K) ?_; clear hK K) | (refine WX.thenExit (K := KL) ?_; clear hL KL)))
        rename_i uu _ _ _
        exact WX.pgEx0 uu (fun w sw => sw.to)
      (repeat refine ObP3.c0B ?_); try (refine ObP3.nil ?_; (repeat (intro _)); (conv => whnf); (try dsimp only [envO, List.cons_append, List.nil_append]))
      (repeat (first | refine vgo ?_ | refine ⟨_, rfl, rfl, ?_⟩ | refine ⟨_, rfl, ?_⟩ | refine ⟨rfl, ?_⟩ | intro hb | refine altA ?_ | refine altR ?_ | refine sideA ?_ | refine decTA ?_ | refine decFA ?_ | refine decNA ?_ | refine decBTA ?_ | refine decBFA ?_ | refine ⟨_, by assumption, ?_⟩ | refine ⟨_, _, _, rfl, ?_⟩ | refine WC.seq (fun K hK => ?_) | (refine hK _ _ _ ?_; clear hK K) | (refine hK _ _ _ _ rfl ?_; clear hK K) | (refine WX.thenExit (K := K) ?_; clear hK K) | (refine WX.thenExit (K := KL) ?_; clear hL KL)))
      rename_i uh _ _ _ _
      refine WX.ret1 rfl rfl (fun w sw => ⟨_, _, ⟨uh, by rw [e1], rfl, rfl⟩, ?_⟩)
      rw [e2]
      have sw2 := sw.rdAllSnoc (R := Ty.sl Ty.u64) (l := l.map OpT.c) (vs := l.map OpT.d) (u := d) (a := c)
      have e3 : hG (l ++ [⟨o, n, t, c, d, k⟩]) = rdAll (Ty.sl Ty.u64) (l.map OpT.c ++ [c]) (l.map OpT.d ++ [d]) := by unfold hG; rw [List.map_append, List.map_append]; rfl
      have e4 : hRes h most uh (l ++ [⟨o, n, t, c, d, k⟩]) = [box h 159 [.int .i64 most, uh], own 56 24 uh (l.length + 1) (opsC l ++ opC o n t d k)] := by
        unfold hRes; rw [opsC_snoc, List.length_append]; rfl
      rw [e3, e4]
      exact sw2.to
def dueP (kn : List Nat) (x : OpT) : Bool := decide ((x.n : Int) = IntKind.u64.wrap ((getC kn x.o : Nat) + 1) ∧ withinL x.c kn)
theorem hdue_fun (x : OpT) (kn : List Nat) (kv : Value) (ho : 1 ≤ x.o) : Fun Try.prog 56 [x.V, kv] [rd (Ty.sl Ty.u64) x.c x.d, rd (Ty.sl Ty.u64) kn kv] [] (fun r G S => r = .bool (dueP kn x) ∧ G = [] ∧ S = []) := by
  obtain ⟨o, n, t, c, d, k⟩ := x
  dsimp only at ho ⊢
  have ho2 : -9223372036854775807 ≤ o := by omega
  refine Fun.enter Try.func56 (by kernel_rfl) rfl Try.ntmps56 rfl (fun B Gf Sf => ?_); (try simp only [List.cons_append]); (try simp only [List.nil_append]); simp only [argEnv]
  (repeat (first | refine vgo ?_ | refine ⟨_, rfl, rfl, ?_⟩ | refine ⟨_, rfl, ?_⟩ | refine ⟨rfl, ?_⟩ | intro hb | refine altA ?_ | refine altR ?_ | refine sideA ?_ | refine decTA ?_ | refine decFA ?_ | refine decNA ?_ | refine decBTA ?_ | refine decBFA ?_ | refine ⟨_, by assumption, ?_⟩ | refine ⟨_, _, _, rfl, ?_⟩ | refine WC.seq (fun K hK => ?_) | (refine hK _ _ _ ?_; clear hK K) | (refine hK _ _ _ _ rfl ?_; clear hK K) | (refine WX.thenExit (K := K) ?_; clear hK K) | (refine WX.thenExit (K := KL) ?_; clear hL KL)))
  (first | refine WL.boxA rfl rfl ?_ | refine WL.box rfl rfl rfl ?_); intro b3
  by_cases h1 : (n : Int) = IntKind.u64.wrap ((getC kn o : Nat) + 1)
  · have e : dueP kn ⟨o, n, t, c, d, k⟩ = decide (withinL c kn) := decide_eq_decide.2 ⟨fun h => h.2, fun h => ⟨h1, h⟩⟩
    (repeat (first | refine vgo ?_ | refine ⟨_, rfl, rfl, ?_⟩ | refine ⟨_, rfl, ?_⟩ | refine ⟨rfl, ?_⟩ | intro hb | refine altA ?_ | refine altR ?_ | refine sideA ?_ | refine decTA ?_ | refine decFA ?_ | refine decNA ?_ | refine decBTA ?_ | refine decBFA ?_ | refine ⟨_, by assumption, ?_⟩ | refine ⟨_, _, _, rfl, ?_⟩ | refine WC.seq (fun K hK => ?_) | (refine hK _ _ _ ?_; clear hK K) | (refine hK _ _ _ _ rfl ?_; clear hK K) | (refine WX.thenExit (K := K) ?_; clear hK K) | (refine WX.thenExit (K := KL) ?_; clear hL KL)))
    (apply WC.drawE; exact rfl; focus (repeat (first | exact Wo.nil | (apply Wo.keep; exact rfl) | (apply Wo.drop; exact rfl)))); (repeat refine ObP3.c0A ?_); try (refine ObP3.nil ?_; (repeat (intro _)); (conv => whnf); (try dsimp only [envO, List.cons_append, List.nil_append]))
    (repeat (first | refine vgo ?_ | refine ⟨_, rfl, rfl, ?_⟩ | refine ⟨_, rfl, ?_⟩ | refine ⟨rfl, ?_⟩ | intro hb | refine altA ?_ | refine altR ?_ | refine sideA ?_ | refine decTA ?_ | refine decFA ?_ | refine decNA ?_ | refine decBTA ?_ | refine decBFA ?_ | refine ⟨_, by assumption, ?_⟩ | refine ⟨_, _, _, rfl, ?_⟩ | refine WC.seq (fun K hK => ?_) | (refine hK _ _ _ ?_; clear hK K) | (refine hK _ _ _ _ rfl ?_; clear hK K) | (refine WX.thenExit (K := K) ?_; clear hK K) | (refine WX.thenExit (K := KL) ?_; clear hL KL)))
    exact WX.ret1 rfl rfl (fun w sw => ⟨_, _, ⟨by rw [e], rfl, rfl⟩, sw.to⟩)
  · have e : dueP kn ⟨o, n, t, c, d, k⟩ = false := decide_eq_false fun h => h1 h.1
    (repeat (first | refine vgo ?_ | refine ⟨_, rfl, rfl, ?_⟩ | refine ⟨_, rfl, ?_⟩ | refine ⟨rfl, ?_⟩ | intro hb | refine altA ?_ | refine altR ?_ | refine sideA ?_ | refine decTA ?_ | refine decFA ?_ | refine decNA ?_ | refine decBTA ?_ | refine decBFA ?_ | refine ⟨_, by assumption, ?_⟩ | refine ⟨_, _, _, rfl, ?_⟩ | refine WC.seq (fun K hK => ?_) | (refine hK _ _ _ ?_; clear hK K) | (refine hK _ _ _ _ rfl ?_; clear hK K) | (refine WX.thenExit (K := K) ?_; clear hK K) | (refine WX.thenExit (K := KL) ?_; clear hL KL)))
    (apply WC.drawE; exact rfl; focus (repeat (first | exact Wo.nil | (apply Wo.keep; exact rfl) | (apply Wo.drop; exact rfl)))); (repeat refine ObP3.c0A ?_); try (refine ObP3.nil ?_; (repeat (intro _)); (conv => whnf); (try dsimp only [envO, List.cons_append, List.nil_append]))
    (repeat (first | refine vgo ?_ | refine ⟨_, rfl, rfl, ?_⟩ | refine ⟨_, rfl, ?_⟩ | refine ⟨rfl, ?_⟩ | intro hb | refine altA ?_ | refine altR ?_ | refine sideA ?_ | refine decTA ?_ | refine decFA ?_ | refine decNA ?_ | refine decBTA ?_ | refine decBFA ?_ | refine ⟨_, by assumption, ?_⟩ | refine ⟨_, _, _, rfl, ?_⟩ | refine WC.seq (fun K hK => ?_) | (refine hK _ _ _ ?_; clear hK K) | (refine hK _ _ _ _ rfl ?_; clear hK K) | (refine WX.thenExit (K := K) ?_; clear hK K) | (refine WX.thenExit (K := KL) ?_; clear hL KL)))
    exact WX.ret1 rfl rfl (fun w sw => ⟨_, _, ⟨by rw [e], rfl, rfl⟩, sw.to⟩)
theorem hold_fun (x : OpT) (kn : List Nat) (kv : Value) (ho : 1 ≤ x.o) : Fun Try.prog 55 [x.V, kv] [rd (Ty.sl Ty.u64) x.c x.d, rd (Ty.sl Ty.u64) kn kv] [] (fun r G S => r = .bool (decide (x.n ≤ getC kn x.o)) ∧ G = [] ∧ S = []) := by
  obtain ⟨o, n, t, c, d, k⟩ := x
  dsimp only at ho ⊢
  have ho2 : -9223372036854775807 ≤ o := by omega
  refine Fun.enter Try.func55 (by kernel_rfl) rfl Try.ntmps55 rfl (fun B Gf Sf => ?_); (try simp only [List.cons_append]); (try simp only [List.nil_append]); simp only [argEnv]
  (repeat (first | refine vgo ?_ | refine ⟨_, rfl, rfl, ?_⟩ | refine ⟨_, rfl, ?_⟩ | refine ⟨rfl, ?_⟩ | intro hb | refine altA ?_ | refine altR ?_ | refine sideA ?_ | refine decTA ?_ | refine decFA ?_ | refine decNA ?_ | refine decBTA ?_ | refine decBFA ?_ | refine ⟨_, by assumption, ?_⟩ | refine ⟨_, _, _, rfl, ?_⟩ | refine WC.seq (fun K hK => ?_) | (refine hK _ _ _ ?_; clear hK K) | (refine hK _ _ _ _ rfl ?_; clear hK K) | (refine WX.thenExit (K := K) ?_; clear hK K) | (refine WX.thenExit (K := KL) ?_; clear hL KL)))
  (first | refine WL.boxA rfl rfl ?_ | refine WL.box rfl rfl rfl ?_); intro b3
  (repeat (first | refine vgo ?_ | refine ⟨_, rfl, rfl, ?_⟩ | refine ⟨_, rfl, ?_⟩ | refine ⟨rfl, ?_⟩ | intro hb | refine altA ?_ | refine altR ?_ | refine sideA ?_ | refine decTA ?_ | refine decFA ?_ | refine decNA ?_ | refine decBTA ?_ | refine decBFA ?_ | refine ⟨_, by assumption, ?_⟩ | refine ⟨_, _, _, rfl, ?_⟩ | refine WC.seq (fun K hK => ?_) | (refine hK _ _ _ ?_; clear hK K) | (refine hK _ _ _ _ rfl ?_; clear hK K) | (refine WX.thenExit (K := K) ?_; clear hK K) | (refine WX.thenExit (K := KL) ?_; clear hL KL)))
  (apply WC.drawE; exact rfl; focus (repeat (first | exact Wo.nil | (apply Wo.keep; exact rfl) | (apply Wo.drop; exact rfl)))); (repeat refine ObP3.c0A ?_); try (refine ObP3.nil ?_; (repeat (intro _)); (conv => whnf); (try dsimp only [envO, List.cons_append, List.nil_append]))
  (repeat (first | refine vgo ?_ | refine ⟨_, rfl, rfl, ?_⟩ | refine ⟨_, rfl, ?_⟩ | refine ⟨rfl, ?_⟩ | intro hb | refine altA ?_ | refine altR ?_ | refine sideA ?_ | refine decTA ?_ | refine decFA ?_ | refine decNA ?_ | refine decBTA ?_ | refine decBFA ?_ | refine ⟨_, by assumption, ?_⟩ | refine ⟨_, _, _, rfl, ?_⟩ | refine WC.seq (fun K hK => ?_) | (refine hK _ _ _ ?_; clear hK K) | (refine hK _ _ _ _ rfl ?_; clear hK K) | (refine WX.thenExit (K := K) ?_; clear hK K) | (refine WX.thenExit (K := KL) ?_; clear hL KL)))
  exact WX.ret1 rfl rfl (fun w sw => ⟨_, _, ⟨by congr 1; exact decide_eq_decide.2 Int.ofNat_le, rfl, rfl⟩, sw.to⟩)
theorem hnext1_fun (x : OpT) (kn : List Nat) (kv : Value) (bk : Nat) (ho : 1 ≤ x.o) : Fun Try.prog 107 [x.V, .pointer (some ⟨bk, 0, none⟩)] [rd (Ty.sl Ty.u64) x.c x.d, rd (Ty.sl Ty.u64) kn kv] [box bk 39 [kv]] (fun r G S => r = .bool (dueP kn x) ∧ G = [] ∧ S = [box bk 39 [kv]]) := by
  refine Fun.enter Try.func107 (by kernel_rfl) rfl Try.ntmps107 rfl (fun B Gf Sf => ?_); (try simp only [List.cons_append]); (try simp only [List.nil_append]); simp only [argEnv]
  (repeat (first | refine vgo ?_ | refine ⟨_, rfl, rfl, ?_⟩ | refine ⟨_, rfl, ?_⟩ | refine ⟨rfl, ?_⟩ | intro hb | refine altA ?_ | refine altR ?_ | refine sideA ?_ | refine decTA ?_ | refine decFA ?_ | refine decNA ?_ | refine decBTA ?_ | refine decBFA ?_ | refine ⟨_, by assumption, ?_⟩ | refine ⟨_, _, _, rfl, ?_⟩ | refine WC.seq (fun K hK => ?_) | (refine hK _ _ _ ?_; clear hK K) | (refine hK _ _ _ _ rfl ?_; clear hK K) | (refine WX.thenExit (K := K) ?_; clear hK K) | (refine WX.thenExit (K := KL) ?_; clear hL KL)))
  (first | refine WL.boxA rfl rfl ?_ | refine WL.box rfl rfl rfl ?_); intro b3
  (repeat (first | refine vgo ?_ | refine ⟨_, rfl, rfl, ?_⟩ | refine ⟨_, rfl, ?_⟩ | refine ⟨rfl, ?_⟩ | intro hb | refine altA ?_ | refine altR ?_ | refine sideA ?_ | refine decTA ?_ | refine decFA ?_ | refine decNA ?_ | refine decBTA ?_ | refine decBFA ?_ | refine ⟨_, by assumption, ?_⟩ | refine ⟨_, _, _, rfl, ?_⟩ | refine WC.seq (fun K hK => ?_) | (refine hK _ _ _ ?_; clear hK K) | (refine hK _ _ _ _ rfl ?_; clear hK K) | (refine WX.thenExit (K := K) ?_; clear hK K) | (refine WX.thenExit (K := KL) ?_; clear hL KL)))
  refine CallV.by' (hdue_fun x kn kv ho) ?_; rintro _ _ _ ⟨rfl, rfl, rfl⟩; (try simp only [List.cons_append]); (try simp only [List.nil_append])
  (repeat (first | refine vgo ?_ | refine ⟨_, rfl, rfl, ?_⟩ | refine ⟨_, rfl, ?_⟩ | refine ⟨rfl, ?_⟩ | intro hb | refine altA ?_ | refine altR ?_ | refine sideA ?_ | refine decTA ?_ | refine decFA ?_ | refine decNA ?_ | refine decBTA ?_ | refine decBFA ?_ | refine ⟨_, by assumption, ?_⟩ | refine ⟨_, _, _, rfl, ?_⟩ | refine WC.seq (fun K hK => ?_) | (refine hK _ _ _ ?_; clear hK K) | (refine hK _ _ _ _ rfl ?_; clear hK K) | (refine WX.thenExit (K := K) ?_; clear hK K) | (refine WX.thenExit (K := KL) ?_; clear hL KL)))
  exact WX.ret1 rfl rfl (fun w sw => ⟨_, _, ⟨rfl, rfl, rfl⟩, sw.to⟩)
theorem ops_one {B w : World} {G : List Pers} {S : List Res} {l : List OpT} (h : Sat B G S w) (hm : hG l ∈ G) : ∀ u ∈ opsC l, u.oneCell' = true := by
  have : ∀ x ∈ l, x.d.oneCell' = true := h.pure fun m hg => by
    have ha : AllR (Ty.sl Ty.u64) (l.map OpT.c) (l.map OpT.d) m := hg _ hm
    clear hm h
    induction l with
    | nil => intro x hx; cases hx
    | cons y l ih =>
      intro x hx
      rcases List.mem_cons.1 hx with rfl | hx
      · exact (Ty.sl Ty.u64).form ha.1
      · exact ih ha.2 x hx
  intro u hu
  unfold opsC at hu
  obtain ⟨x, hx, hu⟩ := List.mem_flatMap.1 hu
  have hd := this x hx
  simp only [OpT.C, opC, oTail, List.mem_cons, List.not_mem_nil, or_false] at hu
  rcases hu with rfl | rfl | rfl | rfl | rfl | rfl | rfl | rfl | rfl | rfl | rfl | rfl | rfl | rfl | rfl | rfl | rfl | rfl | rfl | rfl | rfl | rfl | rfl | rfl <;> first | rfl | exact hd
theorem idxI_cases {α : Type} (p : α → Bool) (l : List α) : idxI p l = -1 ∨ ∃ (i : Nat) (x : α), l[i]? = some x ∧ idxI p l = (i : Int) := by
  unfold idxI
  cases h : l.findIdx? p with
  | none => exact .inl rfl
  | some i =>
    rw [List.findIdx?_eq_some_iff_getElem] at h
    exact .inr ⟨i, _, List.getElem?_eq_getElem h.1, rfl⟩
theorem ops_erase : ∀ {l : List OpT} {i : Nat}, i < l.length → (opsC l).take (i * 24) ++ (opsC l).drop ((i + 1) * 24) = opsC (l.eraseIdx i)
  | [], _, h => by simp at h
  | y :: l, 0, _ => by
    unfold opsC
    rw [Nat.zero_mul, List.take_zero, List.nil_append, List.flatMap_cons, List.eraseIdx_cons_zero]
    exact List.drop_left' rfl
  | y :: l, i + 1, h => by
    have e := ops_erase (l := l) (i := i) (by simpa using h)
    have hy : (OpT.C y).length = 24 := rfl
    unfold opsC at e ⊢
    have ha : (OpT.C y ++ l.flatMap OpT.C).take ((i + 1) * 24) = OpT.C y ++ (l.flatMap OpT.C).take (i * 24) := by
      rw [List.take_append, List.take_of_length_le (by omega)]; congr 2; omega
    have hb : (OpT.C y ++ l.flatMap OpT.C).drop ((i + 1 + 1) * 24) = (l.flatMap OpT.C).drop ((i + 1) * 24) := by
      rw [List.drop_append, List.drop_of_length_le (by omega), List.nil_append]; congr 1; omega
    rw [List.eraseIdx_cons_succ, List.flatMap_cons, List.flatMap_cons, ← e, ha, hb, List.append_assoc]
theorem hG_erase {m : Hp} : ∀ {l : List OpT} {i : Nat}, AllR (Ty.sl Ty.u64) (l.map OpT.c) (l.map OpT.d) m → AllR (Ty.sl Ty.u64) ((l.eraseIdx i).map OpT.c) ((l.eraseIdx i).map OpT.d) m
  | [], _, _ => by simp [AllR]
  | _ :: _, 0, h => h.2
  | _ :: _, _ + 1, h => ⟨h.1, hG_erase h.2⟩
theorem hdelete1_fun (v : Value) (m i : Nat) (xs : List Value) (h1 : ∀ u ∈ xs, u.oneCell' = true) (hm : m ≤ 100000) (hj : i + 1 ≤ m) : Fun Try.prog 108 [v, .int .i64 i, .int .i64 ((i : Int) + 1)] [] [own 56 24 v m xs]
    (fun r G S => G = [] ∧ S = [own 56 24 r (m - 1) (xs.take (i * 24) ++ xs.drop ((i + 1) * 24))]) := by
  have h := hdelete_fun v m i (i + 1) xs h1 hm (by omega) hj
  rw [show i + 1 - i = 1 from by omega] at h
  exact h
abbrev zOp : OpT := ⟨0, 0, 0, [], .slice none 0 0, 0⟩
def nextOK (l : List OpT) (kn : List Nat) (l' : List OpT) (u : OpT) (b : Bool) : Prop := (∃ i : Nat, l[i]? = some u ∧ idxI (dueP kn) l = (i : Int) ∧ l' = l.eraseIdx i ∧ b = true) ∨ (idxI (dueP kn) l = -1 ∧ l' = l ∧ u = zOp ∧ b = false)
set_option maxHeartbeats 1600000 in
theorem hnext_fun (h most : Nat) (lv : Value) (l : List OpT) (kn : List Nat) (kv : Value) (hl : l.length ≤ 1000) (hlo : ∀ x ∈ l, 1 ≤ x.o) : Fun Try.prog 83 [.pointer (some ⟨h, 0, none⟩), kv] [hG l, rd (Ty.sl Ty.u64) kn kv] (hRes h most lv l)
    (fun r G S => ∃ lv' l' u b, r = .tuple #[u.V, .bool b] ∧ nextOK l kn l' u b ∧ G = [hG l', rd (Ty.sl Ty.u64) u.c u.d] ∧ S = hRes h most lv' l') := by
  refine Fun.enter Try.func83 (by kernel_rfl) rfl Try.ntmps83 rfl (fun B Gf Sf => ?_); (try simp only [List.cons_append]); (try simp only [List.nil_append]); simp only [argEnv]
  refine WC.ex (fun w sw => sw.slOne (v := kv) RdSl.h) (fun hkv => ?_)
  rcases idxI_cases (dueP kn) l with hidx | ⟨i, x, hx, hidx⟩
  · (repeat (first | refine vgo ?_ | refine ⟨_, rfl, rfl, ?_⟩ | refine ⟨_, rfl, ?_⟩ | refine ⟨rfl, ?_⟩ | intro hb | refine altA ?_ | refine altR ?_ | refine sideA ?_ | refine decTA ?_ | refine decFA ?_ | refine decNA ?_ | refine decBTA ?_ | refine decBFA ?_ | refine ⟨_, by assumption, ?_⟩ | refine ⟨_, _, _, rfl, ?_⟩ | refine WC.seq (fun K hK => ?_) | (refine hK _ _ _ ?_; clear hK K) | (refine hK _ _ _ _ rfl ?_; clear hK K) | (refine WX.thenExit (K := K) ?_; clear hK K) | (refine WX.thenExit (K := KL) ?_; clear hL KL)))
    (first | refine WL.boxA rfl rfl ?_ | refine WL.box rfl rfl rfl ?_); intro bk
    rw [hkv]
    (repeat (first | refine vgo ?_ | refine ⟨_, rfl, rfl, ?_⟩ | refine ⟨_, rfl, ?_⟩ | refine ⟨rfl, ?_⟩ | intro hb | refine altA ?_ | refine altR ?_ | refine sideA ?_ | refine decTA ?_ | refine decFA ?_ | refine decNA ?_ | refine decBTA ?_ | refine decBFA ?_ | refine ⟨_, by assumption, ?_⟩ | refine ⟨_, _, _, rfl, ?_⟩ | refine WC.seq (fun K hK => ?_) | (refine hK _ _ _ ?_; clear hK K) | (refine hK _ _ _ _ rfl ?_; clear hK K) | (refine WX.thenExit (K := K) ?_; clear hK K) | (refine WX.thenExit (K := KL) ?_; clear hL KL)))
    refine WL.alloc rfl ?_; intro b4
    (repeat (first | refine vgo ?_ | refine ⟨_, rfl, rfl, ?_⟩ | refine ⟨_, rfl, ?_⟩ | refine ⟨rfl, ?_⟩ | intro hb | refine altA ?_ | refine altR ?_ | refine sideA ?_ | refine decTA ?_ | refine decFA ?_ | refine decNA ?_ | refine decBTA ?_ | refine decBFA ?_ | refine ⟨_, by assumption, ?_⟩ | refine ⟨_, _, _, rfl, ?_⟩ | refine WC.seq (fun K hK => ?_) | (refine hK _ _ _ ?_; clear hK K) | (refine hK _ _ _ _ rfl ?_; clear hK K) | (refine WX.thenExit (K := K) ?_; clear hK K) | (refine WX.thenExit (K := KL) ?_; clear hL KL)))
    refine CallV.by' (hindex1_fun 107 (.pointer (some ⟨bk, 0, none⟩)) (box bk 39 [kv]) (rd (Ty.sl Ty.u64) kn kv) l (dueP kn) lv (by omega) (fun x hx => hnext1_fun x kn kv bk (hlo x hx))) ?_; rintro _ _ _ ⟨rfl, rfl, rfl⟩; (try simp only [List.cons_append]); (try simp only [List.nil_append])
    rw [hidx]
    (repeat (first | refine vgo ?_ | refine ⟨_, rfl, rfl, ?_⟩ | refine ⟨_, rfl, ?_⟩ | refine ⟨rfl, ?_⟩ | intro hb | refine altA ?_ | refine altR ?_ | refine sideA ?_ | refine decTA ?_ | refine decFA ?_ | refine decNA ?_ | refine decBTA ?_ | refine decBFA ?_ | refine ⟨_, by assumption, ?_⟩ | refine ⟨_, _, _, rfl, ?_⟩ | refine WC.seq (fun K hK => ?_) | (refine hK _ _ _ ?_; clear hK K) | (refine hK _ _ _ _ rfl ?_; clear hK K) | (refine WX.thenExit (K := K) ?_; clear hK K) | (refine WX.thenExit (K := KL) ?_; clear hL KL)))
    refine WX.retCT rfl rfl rfl rfl (fun w sw => ⟨_, _, ⟨lv, l, zOp, false, rfl, .inr ⟨hidx, rfl, rfl, rfl⟩, rfl, rfl⟩, ?_⟩)
    have sw2 : Sat B (rd (Ty.sl Ty.u64) [] (.slice none 0 0) :: _) _ w := sw.more fun _ _ => .inl ⟨rfl, none, 0, rfl, by simp, fun _ => rfl⟩
    exact sw2.to
  · have hil := (List.getElem?_eq_some_iff.1 hx).1
    refine WC.allGet (R := Ty.sl Ty.u64) (l := l.map OpT.c) (vs := l.map OpT.d) (i := i) (a := x.c) (.head _) (by rw [List.getElem?_map, hx]; rfl) (fun u hu => ?_)
    rw [List.getElem?_map, hx] at hu
    obtain rfl : x.d = u := Option.some.inj hu
    refine WC.ex (fun w sw => ops_one (l := l) sw (.tail _ (.head _))) (fun hone => ?_)
    (repeat (first | refine vgo ?_ | refine ⟨_, rfl, rfl, ?_⟩ | refine ⟨_, rfl, ?_⟩ | refine ⟨rfl, ?_⟩ | intro hb | refine altA ?_ | refine altR ?_ | refine sideA ?_ | refine decTA ?_ | refine decFA ?_ | refine decNA ?_ | refine decBTA ?_ | refine decBFA ?_ | refine ⟨_, by assumption, ?_⟩ | refine ⟨_, _, _, rfl, ?_⟩ | refine WC.seq (fun K hK => ?_) | (refine hK _ _ _ ?_; clear hK K) | (refine hK _ _ _ _ rfl ?_; clear hK K) | (refine WX.thenExit (K := K) ?_; clear hK K) | (refine WX.thenExit (K := KL) ?_; clear hL KL)))
    (first | refine WL.boxA rfl rfl ?_ | refine WL.box rfl rfl rfl ?_); intro bk
    rw [hkv]
    (repeat (first | refine vgo ?_ | refine ⟨_, rfl, rfl, ?_⟩ | refine ⟨_, rfl, ?_⟩ | refine ⟨rfl, ?_⟩ | intro hb | refine altA ?_ | refine altR ?_ | refine sideA ?_ | refine decTA ?_ | refine decFA ?_ | refine decNA ?_ | refine decBTA ?_ | refine decBFA ?_ | refine ⟨_, by assumption, ?_⟩ | refine ⟨_, _, _, rfl, ?_⟩ | refine WC.seq (fun K hK => ?_) | (refine hK _ _ _ ?_; clear hK K) | (refine hK _ _ _ _ rfl ?_; clear hK K) | (refine WX.thenExit (K := K) ?_; clear hK K) | (refine WX.thenExit (K := KL) ?_; clear hL KL)))
    refine WL.alloc rfl ?_; intro b4
    (repeat (first | refine vgo ?_ | refine ⟨_, rfl, rfl, ?_⟩ | refine ⟨_, rfl, ?_⟩ | refine ⟨rfl, ?_⟩ | intro hb | refine altA ?_ | refine altR ?_ | refine sideA ?_ | refine decTA ?_ | refine decFA ?_ | refine decNA ?_ | refine decBTA ?_ | refine decBFA ?_ | refine ⟨_, by assumption, ?_⟩ | refine ⟨_, _, _, rfl, ?_⟩ | refine WC.seq (fun K hK => ?_) | (refine hK _ _ _ ?_; clear hK K) | (refine hK _ _ _ _ rfl ?_; clear hK K) | (refine WX.thenExit (K := K) ?_; clear hK K) | (refine WX.thenExit (K := KL) ?_; clear hL KL)))
    refine CallV.by' (hindex1_fun 107 (.pointer (some ⟨bk, 0, none⟩)) (box bk 39 [kv]) (rd (Ty.sl Ty.u64) kn kv) l (dueP kn) lv (by omega) (fun x hx => hnext1_fun x kn kv bk (hlo x hx))) ?_; rintro _ _ _ ⟨rfl, rfl, rfl⟩; (try simp only [List.cons_append]); (try simp only [List.nil_append])
    rw [hidx]
    refine WL.openOwn (v := lv) (fun e m0 => by omega) (fun b cp cs e hmc hcp hcl hct => ?_)
    subst e
    obtain ⟨t, rfl⟩ : ∃ t, cs = opsC l ++ t := ⟨cs.drop (l.length * 24), by rw [← hct, List.take_append_drop]⟩
    have hol := opsC_len l
    have hseg := opsC_seg hx
    have is1 : SegC (opsC l ++ t) (i * 24) 24 x.C := ⟨by
      refine ⟨?_, rfl⟩
      rw [List.drop_append_of_le_length (by omega), List.take_append_of_le_length (by rw [List.length_drop]; omega), hseg]⟩
    (repeat (first | refine vgo ?_ | refine ⟨_, rfl, rfl, ?_⟩ | refine ⟨_, rfl, ?_⟩ | refine ⟨rfl, ?_⟩ | intro hb | refine altA ?_ | refine altR ?_ | refine sideA ?_ | refine decTA ?_ | refine decFA ?_ | refine decNA ?_ | refine decBTA ?_ | refine decBFA ?_ | refine ⟨_, by assumption, ?_⟩ | refine ⟨_, _, _, rfl, ?_⟩ | refine WC.seq (fun K hK => ?_) | (refine hK _ _ _ ?_; clear hK K) | (refine hK _ _ _ _ rfl ?_; clear hK K) | (refine WX.thenExit (K := K) ?_; clear hK K) | (refine WX.thenExit (K := KL) ?_; clear hL KL)))
    refine WL.alloc rfl ?_; intro b7
    (repeat (first | refine vgo ?_ | refine ⟨_, rfl, rfl, ?_⟩ | refine ⟨_, rfl, ?_⟩ | refine ⟨rfl, ?_⟩ | intro hb | refine altA ?_ | refine altR ?_ | refine sideA ?_ | refine decTA ?_ | refine decFA ?_ | refine decNA ?_ | refine decBTA ?_ | refine decBFA ?_ | refine ⟨_, by assumption, ?_⟩ | refine ⟨_, _, _, rfl, ?_⟩ | refine WC.seq (fun K hK => ?_) | (refine hK _ _ _ ?_; clear hK K) | (refine hK _ _ _ _ rfl ?_; clear hK K) | (refine WX.thenExit (K := K) ?_; clear hK K) | (refine WX.thenExit (K := KL) ?_; clear hL KL)))
    refine CallV.sat (fun w sw => sw.closeOwn (b := b) (cp := cp) 24 l.length hcl hmc hcp) ?_
    rw [hct]
    refine CallV.by' (hclone_fun (.slice (some ⟨b, 0, none⟩) l.length cp) l.length (opsC l) hone (by omega)) ?_; rintro _ _ _ ⟨rfl, rfl⟩; (try simp only [List.cons_append]); (try simp only [List.nil_append])
    rename_i vc
    (repeat (first | refine vgo ?_ | refine ⟨_, rfl, rfl, ?_⟩ | refine ⟨_, rfl, ?_⟩ | refine ⟨rfl, ?_⟩ | intro hb | refine altA ?_ | refine altR ?_ | refine sideA ?_ | refine decTA ?_ | refine decFA ?_ | refine decNA ?_ | refine decBTA ?_ | refine decBFA ?_ | refine ⟨_, by assumption, ?_⟩ | refine ⟨_, _, _, rfl, ?_⟩ | refine WC.seq (fun K hK => ?_) | (refine hK _ _ _ ?_; clear hK K) | (refine hK _ _ _ _ rfl ?_; clear hK K) | (refine WX.thenExit (K := K) ?_; clear hK K) | (refine WX.thenExit (K := KL) ?_; clear hL KL)))
    refine CallV.by' (hdelete1_fun vc l.length i (opsC l) hone (by omega) (by omega)) ?_; rintro _ _ _ ⟨rfl, rfl⟩; (try simp only [List.cons_append]); (try simp only [List.nil_append])
    rename_i vd
    rw [ops_erase hil]
    (repeat (first | refine vgo ?_ | refine ⟨_, rfl, rfl, ?_⟩ | refine ⟨_, rfl, ?_⟩ | refine ⟨rfl, ?_⟩ | intro hb | refine altA ?_ | refine altR ?_ | refine sideA ?_ | refine decTA ?_ | refine decFA ?_ | refine decNA ?_ | refine decBTA ?_ | refine decBFA ?_ | refine ⟨_, by assumption, ?_⟩ | refine ⟨_, _, _, rfl, ?_⟩ | refine WC.seq (fun K hK => ?_) | (refine hK _ _ _ ?_; clear hK K) | (refine hK _ _ _ _ rfl ?_; clear hK K) | (refine WX.thenExit (K := K) ?_; clear hK K) | (refine WX.thenExit (K := KL) ?_; clear hL KL)))
    refine WX.retCT rfl rfl rfl rfl (fun w sw => ⟨_, _, ⟨vd, l.eraseIdx i, x, true, rfl, .inl ⟨i, hx, hidx, rfl, rfl⟩, rfl, rfl⟩, ?_⟩)
    have sw2 : Sat B (hG (l.eraseIdx i) :: _) _ w := sw.more fun m hm => hG_erase (i := i) (hm (hG l) (.tail _ (.head _)))
    have e4 : hRes h most vd (l.eraseIdx i) = [box h 159 [.int .i64 most, vd], own 56 24 vd (l.length - 1) (opsC (l.eraseIdx i))] := by
      unfold hRes; rw [List.length_eraseIdx_of_lt hil]
    rw [e4]
    exact sw2.to
end
end Go.Qd
