/-
  Delivery: the program's engine.
-/
import Derived.Test.YtijebmblhakbpaaPCau3
namespace Go.Qd
/-! ### Delivery: the program's engine. -/
section
open Go Go.Proofs
def WOpT (x : OpT) : Prop := (1 ≤ x.o ∧ x.o ≤ 4) ∧ (1 ≤ x.n ∧ x.n ≤ 1000) ∧ (1 ≤ x.t ∧ x.t ≤ 1099511627776) ∧ x.c.length ≤ 64 ∧ getC x.c x.o + 1 = x.n ∧ x.k = 1
theorem putC_keys : ∀ (M : List LgE) (k : Int) (p : Value × List OpT) (a : Int), a ∈ (putM M k p).map (·.1) ↔ a = k ∨ a ∈ M.map (·.1)
  | [], k, p, a => by simp [putM]
  | e :: M, k, p, a => by
    rw [putM]
    by_cases h : e.1 = k
    · rw [if_pos h, List.map_cons, List.map_cons, List.mem_cons, List.mem_cons, h]
      constructor
      · rintro (h1 | h1)
        · exact .inl h1
        · exact .inr (.inr h1)
      · rintro (h1 | h1 | h1)
        · exact .inl h1
        · exact .inl h1
        · exact .inr h1
    · rw [if_neg h, List.map_cons, List.map_cons, List.mem_cons, List.mem_cons, putC_keys M k p a]
      constructor
      · rintro (h1 | h1 | h1)
        · exact .inr (.inl h1)
        · exact .inl h1
        · exact .inr (.inr h1)
      · rintro (h1 | h1 | h1)
        · exact .inr (.inl h1)
        · exact .inl h1
        · exact .inr (.inr h1)
theorem putC_nd : ∀ {M : List LgE} {k : Int} {p : Value × List OpT}, (M.map (·.1)).Nodup → ((putM M k p).map (·.1)).Nodup
  | [], k, p, _ => by simp [putM]
  | e :: M, k, p, h => by
    obtain ⟨h1, h2⟩ := List.nodup_cons.1 h
    rw [putM]
    by_cases h3 : e.1 = k
    · rw [if_pos h3, List.map_cons, List.nodup_cons]
      exact ⟨by rw [← h3]; exact h1, h2⟩
    · rw [if_neg h3, List.map_cons, List.nodup_cons]
      refine ⟨fun h4 => ?_, putC_nd h2⟩
      rcases (putC_keys M k p e.1).1 h4 with h5 | h5
      · exact h3 h5
      · exact h1 h5
theorem lenC_put (M : List LgE) (a : Int) (v : Value) (l : List OpT) (k : Int) : lenK (putM M a (v, l)) k = if k = a then l.length else lenK M k := by
  unfold lenK
  rw [getM_putL]
  by_cases h : k = a
  · rw [if_pos h, if_pos h]
  · rw [if_neg h, if_neg h]
theorem nodup_le : ∀ (n : Nat) {l : List Int}, l.Nodup → (∀ k ∈ l, 1 ≤ k ∧ k ≤ n) → l.length ≤ n
  | 0, [], _, _ => Nat.le_refl _
  | 0, k :: l, _, h => by have := h k (.head _); omega
  | n + 1, l, hn, h => by
    by_cases hm : ((n : Int) + 1) ∈ l
    · obtain ⟨i, hi⟩ := List.mem_iff_getElem?.1 hm
      have hp := perm_eraseIdx hi
      have hn2 := (hp.nodup_iff).1 hn
      obtain ⟨h1, h2⟩ := List.nodup_cons.1 hn2
      have ih := nodup_le n h2 fun k hk => by
        have h3 := h k (hp.mem_iff.2 (.tail _ hk))
        have h4 : k ≠ (n : Int) + 1 := fun e => h1 (e ▸ hk)
        omega
      have := hp.length_eq
      rw [List.length_cons] at this
      omega
    · have ih := nodup_le n hn fun k hk => by
        have h3 := h k hk
        have h4 : k ≠ (n : Int) + 1 := fun e => hm (e ▸ hk)
        omega
      omega
structure PEok (kn : List Nat) (M : List LgE) (l : List OpT) (t hm : Nat) : Prop where
  ok : LgOk M []
  k4 : ∀ k ∈ M.map (·.1), 1 ≤ k ∧ k ≤ 4
  kl : kn.length ≤ 64
  kn : ∀ k, getC kn k = lenK M k
  t : t ≤ 1099511627776
  ll : l.length ≤ hm
  hm : hm ≤ 999
  l : ∀ x ∈ l, WOpT x
/-- What is known behind an operation. -/
def StepC (a : List Nat) (x : OpT) (b : List Nat) : Prop := withinL x.c a ∧ x.n = getC a x.o + 1 ∧ (∀ k, getC b k = if k = x.o then x.n else getC a k) ∧ b.length ≤ 64 ∧ WOpT x
inductive Chain : List Nat → List OpT → List Nat → Prop
  | nil (a : List Nat) : Chain a [] a
  | cons {a b c : List Nat} {x : OpT} {xs : List OpT} : StepC a x b → Chain b xs c → Chain a (x :: xs) c
theorem Chain.snoc {a b c : List Nat} {x : OpT} {xs : List OpT} (h : Chain a xs b) (hs : StepC b x c) : Chain a (xs ++ [x]) c := by
  induction h with
  | nil a => exact .cons hs (.nil _)
  | cons h1 _ ih => exact .cons h1 (ih hs)
section
variable {kn : List Nat} {M : List LgE} {l : List OpT} {t hm : Nat}
theorem PEok.size (h : PEok kn M l t hm) : sizeM M ≤ 100000 := by
  have h1 := sum_le (h := lenK M) (b := 1000) (l := M.map (·.1)) (fun k _ => h.ok.le k)
  have h2 := h.ok.ml
  unfold sizeM
  rw [List.length_map] at h1
  omega
theorem getC_nil (k : Int) : getC [] k = 0 := by unfold getC; split <;> simp
theorem PEok.add (h : PEok kn M l t hm) {x : OpT} (hx : WOpT x) (hn : x.n = getC kn x.o + 1) (v' : Value) : PEok (trimL (withL kn x.o x.n)) (putM M x.o (v', listK M x.o ++ [x])) l (max t x.t) hm ∧ (∀ k, getC (trimL (withL kn x.o x.n)) k = if k = x.o then x.n else getC kn k) := by
  have hg : ∀ k, getC (trimL (withL kn x.o x.n)) k = if k = x.o then x.n else getC kn k := fun k => by rw [getCT, withL_get kn x.o x.n hx.1.1 k]
  have hl : ∀ k, lenK (putM M x.o (v', listK M x.o ++ [x])) k = if k = x.o then x.n else lenK M k := fun k => by
    rw [lenC_put, List.length_append, listK_len, List.length_singleton]
    by_cases e : k = x.o
    · rw [if_pos e, if_pos e, hn, h.kn]
    · rw [if_neg e, if_neg e]
  have hk : ∀ k ∈ (putM M x.o (v', listK M x.o ++ [x])).map (·.1), 1 ≤ k ∧ k ≤ 4 := fun k hk => by
    rcases (putC_keys _ _ _ _).1 hk with rfl | h1
    · exact hx.1
    · exact h.k4 k h1
  have hnd := putC_nd (k := x.o) (p := (v', listK M x.o ++ [x])) h.ok.nd
  have hml := nodup_le 4 hnd hk
  rw [List.length_map] at hml
  refine ⟨⟨⟨hnd, fun k hk' => by have := hk k hk'; omega, fun k => ?_, Nat.zero_le _, fun k => by rw [getC_nil]; exact Nat.zero_le _, by omega⟩, hk, ?_, fun k => ?_, ?_, h.ll, h.hm, h.l⟩, hg⟩
  · rw [hl]
    split
    · exact hx.2.1.2
    · exact h.ok.le k
  · exact Nat.le_trans (trimL_length _) (withL_len kn x.o x.n h.kl (by have := hx.1.2; omega))
  · rw [hg, hl, h.kn]
  · have := h.t; have := hx.2.2.1.2; omega
end
structure CE where
  s : Int
  n : Int
  lg : Int
  hd : Int
  mt : Nat
  mn : Nat
  g : Nat
  h : Nat
abbrev ceB (q : Nat) (c : CE) (t : Nat) (kv : Value) : Res := box q 133 [.int .i64 c.s, .int .i64 c.n, .int .i64 c.lg, .int .i64 c.hd, .int .u64 (c.mt : Int), .int .u64 (c.mn : Int), .int .u64 (t : Int), kv, .pointer (some ⟨c.g, 0, none⟩), .pointer (some ⟨c.h, 0, none⟩)]
abbrev nlV : Value := .slice none 0 0
theorem addE_z {most : Int} {M : List LgE} {x : OpT} (h : addE most [] M x = 0) : x.n = lenK M x.o + 1 := by
  unfold addE at h
  rw [getC_nil] at h
  split at h
  · cases h
  split at h
  · cases h
  split at h
  · cases h
  omega
theorem PEok.addE0 {kn : List Nat} {M : List LgE} {l : List OpT} {t hm : Nat} (h : PEok kn M l t hm) {x : OpT} (hx : WOpT x) (hn : x.n = getC kn x.o + 1) {lm : Int} (hr : 0 < lm - (sizeM M : Int)) : addE lm [] M x = 0 := by
  have h1 := h.kn x.o
  unfold addE
  rw [getC_nil, if_neg (by have := hx.2.1; have := hx.2.2.1; omega), if_neg (by omega), if_neg (by omega), if_neg (by omega)]
set_option maxHeartbeats 6400000 in
set_option synthInstance.maxSize 2000 in
set_option synthInstance.maxHeartbeats 400000 in
theorem cdeliver_fun (q : Nat) (c : CE) (t0 : Nat) (kn : List Nat) (kv : Value) (r : Nat) (lm : Int) (M : List LgE) (l : List OpT) (hm : Nat) (x : OpT) (ok : PEok kn M l t0 hm) (hx : WOpT x) (hlm : 0 ≤ lm ∧ lm ≤ 1000) :
    Fun Try.prog 58 [.pointer (some ⟨q, 0, none⟩), x.V] [rd (Ty.sl Ty.u64) [] nlV, rd (Ty.sl Ty.u64) kn kv, rd (Ty.sl Ty.u64) x.c x.d] [ceB q c t0 kv, lgB c.g lm nlV r, lgM r M, lgO M]
      (fun z G S => ∃ (n' : Int) (kn' : List Nat) (kv' : Value) (M' : List LgE) (t' : Nat), z = .int .i64 n' ∧ PEok kn' M' l t' hm ∧ ((n' ≠ 0 ∧ kn' = kn ∧ addE lm [] M x ≠ 0) ∨ (n' = 0 ∧ x.n = getC kn x.o + 1 ∧ (∀ k, getC kn' k = if k = x.o then x.n else getC kn k) ∧ kn'.length ≤ 64)) ∧ G = [rd (Ty.sl Ty.u64) kn' kv'] ∧ S = [ceB q c t' kv', lgB c.g lm nlV r, lgM r M', lgO M']) := by
  have hsz := ok.size
  have hkl := ok.kl
  have hadd := fun hn v' => ok.add hx hn v'
  obtain ⟨cs, cn, clg, chd, cmt, cmn, cg, ch⟩ := c
  obtain ⟨o, n, t, cl, d, k⟩ := x
  obtain ⟨⟨a1, a2⟩, ⟨a3, a4⟩, ⟨a5, a6⟩, a7, a8, rfl⟩ := hx
  dsimp only at *
  refine Fun.enter Try.func58 (by kernel_rfl) rfl Try.ntmps58 rfl (fun B Gf Sf => ?_); (try simp only [List.cons_append]); (try simp only [List.nil_append]); simp only [argEnv]
  refine WC.ex (fun w sw => sw.slOne (v := d) (R := Ty.u64) (l := cl) (by simp)) (fun hxd => ?_)
  refine WC.ex (fun w sw => sw.slOne (v := kv) (R := Ty.u64) (l := kn) (by simp)) (fun hkv => ?_)
  (repeat (first | refine vgo ?_ | refine ⟨_, rfl, rfl, ?_⟩ | refine ⟨_, rfl, ?_⟩ | refine ⟨rfl, ?_⟩ | intro hb | refine altA ?_ | refine altR ?_ | refine sideA ?_ | refine decTA ?_ | refine decFA ?_ | refine decNA ?_ | refine decBTA ?_ | refine decBFA ?_ | refine ⟨_, by assumption, ?_⟩ | refine ⟨_, _, _, rfl, ?_⟩ | refine WC.seq (fun K hK => ?_) | (refine hK _ _ _ ?_; clear hK K) | (refine hK _ _ _ _ rfl ?_; clear hK K) | (refine WX.thenExit (K := K) ?_; clear hK K) | (refine WX.thenExit (K := KL) ?_; clear hL KL)))
  (first | refine WL.boxA rfl rfl ?_ | refine WL.box rfl rfl rfl ?_); intro b3
  (repeat (first | refine vgo ?_ | refine ⟨_, rfl, rfl, ?_⟩ | refine ⟨_, rfl, ?_⟩ | refine ⟨rfl, ?_⟩ | intro hb | refine altA ?_ | refine altR ?_ | refine sideA ?_ | refine decTA ?_ | refine decFA ?_ | refine decNA ?_ | refine decBTA ?_ | refine decBFA ?_ | refine ⟨_, by assumption, ?_⟩ | refine ⟨_, _, _, rfl, ?_⟩ | refine WC.seq (fun K hK => ?_) | (refine hK _ _ _ ?_; clear hK K) | (refine hK _ _ _ _ rfl ?_; clear hK K) | (refine WX.thenExit (K := K) ?_; clear hK K) | (refine WX.thenExit (K := KL) ?_; clear hL KL)))
  obtain ⟨en, hen⟩ : ∃ en, en = addE lm [] M ⟨o, n, t, cl, d, 1⟩ := ⟨_, rfl⟩
  refine WC.drawV (S := (box b3 56 (opC o n t d 1) :: ceB q ⟨cs, cn, clg, chd, cmt, cmn, cg, ch⟩ t0 kv :: Sf)) ([[lgB cg lm nlV r, lgM r M, lgO M]]) rfl (by repeat (first | exact Wo.nil | (apply Wo.keep; exact rfl) | (apply Wo.drop; exact rfl))) (fun w sw => by (try simp only [List.flatten_cons, List.flatten_nil, List.append_nil, List.cons_append, List.nil_append]); exact sw.to) ?_; (try dsimp only [chunks])
  (repeat refine ObP3.c0A ?_); try (refine ObP3.nil ?_; (repeat (intro _)); (conv => whnf); (try dsimp only [envO, List.cons_append, List.nil_append]))
  refine ObP3.cons1 [] [1000] (.ex {M' : List LgE // addTo lm [] M ⟨o, n, t, cl, d, 1⟩ M'} (fun _ => .int .i64 en) (fun _ => []) (fun p => [lgB cg lm nlV r, lgM r p.1, lgO p.1])) ?_ rfl ?_
  · (repeat (intro _)); (conv => whnf); (try dsimp only [envO, List.cons_append, List.nil_append])
    (repeat (first | refine vgo ?_ | refine ⟨_, rfl, rfl, ?_⟩ | refine ⟨_, rfl, ?_⟩ | refine ⟨rfl, ?_⟩ | intro hb | refine altA ?_ | refine altR ?_ | refine sideA ?_ | refine decTA ?_ | refine decFA ?_ | refine decNA ?_ | refine decBTA ?_ | refine decBFA ?_ | refine ⟨_, by assumption, ?_⟩ | refine ⟨_, _, _, rfl, ?_⟩ | refine WC.seq (fun K hK => ?_) | (refine hK _ _ _ ?_; clear hK K) | (refine hK _ _ _ _ rfl ?_; clear hK K) | (refine WX.thenExit (K := K) ?_; clear hK K) | (refine WX.thenExit (K := KL) ?_; clear hL KL)))
    refine CallV.by' (lgadd_fun cg r lm [] nlV M ok.ok hlm hsz o n t cl d ⟨by omega, by omega⟩ a6 (by omega) a7 (fun _ => a8)) ?_; rintro _ _ _ ⟨M', rfl, hto, rfl, rfl⟩; (try simp only [List.cons_append]); (try simp only [List.nil_append])
    rw [← hen]
    (repeat (first | refine vgo ?_ | refine ⟨_, rfl, rfl, ?_⟩ | refine ⟨_, rfl, ?_⟩ | refine ⟨rfl, ?_⟩ | intro hb | refine altA ?_ | refine altR ?_ | refine sideA ?_ | refine decTA ?_ | refine decFA ?_ | refine decNA ?_ | refine decBTA ?_ | refine decBFA ?_ | refine ⟨_, by assumption, ?_⟩ | refine ⟨_, _, _, rfl, ?_⟩ | refine WC.seq (fun K hK => ?_) | (refine hK _ _ _ ?_; clear hK K) | (refine hK _ _ _ _ rfl ?_; clear hK K) | (refine WX.thenExit (K := K) ?_; clear hK K) | (refine WX.thenExit (K := KL) ?_; clear hL KL)))
    exact WX.pgEx (fv := fun _ => .int .i64 en) ⟨M', hto⟩ rfl (fun w sw => sw.to)
  (repeat refine ObP3.c0B ?_); try (refine ObP3.nil ?_; (repeat (intro _)); (conv => whnf); (try dsimp only [envO, List.cons_append, List.nil_append]))
  rename_i pM _
  obtain ⟨M', hto⟩ := pM
  by_cases he : en = 0
  · have hn : n = getC kn o + 1 := by
      have := addE_z (hen ▸ he)
      rw [ok.kn]; exact this
    obtain ⟨v', rfl⟩ : ∃ v', M' = putM M o (v', listK M o ++ [⟨o, n, t, cl, d, 1⟩]) := by
      rcases hto with ⟨h1, _⟩ | ⟨_, h2⟩
      · exact absurd (hen ▸ he) h1
      · exact h2
    obtain ⟨ok2, hg2⟩ := hadd hn v'
    obtain ⟨k2, hk2⟩ : ∃ k2, k2 = trimL (withL kn o n) := ⟨_, rfl⟩
    rw [← hk2] at ok2 hg2
    subst he
    (repeat (first | refine vgo ?_ | refine ⟨_, rfl, rfl, ?_⟩ | refine ⟨_, rfl, ?_⟩ | refine ⟨rfl, ?_⟩ | intro hb | refine altA ?_ | refine altR ?_ | refine sideA ?_ | refine decTA ?_ | refine decFA ?_ | refine decNA ?_ | refine decBTA ?_ | refine decBFA ?_ | refine ⟨_, by assumption, ?_⟩ | refine ⟨_, _, _, rfl, ?_⟩ | refine WC.seq (fun K hK => ?_) | (refine hK _ _ _ ?_; clear hK K) | (refine hK _ _ _ _ rfl ?_; clear hK K) | (refine WX.thenExit (K := K) ?_; clear hK K) | (refine WX.thenExit (K := KL) ?_; clear hL KL)))
    refine WC.drawV (S := (lgB cg lm nlV r :: lgM r (putM M o (v', listK M o ++ [⟨o, n, t, cl, d, 1⟩])) :: lgO (putM M o (v', listK M o ++ [⟨o, n, t, cl, d, 1⟩])) :: box b3 56 (opC o n t d 1) :: Sf)) ([[ceB q ⟨cs, cn, clg, chd, cmt, cmn, cg, ch⟩ t0 kv]]) rfl (by repeat (first | exact Wo.nil | (apply Wo.keep; exact rfl) | (apply Wo.drop; exact rfl))) (fun w sw => by (try simp only [List.flatten_cons, List.flatten_nil, List.append_nil, List.cons_append, List.nil_append]); exact sw.to) ?_; (try dsimp only [chunks])
    (repeat (first | refine ObP3.c0A ?_ | (apply ObP3.cons1 [1000] []; (focus ((repeat (intro _)); (conv => whnf); (try dsimp only [envO, List.cons_append, List.nil_append]); (repeat (first | refine vgo ?_ | refine ⟨_, rfl, rfl, ?_⟩ | refine ⟨_, rfl, ?_⟩ | refine ⟨rfl, ?_⟩ | intro hb | refine altA ?_ | refine altR ?_ | refine sideA ?_ | refine decTA ?_ | refine decFA ?_ | refine decNA ?_ | refine decBTA ?_ | refine decBFA ?_ | refine ⟨_, by assumption, ?_⟩ | refine ⟨_, _, _, rfl, ?_⟩ | refine WC.seq (fun K hK => ?_) | (refine hK _ _ _ ?_; clear hK K) | (refine hK _ _ _ _ rfl ?_; clear hK K) | (refine WX.thenExit (K := K) ?_; clear hK K) | (refine WX.thenExit (K := KL) ?_; clear hL KL))); first | exact WX.pgIs rfl | exact WX.pgRd rfl | exact WX.pgCell rfl | exact WX.pgNone | exact WX.pgOwn rfl)); exact rfl))); try (refine ObP3.nil ?_; (repeat (intro _)); (conv => whnf); (try dsimp only [envO, List.cons_append, List.nil_append]))
    refine ObP3.cons1 [] [] (.ex Value (fun u => u) (fun u => [rd (Ty.sl Ty.u64) k2 u]) (fun _ => [])) ?_ rfl ?_
    · (repeat (intro _)); (conv => whnf); (try dsimp only [envO, List.cons_append, List.nil_append])
      (repeat (first | refine vgo ?_ | refine ⟨_, rfl, rfl, ?_⟩ | refine ⟨_, rfl, ?_⟩ | refine ⟨rfl, ?_⟩ | intro hb | refine altA ?_ | refine altR ?_ | refine sideA ?_ | refine decTA ?_ | refine decFA ?_ | refine decNA ?_ | refine decBTA ?_ | refine decBFA ?_ | refine ⟨_, by assumption, ?_⟩ | refine ⟨_, _, _, rfl, ?_⟩ | refine WC.seq (fun K hK => ?_) | (refine hK _ _ _ ?_; clear hK K) | (refine hK _ _ _ _ rfl ?_; clear hK K) | (refine WX.thenExit (K := K) ?_; clear hK K) | (refine WX.thenExit (K := KL) ?_; clear hL KL)))
      refine CallV.by' (with_fun kn kv o n (by omega) (by omega) (by omega) (by omega)) ?_; rintro _ _ _ ⟨rfl, rfl⟩; (try simp only [List.cons_append]); (try simp only [List.nil_append])
      rw [← hk2]
      (repeat (first | refine vgo ?_ | refine ⟨_, rfl, rfl, ?_⟩ | refine ⟨_, rfl, ?_⟩ | refine ⟨rfl, ?_⟩ | intro hb | refine altA ?_ | refine altR ?_ | refine sideA ?_ | refine decTA ?_ | refine decFA ?_ | refine decNA ?_ | refine decBTA ?_ | refine decBFA ?_ | refine ⟨_, by assumption, ?_⟩ | refine ⟨_, _, _, rfl, ?_⟩ | refine WC.seq (fun K hK => ?_) | (refine hK _ _ _ ?_; clear hK K) | (refine hK _ _ _ _ rfl ?_; clear hK K) | (refine WX.thenExit (K := K) ?_; clear hK K) | (refine WX.thenExit (K := KL) ?_; clear hL KL)))
      exact WX.pgEx (fv := fun u => u) _ rfl (fun w sw => sw.to)
    (repeat (first | refine ObP3.c0A ?_ | (apply ObP3.cons1 [1000] []; (focus ((repeat (intro _)); (conv => whnf); (try dsimp only [envO, List.cons_append, List.nil_append]); (repeat (first | refine vgo ?_ | refine ⟨_, rfl, rfl, ?_⟩ | refine ⟨_, rfl, ?_⟩ | refine ⟨rfl, ?_⟩ | intro hb | refine altA ?_ | refine altR ?_ | refine sideA ?_ | refine decTA ?_ | refine decFA ?_ | refine decNA ?_ | refine decBTA ?_ | refine decBFA ?_ | refine ⟨_, by assumption, ?_⟩ | refine ⟨_, _, _, rfl, ?_⟩ | refine WC.seq (fun K hK => ?_) | (refine hK _ _ _ ?_; clear hK K) | (refine hK _ _ _ _ rfl ?_; clear hK K) | (refine WX.thenExit (K := K) ?_; clear hK K) | (refine WX.thenExit (K := KL) ?_; clear hL KL))); first | exact WX.pgIs rfl | exact WX.pgRd rfl | exact WX.pgCell rfl | exact WX.pgNone | exact WX.pgOwn rfl)); exact rfl))); try (refine ObP3.nil ?_; (repeat (intro _)); (conv => whnf); (try dsimp only [envO, List.cons_append, List.nil_append]))
    refine ObP3.cons1 [9] [1000] (.ex Value (fun _ => undef) (fun u => [rd (Ty.sl Ty.u64) k2 u]) (fun u => [ceB q ⟨cs, cn, clg, chd, cmt, cmn, cg, ch⟩ t0 u])) ?_ rfl ?_
    · (repeat (intro _)); (conv => whnf); (try dsimp only [envO, List.cons_append, List.nil_append])
      (repeat (first | refine vgo ?_ | refine ⟨_, rfl, rfl, ?_⟩ | refine ⟨_, rfl, ?_⟩ | refine ⟨rfl, ?_⟩ | intro hb | refine altA ?_ | refine altR ?_ | refine sideA ?_ | refine decTA ?_ | refine decFA ?_ | refine decNA ?_ | refine decBTA ?_ | refine decBFA ?_ | refine ⟨_, by assumption, ?_⟩ | refine ⟨_, _, _, rfl, ?_⟩ | refine WC.seq (fun K hK => ?_) | (refine hK _ _ _ ?_; clear hK K) | (refine hK _ _ _ _ rfl ?_; clear hK K) | (refine WX.thenExit (K := K) ?_; clear hK K) | (refine WX.thenExit (K := KL) ?_; clear hL KL)))
      rename_i u1 _
      exact WX.pgEx0 u1 (fun w sw => sw.to)
    (repeat refine ObP3.c0B ?_); try (refine ObP3.nil ?_; (repeat (intro _)); (conv => whnf); (try dsimp only [envO, List.cons_append, List.nil_append]))
    rename_i u7 _ _
    refine WX.sat (fun w sw => (show Sat B (rd (Ty.sl Ty.u64) k2 u7 :: rd (Ty.sl Ty.u64) [] nlV :: rd (Ty.sl Ty.u64) kn kv :: rd (Ty.sl Ty.u64) cl d :: Gf) (ceB q ⟨cs, cn, clg, chd, cmt, cmn, cg, ch⟩ t0 u7 :: lgB cg lm nlV r :: lgM r (putM M o (v', listK M o ++ [⟨o, n, t, cl, d, 1⟩])) :: lgO (putM M o (v', listK M o ++ [⟨o, n, t, cl, d, 1⟩])) :: box b3 56 (opC o n t d 1) :: Sf) w from sw.to)) ?_
    (repeat (first | refine vgo ?_ | refine ⟨_, rfl, rfl, ?_⟩ | refine ⟨_, rfl, ?_⟩ | refine ⟨rfl, ?_⟩ | intro hb | refine altA ?_ | refine altR ?_ | refine sideA ?_ | refine decTA ?_ | refine decFA ?_ | refine decNA ?_ | refine decBTA ?_ | refine decBFA ?_ | refine ⟨_, by assumption, ?_⟩ | refine ⟨_, _, _, rfl, ?_⟩ | refine WC.seq (fun K hK => ?_) | (refine hK _ _ _ ?_; clear hK K) | (refine hK _ _ _ _ rfl ?_; clear hK K) | (refine WX.thenExit (K := K) ?_; clear hK K) | (refine WX.thenExit (K := KL) ?_; clear hL KL)))
    refine WC.drawV (S := (lgB cg lm nlV r :: lgM r (putM M o (v', listK M o ++ [⟨o, n, t, cl, d, 1⟩])) :: lgO (putM M o (v', listK M o ++ [⟨o, n, t, cl, d, 1⟩])) :: box b3 56 (opC o n t d 1) :: Sf)) ([[ceB q ⟨cs, cn, clg, chd, cmt, cmn, cg, ch⟩ t0 u7]]) rfl (by repeat (first | exact Wo.nil | (apply Wo.keep; exact rfl) | (apply Wo.drop; exact rfl))) (fun w sw => by (try simp only [List.flatten_cons, List.flatten_nil, List.append_nil, List.cons_append, List.nil_append]); exact sw.to) ?_; (try dsimp only [chunks])
    (repeat (first | refine ObP3.c0A ?_ | (apply ObP3.cons1 [1000] []; (focus ((repeat (intro _)); (conv => whnf); (try dsimp only [envO, List.cons_append, List.nil_append]); (repeat (first | refine vgo ?_ | refine ⟨_, rfl, rfl, ?_⟩ | refine ⟨_, rfl, ?_⟩ | refine ⟨rfl, ?_⟩ | intro hb | refine altA ?_ | refine altR ?_ | refine sideA ?_ | refine decTA ?_ | refine decFA ?_ | refine decNA ?_ | refine decBTA ?_ | refine decBFA ?_ | refine ⟨_, by assumption, ?_⟩ | refine ⟨_, _, _, rfl, ?_⟩ | refine WC.seq (fun K hK => ?_) | (refine hK _ _ _ ?_; clear hK K) | (refine hK _ _ _ _ rfl ?_; clear hK K) | (refine WX.thenExit (K := K) ?_; clear hK K) | (refine WX.thenExit (K := KL) ?_; clear hL KL))); first | exact WX.pgIs rfl | exact WX.pgRd rfl | exact WX.pgCell rfl | exact WX.pgNone | exact WX.pgOwn rfl)); exact rfl))); try (refine ObP3.nil ?_; (repeat (intro _)); (conv => whnf); (try dsimp only [envO, List.cons_append, List.nil_append]))
    refine ObP3.cons1 [] [1000] (.ex Unit (fun _ => undef) (fun _ => []) (fun _ => [ceB q ⟨cs, cn, clg, chd, cmt, cmn, cg, ch⟩ (max t0 t) u7])) ?_ rfl ?_
    · (repeat (intro _)); (conv => whnf); (try dsimp only [envO, List.cons_append, List.nil_append])
      (repeat (first | refine vgo ?_ | refine ⟨_, rfl, rfl, ?_⟩ | refine ⟨_, rfl, ?_⟩ | refine ⟨rfl, ?_⟩ | intro hb | refine altA ?_ | refine altR ?_ | refine sideA ?_ | refine decTA ?_ | refine decFA ?_ | refine decNA ?_ | refine decBTA ?_ | refine decBFA ?_ | refine ⟨_, by assumption, ?_⟩ | refine ⟨_, _, _, rfl, ?_⟩ | refine WC.seq (fun K hK => ?_) | (refine hK _ _ _ ?_; clear hK K) | (refine hK _ _ _ _ rfl ?_; clear hK K) | (refine WX.thenExit (K := K) ?_; clear hK K) | (refine WX.thenExit (K := KL) ?_; clear hL KL)))
      rw [show max ((t0 : Nat) : Int) ((t : Nat) : Int) = ((max t0 t : Nat) : Int) from by omega]
      exact WX.pgEx0 () (fun w sw => sw.to)
    (repeat refine ObP3.c0B ?_); try (refine ObP3.nil ?_; (repeat (intro _)); (conv => whnf); (try dsimp only [envO, List.cons_append, List.nil_append]))
    (repeat (first | refine vgo ?_ | refine ⟨_, rfl, rfl, ?_⟩ | refine ⟨_, rfl, ?_⟩ | refine ⟨rfl, ?_⟩ | intro hb | refine altA ?_ | refine altR ?_ | refine sideA ?_ | refine decTA ?_ | refine decFA ?_ | refine decNA ?_ | refine decBTA ?_ | refine decBFA ?_ | refine ⟨_, by assumption, ?_⟩ | refine ⟨_, _, _, rfl, ?_⟩ | refine WC.seq (fun K hK => ?_) | (refine hK _ _ _ ?_; clear hK K) | (refine hK _ _ _ _ rfl ?_; clear hK K) | (refine WX.thenExit (K := K) ?_; clear hK K) | (refine WX.thenExit (K := KL) ?_; clear hL KL)))
    exact WX.ret1 rfl rfl (fun w sw => ⟨[rd (Ty.sl Ty.u64) k2 u7], [ceB q ⟨cs, cn, clg, chd, cmt, cmn, cg, ch⟩ (max t0 t) u7, lgB cg lm nlV r, lgM r (putM M o (v', listK M o ++ [⟨o, n, t, cl, d, 1⟩])), lgO (putM M o (v', listK M o ++ [⟨o, n, t, cl, d, 1⟩]))], ⟨0, k2, u7, _, max t0 t, rfl, ok2, .inr ⟨rfl, hn, hg2, ok2.kl⟩, rfl, rfl⟩, sw.to⟩)
  · rcases hto with ⟨h1, rfl⟩ | ⟨h1, _⟩
    · (repeat (first | refine vgo ?_ | refine ⟨_, rfl, rfl, ?_⟩ | refine ⟨_, rfl, ?_⟩ | refine ⟨rfl, ?_⟩ | intro hb | refine altA ?_ | refine altR ?_ | refine sideA ?_ | refine decTA ?_ | refine decFA ?_ | refine decNA ?_ | refine decBTA ?_ | refine decBFA ?_ | refine ⟨_, by assumption, ?_⟩ | refine ⟨_, _, _, rfl, ?_⟩ | refine WC.seq (fun K hK => ?_) | (refine hK _ _ _ ?_; clear hK K) | (refine hK _ _ _ _ rfl ?_; clear hK K) | (refine WX.thenExit (K := K) ?_; clear hK K) | (refine WX.thenExit (K := KL) ?_; clear hL KL)))
      exact WX.ret1 rfl rfl (fun w sw => ⟨[rd (Ty.sl Ty.u64) kn kv], [ceB q ⟨cs, cn, clg, chd, cmt, cmn, cg, ch⟩ t0 kv, lgB cg lm nlV r, lgM r M', lgO M'], ⟨en, kn, kv, M', t0, rfl, ok, .inl ⟨he, rfl, h1⟩, rfl, rfl⟩, sw.to⟩)
    · exact absurd (hen.trans h1) he
end
/-! ### Delivery: Wake. -/
section
open Go Go.Proofs
def ovT : Ty OpT where
  sz := 24
  agg := true
  rel a v _ := v = a.V ∧ a.d.oneCell' = true
  mono _ h := h
  size := by rintro a v h ⟨rfl, _⟩; rfl
  form := by rintro a v h ⟨rfl, _⟩; exact ⟨_, rfl⟩
  ones := by
    rintro a v h ⟨rfl, h1⟩ c hc
    have hc : c ∈ a.C := hc
    simp only [OpT.C, opC, oTail, List.mem_cons, List.not_mem_nil, or_false] at hc
    rcases hc with rfl | rfl | rfl | rfl | rfl | rfl | rfl | rfl | rfl | rfl | rfl | rfl | rfl | rfl | rfl | rfl | rfl | rfl | rfl | rfl | rfl | rfl | rfl | rfl
    all_goals first | rfl | exact h1
instance : Ty.Sz ovT 24 := ⟨rfl, by decide⟩
instance : Ty.Is ovT (fun a => a.V) (fun a => a.d.oneCell' = true) := ⟨fun _ _ _ => Iff.rfl⟩
theorem opsC_flat : ∀ l : List OpT, opsC l = flat (l.map fun a => a.V)
  | [] => rfl
  | x :: l => by
    have := opsC_flat l
    unfold opsC at this ⊢
    rw [List.flatMap_cons, this, List.map_cons, flat_cons]
    rfl
theorem ops_oneD {l : List OpT} (h : ∀ u ∈ opsC l, u.oneCell' = true) : ∀ x ∈ l, x.d.oneCell' = true := fun x hx => h _ (by unfold opsC; exact List.mem_flatMap.2 ⟨x, hx, by simp [OpT.C, opC]⟩)
theorem Sat.hGsnocC {B w : World} {G : List Pers} {S : List Res} {D : List OpT} {x : OpT} (h : Sat B G S w) (h1 : hG D ∈ G) (h2 : Qd.rd (Ty.sl Ty.u64) x.c x.d ∈ G) : Sat B (hG (D ++ [x]) :: G) S w :=
  h.more fun m hm => by
    show AllR _ _ _ m
    rw [List.map_append, List.map_append]
    exact AllR.snoc (hm _ h1 : AllR (Ty.sl Ty.u64) (D.map OpT.c) (D.map OpT.d) m) (hm _ h2)
structure PS where
  t : Nat
  kn : List Nat
  kv : Value
  M : List LgE
  l : List OpT
  hv : Value
abbrev hdB (h : Nat) (hm : Nat) (hv : Value) : Res := box h 159 [.int .i64 (hm : Int), hv]
def PS.ok (p : PS) (hm : Nat) : Prop := PEok p.kn p.M p.l p.t hm
abbrev PS.G (p : PS) : List Pers := [rd (Ty.sl Ty.u64) p.kn p.kv, hG p.l]
abbrev PS.S (p : PS) (q : Nat) (c : CE) (r : Nat) (lm : Int) (hm : Nat) : List Res := [ceB q c p.t p.kv, lgB c.g lm nlV r, lgM r p.M, lgO p.M, hdB c.h hm p.hv, opO p.hv p.l]
section
variable {kn : List Nat} {M : List LgE} {l : List OpT} {t hm : Nat}
theorem PEok.sub (h : PEok kn M l t hm) {l' : List OpT} (hl : l'.length ≤ l.length) (hs : ∀ x ∈ l', x ∈ l) : PEok kn M l' t hm := ⟨h.ok, h.k4, h.kl, h.kn, h.t, Nat.le_trans hl h.ll, h.hm, fun x hx => h.l x (hs x hx)⟩
theorem PEok.drop (h : PEok kn M l t hm) (g : List Nat) : PEok kn M (dropL l g) t hm := h.sub (List.length_filter_le _ _) fun _ hx => (List.mem_filter.1 hx).1
theorem PEok.erase (h : PEok kn M l t hm) (i : Nat) : PEok kn M (l.eraseIdx i) t hm := h.sub (List.length_eraseIdx_le _ _) fun _ hx => List.mem_of_mem_eraseIdx hx
theorem PEok.k1000 (h : PEok kn M l t hm) (k : Int) : getC kn k ≤ 1000 := by rw [h.kn]; exact h.ok.le k
theorem PEok.lo (h : PEok kn M l t hm) : ∀ x ∈ l, 1 ≤ x.o := fun x hx => (h.l x hx).1.1
theorem PEok.due (h : PEok kn M l t hm) {x : OpT} (hd : dueP kn x = true) : withinL x.c kn ∧ x.n = getC kn x.o + 1 := by
  unfold dueP at hd
  have hd := of_decide_eq_true hd
  have h1 := h.k1000 x.o
  rw [wrap_u64] at hd
  exact ⟨hd.2, by omega⟩
end
/-- Where what waited went. -/
def WentC (l out l1 : List OpT) (k1 : List Nat) : Prop := ∀ y ∈ l, y ∈ out ∨ y ∈ l1 ∨ y.n ≤ getC k1 y.o
def WakeC (lm : Int) (p : PS) (l xs : List OpT) : Prop := (lm - (sizeM p.M : Int) ≤ 0 ∨ ∀ x ∈ p.l, dueP p.kn x = false) ∧ WentC l xs p.l p.kn
theorem WentC.start (l : List OpT) (k : List Nat) : WentC l [] (dropL l k) k := fun y hy => by
  by_cases h : y.n ≤ getC k y.o
  · exact .inr (.inr h)
  · exact .inr (.inl (List.mem_filter.2 ⟨hy, by simpa using h⟩))
theorem WentC.step {l out l1 : List OpT} {k1 k2 : List Nat} (h : WentC l out l1 k1) {i : Nat} {x : OpT} (hx : l1[i]? = some x) (hs : StepC k1 x k2) : WentC l (out ++ [x]) (dropL (l1.eraseIdx i) k2) k2 := fun y hy => by
  have hm : getC k1 y.o ≤ getC k2 y.o := by
    rw [hs.2.2.1]
    split
    · rename_i e; rw [e, hs.2.1]; omega
    · exact Nat.le_refl _
  rcases h y hy with h1 | h1 | h1
  · exact .inl (List.mem_append_left _ h1)
  · rcases List.mem_cons.1 ((perm_eraseIdx hx).mem_iff.1 h1) with rfl | h2
    · exact .inl (by simp)
    · by_cases h3 : y.n ≤ getC k2 y.o
      · exact .inr (.inr h3)
      · exact .inr (.inl (List.mem_filter.2 ⟨h2, by simpa using h3⟩))
  · exact .inr (.inr (by omega))
theorem idxI_no {α : Type} {p : α → Bool} {l : List α} (h : idxI p l = -1) : ∀ x ∈ l, p x = false := fun x hx => by
  unfold idxI at h
  cases hf : l.findIdx? p with
  | some i => rw [hf] at h; exact absurd h (by simp only []; omega)
  | none => exact List.findIdx?_eq_none_iff.1 hf x hx
set_option maxHeartbeats 6400000 in
set_option synthInstance.maxSize 2000 in
set_option synthInstance.maxHeartbeats 400000 in
theorem cwake_fun (q : Nat) (c : CE) (t0 : Nat) (kn : List Nat) (kv : Value) (r : Nat) (lm : Int) (M : List LgE) (l : List OpT) (hm : Nat) (hv : Value) (ok : PEok kn M l t0 hm) (hlm : 0 ≤ lm ∧ lm ≤ 1000) :
    Fun Try.prog 59 [.pointer (some ⟨q, 0, none⟩)] [rd (Ty.sl Ty.u64) [] nlV, rd (Ty.sl Ty.u64) kn kv, hG l] [ceB q c t0 kv, lgB c.g lm nlV r, lgM r M, lgO M, hdB c.h hm hv, opO hv l]
      (fun z G S => ∃ (p : PS) (xs : List OpT), p.ok hm ∧ Chain kn xs p.kn ∧ xs.length + p.l.length ≤ l.length ∧ WakeC lm p l xs ∧ G = [rd (Ty.sl Ty.u64) p.kn p.kv, hG p.l, hG xs, rd (Ty.sl ovT) xs z] ∧ S = p.S q c r lm hm) := by
  have hll := ok.ll
  have hhm := ok.hm
  obtain ⟨cs, cn, clg, chd, cmt, cmn, cg, ch⟩ := c
  dsimp only at *
  refine Fun.enter Try.func59 (by kernel_rfl) rfl Try.ntmps59 rfl (fun B Gf Sf => ?_); (try simp only [List.cons_append]); (try simp only [List.nil_append]); simp only [argEnv]
  refine WC.ex (fun w sw => sw.slOne (v := kv) (R := Ty.u64) (l := kn) (by simp)) (fun hkv => ?_)
  (repeat (first | refine vgo ?_ | refine ⟨_, rfl, rfl, ?_⟩ | refine ⟨_, rfl, ?_⟩ | refine ⟨rfl, ?_⟩ | intro hb | refine altA ?_ | refine altR ?_ | refine sideA ?_ | refine decTA ?_ | refine decFA ?_ | refine decNA ?_ | refine decBTA ?_ | refine decBFA ?_ | refine ⟨_, by assumption, ?_⟩ | refine ⟨_, _, _, rfl, ?_⟩ | refine WC.seq (fun K hK => ?_) | (refine hK _ _ _ ?_; clear hK K) | (refine hK _ _ _ _ rfl ?_; clear hK K) | (refine WX.thenExit (K := K) ?_; clear hK K) | (refine WX.thenExit (K := KL) ?_; clear hL KL)))
  refine WC.drawV (S := (ceB q ⟨cs, cn, clg, chd, cmt, cmn, cg, ch⟩ t0 kv :: lgB cg lm nlV r :: lgM r M :: lgO M :: Sf)) ([[hdB ch hm hv, opO hv l]]) rfl (by repeat (first | exact Wo.nil | (apply Wo.keep; exact rfl) | (apply Wo.drop; exact rfl))) (fun w sw => by (try simp only [List.flatten_cons, List.flatten_nil, List.append_nil, List.cons_append, List.nil_append]); exact sw.to) ?_; (try dsimp only [chunks])
  (repeat refine ObP3.c0A ?_); try (refine ObP3.nil ?_; (repeat (intro _)); (conv => whnf); (try dsimp only [envO, List.cons_append, List.nil_append]))
  refine ObP3.cons1 [] [1000] (.ex Value (fun _ => .int .i64 (((l.length : Nat) : Int) - (((dropL l kn).length : Nat) : Int))) (fun _ => [hG (dropL l kn)]) (fun v => [hdB ch hm v, opO v (dropL l kn)])) ?_ rfl ?_
  · (repeat (intro _)); (conv => whnf); (try dsimp only [envO, List.cons_append, List.nil_append])
    (repeat (first | refine vgo ?_ | refine ⟨_, rfl, rfl, ?_⟩ | refine ⟨_, rfl, ?_⟩ | refine ⟨rfl, ?_⟩ | intro hb | refine altA ?_ | refine altR ?_ | refine sideA ?_ | refine decTA ?_ | refine decFA ?_ | refine decNA ?_ | refine decBTA ?_ | refine decBFA ?_ | refine ⟨_, by assumption, ?_⟩ | refine ⟨_, _, _, rfl, ?_⟩ | refine WC.seq (fun K hK => ?_) | (refine hK _ _ _ ?_; clear hK K) | (refine hK _ _ _ _ rfl ?_; clear hK K) | (refine WX.thenExit (K := K) ?_; clear hK K) | (refine WX.thenExit (K := KL) ?_; clear hL KL)))
    refine CallV.by' (hdrop_fun ch hm hv l kn kv (by omega) ok.lo) ?_; rintro _ _ _ ⟨v1, rfl, rfl, rfl⟩; (try simp only [List.cons_append]); (try simp only [List.nil_append])
    (repeat (first | refine vgo ?_ | refine ⟨_, rfl, rfl, ?_⟩ | refine ⟨_, rfl, ?_⟩ | refine ⟨rfl, ?_⟩ | intro hb | refine altA ?_ | refine altR ?_ | refine sideA ?_ | refine decTA ?_ | refine decFA ?_ | refine decNA ?_ | refine decBTA ?_ | refine decBFA ?_ | refine ⟨_, by assumption, ?_⟩ | refine ⟨_, _, _, rfl, ?_⟩ | refine WC.seq (fun K hK => ?_) | (refine hK _ _ _ ?_; clear hK K) | (refine hK _ _ _ _ rfl ?_; clear hK K) | (refine WX.thenExit (K := K) ?_; clear hK K) | (refine WX.thenExit (K := KL) ?_; clear hL KL)))
    exact WX.pgEx (fv := fun _ => .int .i64 (((l.length : Nat) : Int) - (((dropL l kn).length : Nat) : Int))) v1 rfl (fun w sw => sw.to)
  (repeat refine ObP3.c0B ?_); try (refine ObP3.nil ?_; (repeat (intro _)); (conv => whnf); (try dsimp only [envO, List.cons_append, List.nil_append]))
  rename_i h1 _
  have ok1 := ok.drop kn
  have hdl : (dropL l kn).length ≤ l.length := List.length_filter_le _ _
  (repeat (first | refine vgo ?_ | refine ⟨_, rfl, rfl, ?_⟩ | refine ⟨_, rfl, ?_⟩ | refine ⟨rfl, ?_⟩ | intro hb | refine altA ?_ | refine altR ?_ | refine sideA ?_ | refine decTA ?_ | refine decFA ?_ | refine decNA ?_ | refine decBTA ?_ | refine decBFA ?_ | refine ⟨_, by assumption, ?_⟩ | refine ⟨_, _, _, rfl, ?_⟩ | refine WC.seq (fun K hK => ?_) | (refine hK _ _ _ ?_; clear hK K) | (refine hK _ _ _ _ rfl ?_; clear hK K) | (refine WX.thenExit (K := K) ?_; clear hK K) | (refine WX.thenExit (K := KL) ?_; clear hL KL)))
  refine WC.loop (I := PS × Value × List OpT) (fun i => [(0, .pointer (some ⟨q, 0, none⟩)), (2, nlV), (3, i.2.1)]) (fun i => rd (Ty.sl Ty.u64) i.1.kn i.1.kv :: hG i.1.l :: hG i.2.2 :: rd (Ty.sl Ty.u64) [] nlV :: rd (Ty.sl Ty.u64) kn kv :: hG l :: Gf) (fun i => ceB q ⟨cs, cn, clg, chd, cmt, cmn, cg, ch⟩ i.1.t i.1.kv :: lgB cg lm nlV r :: lgM r i.1.M :: lgO i.1.M :: hdB ch hm i.1.hv :: opO i.1.hv i.1.l :: opO i.2.1 i.2.2 :: Sf) (fun i => i.1.ok hm ∧ Chain kn i.2.2 i.1.kn ∧ i.2.2.length + i.1.l.length ≤ l.length ∧ WentC l i.2.2 i.1.l i.1.kn) (fun i => i.1.l.length) (⟨t0, kn, kv, M, dropL l kn, h1⟩, nlV, []) ⟨ok1, .nil _, by simpa using hdl, .start l kn⟩ (.cons rfl (.cons rfl (.cons rfl .nil))) (fun w h => ?_) ?_
  · have h2 := (h.ownNil 56 24).more (p := hG []) fun _ _ => trivial
    exact (show Sat B (rd (Ty.sl Ty.u64) kn kv :: hG (dropL l kn) :: hG [] :: rd (Ty.sl Ty.u64) [] nlV :: rd (Ty.sl Ty.u64) kn kv :: hG l :: Gf) (ceB q ⟨cs, cn, clg, chd, cmt, cmn, cg, ch⟩ t0 kv :: lgB cg lm nlV r :: lgM r M :: lgO M :: hdB ch hm h1 :: opO h1 (dropL l kn) :: own 56 24 nlV 0 [] :: Sf) w from h2.to)
  rintro ⟨⟨t1, k1, v1, M1, l1, hv1⟩, ov, out⟩ ⟨hok, hch, hlen, hwt⟩ KL hL
  dsimp only at hok hch hlen hwt ⊢
  have ok2 : PEok k1 M1 l1 t1 hm := hok
  have hsz := ok2.size
  refine WC.ex (fun w sw => sw.slOne (v := v1) (R := Ty.u64) (l := k1) (by simp)) (fun hv1' => ?_)
  refine WC.ex (fun w sw => ops_one (l := out) sw (by simp)) (fun hone => ?_)
  (repeat (first | refine vgo ?_ | refine ⟨_, rfl, rfl, ?_⟩ | refine ⟨_, rfl, ?_⟩ | refine ⟨rfl, ?_⟩ | intro hb | refine altA ?_ | refine altR ?_ | refine sideA ?_ | refine decTA ?_ | refine decFA ?_ | refine decNA ?_ | refine decBTA ?_ | refine decBFA ?_ | refine ⟨_, by assumption, ?_⟩ | refine ⟨_, _, _, rfl, ?_⟩ | refine WC.seq (fun K hK => ?_) | (refine hK _ _ _ ?_; clear hK K) | (refine hK _ _ _ _ rfl ?_; clear hK K) | (refine WX.thenExit (K := K) ?_; clear hK K) | (refine WX.thenExit (K := KL) ?_; clear hL KL)))
  refine CallV.by' (lgroom_fun cg r lm nlV M1 hlm ok2.ok.nd ok2.ok.ml ok2.ok.le hsz) ?_; rintro _ _ _ ⟨rfl, rfl, rfl⟩; (try simp only [List.cons_append]); (try simp only [List.nil_append])
  by_cases hroom : 0 < lm - (sizeM M1 : Int)
  · rcases idxI_cases (dueP k1) l1 with hidx | ⟨i, x, hx, hidx⟩
    · (repeat (first | refine vgo ?_ | refine ⟨_, rfl, rfl, ?_⟩ | refine ⟨_, rfl, ?_⟩ | refine ⟨rfl, ?_⟩ | intro hb | refine altA ?_ | refine altR ?_ | refine sideA ?_ | refine decTA ?_ | refine decFA ?_ | refine decNA ?_ | refine decBTA ?_ | refine decBFA ?_ | refine ⟨_, by assumption, ?_⟩ | refine ⟨_, _, _, rfl, ?_⟩ | refine WC.seq (fun K hK => ?_) | (refine hK _ _ _ ?_; clear hK K) | (refine hK _ _ _ _ rfl ?_; clear hK K) | (refine WX.thenExit (K := K) ?_; clear hK K) | (refine WX.thenExit (K := KL) ?_; clear hL KL)))
      refine WC.drawV (S := (ceB q ⟨cs, cn, clg, chd, cmt, cmn, cg, ch⟩ t1 v1 :: lgB cg lm nlV r :: lgM r M1 :: lgO M1 :: opO ov out :: Sf)) ([[hdB ch hm hv1, opO hv1 l1]]) rfl (by repeat (first | exact Wo.nil | (apply Wo.keep; exact rfl) | (apply Wo.drop; exact rfl))) (fun w sw => by (try simp only [List.flatten_cons, List.flatten_nil, List.append_nil, List.cons_append, List.nil_append]); exact sw.to) ?_; (try dsimp only [chunks])
      (repeat refine ObP3.c0A ?_); try (refine ObP3.nil ?_; (repeat (intro _)); (conv => whnf); (try dsimp only [envO, List.cons_append, List.nil_append]))
      refine ObP3.cons1 [] [1000] (.ex Value (fun _ => .tuple #[opV 0 0 0 nlV 0, .bool false]) (fun _ => [hG l1]) (fun v => [hdB ch hm v, opO v (l1)])) ?_ rfl ?_
      · (repeat (intro _)); (conv => whnf); (try dsimp only [envO, List.cons_append, List.nil_append])
        (repeat (first | refine vgo ?_ | refine ⟨_, rfl, rfl, ?_⟩ | refine ⟨_, rfl, ?_⟩ | refine ⟨rfl, ?_⟩ | intro hb | refine altA ?_ | refine altR ?_ | refine sideA ?_ | refine decTA ?_ | refine decFA ?_ | refine decNA ?_ | refine decBTA ?_ | refine decBFA ?_ | refine ⟨_, by assumption, ?_⟩ | refine ⟨_, _, _, rfl, ?_⟩ | refine WC.seq (fun K hK => ?_) | (refine hK _ _ _ ?_; clear hK K) | (refine hK _ _ _ _ rfl ?_; clear hK K) | (refine WX.thenExit (K := K) ?_; clear hK K) | (refine WX.thenExit (K := KL) ?_; clear hL KL)))
        refine CallV.by' (hnext_fun ch hm hv1 l1 k1 v1 (by have := ok2.ll; omega) ok2.lo) ?_; rintro _ _ _ ⟨v2, l2, u2, b2, rfl, hno, rfl, rfl⟩; (try simp only [List.cons_append]); (try simp only [List.nil_append])
        rcases hno with ⟨i', _, hi', _⟩ | ⟨_, rfl, rfl, rfl⟩
        · rw [hidx] at hi'; omega
        (repeat (first | refine vgo ?_ | refine ⟨_, rfl, rfl, ?_⟩ | refine ⟨_, rfl, ?_⟩ | refine ⟨rfl, ?_⟩ | intro hb | refine altA ?_ | refine altR ?_ | refine sideA ?_ | refine decTA ?_ | refine decFA ?_ | refine decNA ?_ | refine decBTA ?_ | refine decBFA ?_ | refine ⟨_, by assumption, ?_⟩ | refine ⟨_, _, _, rfl, ?_⟩ | refine WC.seq (fun K hK => ?_) | (refine hK _ _ _ ?_; clear hK K) | (refine hK _ _ _ _ rfl ?_; clear hK K) | (refine WX.thenExit (K := K) ?_; clear hK K) | (refine WX.thenExit (K := KL) ?_; clear hL KL)))
        exact WX.pgEx (fv := fun _ => .tuple #[opV 0 0 0 nlV 0, .bool false]) v2 rfl (fun w sw => sw.to)
      (repeat refine ObP3.c0B ?_); try (refine ObP3.nil ?_; (repeat (intro _)); (conv => whnf); (try dsimp only [envO, List.cons_append, List.nil_append]))
      refine ObP3.cons1 [] [] (.ex Nat (fun b => .pointer (some ⟨b, 0, none⟩)) (fun _ => []) (fun b => [box b 56 (opC 0 0 0 nlV 0)])) ?_ rfl ?_
      · (repeat (intro _)); (conv => whnf); (try dsimp only [envO, List.cons_append, List.nil_append])
        (repeat (first | refine vgo ?_ | refine ⟨_, rfl, rfl, ?_⟩ | refine ⟨_, rfl, ?_⟩ | refine ⟨rfl, ?_⟩ | intro hb | refine altA ?_ | refine altR ?_ | refine sideA ?_ | refine decTA ?_ | refine decFA ?_ | refine decNA ?_ | refine decBTA ?_ | refine decBFA ?_ | refine ⟨_, by assumption, ?_⟩ | refine ⟨_, _, _, rfl, ?_⟩ | refine WC.seq (fun K hK => ?_) | (refine hK _ _ _ ?_; clear hK K) | (refine hK _ _ _ _ rfl ?_; clear hK K) | (refine WX.thenExit (K := K) ?_; clear hK K) | (refine WX.thenExit (K := KL) ?_; clear hL KL)))
        refine WL.alloc rfl ?_; intro b9
        (repeat (first | refine vgo ?_ | refine ⟨_, rfl, rfl, ?_⟩ | refine ⟨_, rfl, ?_⟩ | refine ⟨rfl, ?_⟩ | intro hb | refine altA ?_ | refine altR ?_ | refine sideA ?_ | refine decTA ?_ | refine decFA ?_ | refine decNA ?_ | refine decBTA ?_ | refine decBFA ?_ | refine ⟨_, by assumption, ?_⟩ | refine ⟨_, _, _, rfl, ?_⟩ | refine WC.seq (fun K hK => ?_) | (refine hK _ _ _ ?_; clear hK K) | (refine hK _ _ _ _ rfl ?_; clear hK K) | (refine WX.thenExit (K := K) ?_; clear hK K) | (refine WX.thenExit (K := KL) ?_; clear hL KL)))
        exact WX.pgEx (fv := fun b => .pointer (some ⟨b, 0, none⟩)) b9 rfl (fun w sw => sw.to)
      refine ObP3.cons2 [10] [12] [12] 4 (.ex Nat (fun p => .pointer (some ⟨p, 0, none⟩)) (fun _ => []) (fun p => [box p 56 (opC 0 0 0 nlV 0)])) ?_ rfl ?_
      · (repeat (intro _)); (conv => whnf); (try dsimp only [envO, List.cons_append, List.nil_append])
        (repeat (first | refine vgo ?_ | refine ⟨_, rfl, rfl, ?_⟩ | refine ⟨_, rfl, ?_⟩ | refine ⟨rfl, ?_⟩ | intro hb | refine altA ?_ | refine altR ?_ | refine sideA ?_ | refine decTA ?_ | refine decFA ?_ | refine decNA ?_ | refine decBTA ?_ | refine decBFA ?_ | refine ⟨_, by assumption, ?_⟩ | refine ⟨_, _, _, rfl, ?_⟩ | refine WC.seq (fun K hK => ?_) | (refine hK _ _ _ ?_; clear hK K) | (refine hK _ _ _ _ rfl ?_; clear hK K) | (refine WX.thenExit (K := K) ?_; clear hK K) | (refine WX.thenExit (K := KL) ?_; clear hL KL)))
        rename_i b9 _ _
        exact WX.pgEx (fv := fun p : Nat => .pointer (some ⟨p, 0, none⟩)) b9 rfl (fun w sw => sw.to)
      (repeat refine ObP3.c0B ?_); try (refine ObP3.nil ?_; (repeat (intro _)); (conv => whnf); (try dsimp only [envO, List.cons_append, List.nil_append]))
      rename_i b4 v2 _
      (repeat (first | refine vgo ?_ | refine ⟨_, rfl, rfl, ?_⟩ | refine ⟨_, rfl, ?_⟩ | refine ⟨rfl, ?_⟩ | intro hb | refine altA ?_ | refine altR ?_ | refine sideA ?_ | refine decTA ?_ | refine decFA ?_ | refine decNA ?_ | refine decBTA ?_ | refine decBFA ?_ | refine ⟨_, by assumption, ?_⟩ | refine ⟨_, _, _, rfl, ?_⟩ | refine WC.seq (fun K hK => ?_) | (refine hK _ _ _ ?_; clear hK K) | (refine hK _ _ _ _ rfl ?_; clear hK K) | (refine WX.thenExit (K := K) ?_; clear hK K) | (refine WX.thenExit (K := KL) ?_; clear hL KL)))
      exact WX.ret1 rfl rfl (fun w sw => ⟨[rd (Ty.sl Ty.u64) k1 v1, hG l1, hG out, rd (Ty.sl ovT) out ov], (PS.mk t1 k1 v1 M1 l1 v2).S q ⟨cs, cn, clg, chd, cmt, cmn, cg, ch⟩ r lm hm, ⟨⟨t1, k1, v1, M1, l1, v2⟩, out, ok2, hch, hlen, ⟨.inr (idxI_no hidx), hwt⟩, rfl, rfl⟩, (sw.pub (R := ovT) (l := out) (v := ov) SelOwn.h rfl (opsC_flat out) rfl (ops_oneD hone)).to⟩)
    · have hxw := ok2.l x (List.mem_of_getElem? hx)
      obtain ⟨o, n, t, cl, d, k⟩ := x
      (repeat (first | refine vgo ?_ | refine ⟨_, rfl, rfl, ?_⟩ | refine ⟨_, rfl, ?_⟩ | refine ⟨rfl, ?_⟩ | intro hb | refine altA ?_ | refine altR ?_ | refine sideA ?_ | refine decTA ?_ | refine decFA ?_ | refine decNA ?_ | refine decBTA ?_ | refine decBFA ?_ | refine ⟨_, by assumption, ?_⟩ | refine ⟨_, _, _, rfl, ?_⟩ | refine WC.seq (fun K hK => ?_) | (refine hK _ _ _ ?_; clear hK K) | (refine hK _ _ _ _ rfl ?_; clear hK K) | (refine WX.thenExit (K := K) ?_; clear hK K) | (refine WX.thenExit (K := KL) ?_; clear hL KL)))
      refine WC.drawV (S := (ceB q ⟨cs, cn, clg, chd, cmt, cmn, cg, ch⟩ t1 v1 :: lgB cg lm nlV r :: lgM r M1 :: lgO M1 :: opO ov out :: Sf)) ([[hdB ch hm hv1, opO hv1 l1]]) rfl (by repeat (first | exact Wo.nil | (apply Wo.keep; exact rfl) | (apply Wo.drop; exact rfl))) (fun w sw => by (try simp only [List.flatten_cons, List.flatten_nil, List.append_nil, List.cons_append, List.nil_append]); exact sw.to) ?_; (try dsimp only [chunks])
      (repeat refine ObP3.c0A ?_); try (refine ObP3.nil ?_; (repeat (intro _)); (conv => whnf); (try dsimp only [envO, List.cons_append, List.nil_append]))
      refine ObP3.cons1 [] [1000] (.ex Value (fun _ => .tuple #[opV o n t d k, .bool true]) (fun _ => [hG (l1.eraseIdx i), rd (Ty.sl Ty.u64) cl d]) (fun v => [hdB ch hm v, opO v (l1.eraseIdx i)])) ?_ rfl ?_
      · (repeat (intro _)); (conv => whnf); (try dsimp only [envO, List.cons_append, List.nil_append])
        (repeat (first | refine vgo ?_ | refine ⟨_, rfl, rfl, ?_⟩ | refine ⟨_, rfl, ?_⟩ | refine ⟨rfl, ?_⟩ | intro hb | refine altA ?_ | refine altR ?_ | refine sideA ?_ | refine decTA ?_ | refine decFA ?_ | refine decNA ?_ | refine decBTA ?_ | refine decBFA ?_ | refine ⟨_, by assumption, ?_⟩ | refine ⟨_, _, _, rfl, ?_⟩ | refine WC.seq (fun K hK => ?_) | (refine hK _ _ _ ?_; clear hK K) | (refine hK _ _ _ _ rfl ?_; clear hK K) | (refine WX.thenExit (K := K) ?_; clear hK K) | (refine WX.thenExit (K := KL) ?_; clear hL KL)))
        refine CallV.by' (hnext_fun ch hm hv1 l1 k1 v1 (by have := ok2.ll; omega) ok2.lo) ?_; rintro _ _ _ ⟨v2, l2, u2, b2, rfl, hno, rfl, rfl⟩; (try simp only [List.cons_append]); (try simp only [List.nil_append])
        rcases hno with ⟨i', hx', hi', rfl, rfl⟩ | ⟨hno, _⟩
        rotate_left
        · rw [hidx] at hno; omega
        obtain rfl : i = i' := by rw [hidx] at hi'; omega
        rw [hx] at hx'
        obtain rfl := Option.some.inj hx'
        (repeat (first | refine vgo ?_ | refine ⟨_, rfl, rfl, ?_⟩ | refine ⟨_, rfl, ?_⟩ | refine ⟨rfl, ?_⟩ | intro hb | refine altA ?_ | refine altR ?_ | refine sideA ?_ | refine decTA ?_ | refine decFA ?_ | refine decNA ?_ | refine decBTA ?_ | refine decBFA ?_ | refine ⟨_, by assumption, ?_⟩ | refine ⟨_, _, _, rfl, ?_⟩ | refine WC.seq (fun K hK => ?_) | (refine hK _ _ _ ?_; clear hK K) | (refine hK _ _ _ _ rfl ?_; clear hK K) | (refine WX.thenExit (K := K) ?_; clear hK K) | (refine WX.thenExit (K := KL) ?_; clear hL KL)))
        exact WX.pgEx (fv := fun _ => .tuple #[opV o n t d k, .bool true]) v2 rfl (fun w sw => sw.to)
      (repeat refine ObP3.c0B ?_); try (refine ObP3.nil ?_; (repeat (intro _)); (conv => whnf); (try dsimp only [envO, List.cons_append, List.nil_append]))
      refine ObP3.cons1 [] [] (.ex Nat (fun b => .pointer (some ⟨b, 0, none⟩)) (fun _ => []) (fun b => [box b 56 (opC 0 0 0 nlV 0)])) ?_ rfl ?_
      · (repeat (intro _)); (conv => whnf); (try dsimp only [envO, List.cons_append, List.nil_append])
        (repeat (first | refine vgo ?_ | refine ⟨_, rfl, rfl, ?_⟩ | refine ⟨_, rfl, ?_⟩ | refine ⟨rfl, ?_⟩ | intro hb | refine altA ?_ | refine altR ?_ | refine sideA ?_ | refine decTA ?_ | refine decFA ?_ | refine decNA ?_ | refine decBTA ?_ | refine decBFA ?_ | refine ⟨_, by assumption, ?_⟩ | refine ⟨_, _, _, rfl, ?_⟩ | refine WC.seq (fun K hK => ?_) | (refine hK _ _ _ ?_; clear hK K) | (refine hK _ _ _ _ rfl ?_; clear hK K) | (refine WX.thenExit (K := K) ?_; clear hK K) | (refine WX.thenExit (K := KL) ?_; clear hL KL)))
        refine WL.alloc rfl ?_; intro b9
        (repeat (first | refine vgo ?_ | refine ⟨_, rfl, rfl, ?_⟩ | refine ⟨_, rfl, ?_⟩ | refine ⟨rfl, ?_⟩ | intro hb | refine altA ?_ | refine altR ?_ | refine sideA ?_ | refine decTA ?_ | refine decFA ?_ | refine decNA ?_ | refine decBTA ?_ | refine decBFA ?_ | refine ⟨_, by assumption, ?_⟩ | refine ⟨_, _, _, rfl, ?_⟩ | refine WC.seq (fun K hK => ?_) | (refine hK _ _ _ ?_; clear hK K) | (refine hK _ _ _ _ rfl ?_; clear hK K) | (refine WX.thenExit (K := K) ?_; clear hK K) | (refine WX.thenExit (K := KL) ?_; clear hL KL)))
        exact WX.pgEx (fv := fun b => .pointer (some ⟨b, 0, none⟩)) b9 rfl (fun w sw => sw.to)
      refine ObP3.cons2 [10] [12] [12] 4 (.ex Nat (fun p => .pointer (some ⟨p, 0, none⟩)) (fun _ => []) (fun p => [box p 56 (opC o n t d k)])) ?_ rfl ?_
      · (repeat (intro _)); (conv => whnf); (try dsimp only [envO, List.cons_append, List.nil_append])
        (repeat (first | refine vgo ?_ | refine ⟨_, rfl, rfl, ?_⟩ | refine ⟨_, rfl, ?_⟩ | refine ⟨rfl, ?_⟩ | intro hb | refine altA ?_ | refine altR ?_ | refine sideA ?_ | refine decTA ?_ | refine decFA ?_ | refine decNA ?_ | refine decBTA ?_ | refine decBFA ?_ | refine ⟨_, by assumption, ?_⟩ | refine ⟨_, _, _, rfl, ?_⟩ | refine WC.seq (fun K hK => ?_) | (refine hK _ _ _ ?_; clear hK K) | (refine hK _ _ _ _ rfl ?_; clear hK K) | (refine WX.thenExit (K := K) ?_; clear hK K) | (refine WX.thenExit (K := KL) ?_; clear hL KL)))
        rename_i b9 _ _
        exact WX.pgEx (fv := fun p : Nat => .pointer (some ⟨p, 0, none⟩)) b9 rfl (fun w sw => sw.to)
      (repeat refine ObP3.c0B ?_); try (refine ObP3.nil ?_; (repeat (intro _)); (conv => whnf); (try dsimp only [envO, List.cons_append, List.nil_append]))
      rename_i b4 v2 _
      have hil : i < l1.length := (List.getElem?_eq_some_iff.1 hx).1
      have hel : (l1.eraseIdx i).length + 1 = l1.length := by rw [List.length_eraseIdx, if_pos hil]; omega
      have hdue : dueP k1 ⟨o, n, t, cl, d, k⟩ = true := by
        obtain ⟨x', hx', hp, _⟩ := idxI_spec hidx
        rw [hx] at hx'
        obtain rfl := Option.some.inj hx'
        exact hp
      obtain ⟨hwi, hn1⟩ := ok2.due hdue
      have okE := ok2.erase i
      have hol : out.length ≤ 999 := by have := ok2.ll; omega
      (repeat (first | refine vgo ?_ | refine ⟨_, rfl, rfl, ?_⟩ | refine ⟨_, rfl, ?_⟩ | refine ⟨rfl, ?_⟩ | intro hb | refine altA ?_ | refine altR ?_ | refine sideA ?_ | refine decTA ?_ | refine decFA ?_ | refine decNA ?_ | refine decBTA ?_ | refine decBFA ?_ | refine ⟨_, by assumption, ?_⟩ | refine ⟨_, _, _, rfl, ?_⟩ | refine WC.seq (fun K hK => ?_) | (refine hK _ _ _ ?_; clear hK K) | (refine hK _ _ _ _ rfl ?_; clear hK K) | (refine WX.thenExit (K := K) ?_; clear hK K) | (refine WX.thenExit (K := KL) ?_; clear hL KL)))
      refine CallV.by' (cdeliver_fun q ⟨cs, cn, clg, chd, cmt, cmn, cg, ch⟩ t1 k1 v1 r lm M1 (l1.eraseIdx i) hm ⟨o, n, t, cl, d, k⟩ okE hxw hlm) ?_; rintro _ _ _ ⟨n', k2, kv2, M2, t2, rfl, ok3, hcase, rfl, rfl⟩; (try simp only [List.cons_append]); (try simp only [List.nil_append])
      by_cases hn0 : n' = 0
      · have hst : StepC k1 ⟨o, n, t, cl, d, k⟩ k2 := by
          rcases hcase with ⟨h, _⟩ | ⟨_, h2, h3, h4⟩
          · exact absurd hn0 h
          · exact ⟨hwi, h2, h3, h4, hxw⟩
        (repeat (first | refine vgo ?_ | refine ⟨_, rfl, rfl, ?_⟩ | refine ⟨_, rfl, ?_⟩ | refine ⟨rfl, ?_⟩ | intro hb | refine altA ?_ | refine altR ?_ | refine sideA ?_ | refine decTA ?_ | refine decFA ?_ | refine decNA ?_ | refine decBTA ?_ | refine decBFA ?_ | refine ⟨_, by assumption, ?_⟩ | refine ⟨_, _, _, rfl, ?_⟩ | refine WC.seq (fun K hK => ?_) | (refine hK _ _ _ ?_; clear hK K) | (refine hK _ _ _ _ rfl ?_; clear hK K) | (refine WX.thenExit (K := K) ?_; clear hK K) | (refine WX.thenExit (K := KL) ?_; clear hL KL)))
        refine WC.ex (fun w sw => sw.slOne (v := kv2) (R := Ty.u64) (l := k2) (by simp)) (fun hkv2 => ?_)
        refine WC.sat (G' := rd (Ty.sl Ty.u64) k2 kv2 :: hG (l1.eraseIdx i) :: hG (out ++ [⟨o, n, t, cl, d, k⟩]) :: rd (Ty.sl Ty.u64) [] nlV :: rd (Ty.sl Ty.u64) kn kv :: hG l :: Gf) (S' := ceB q ⟨cs, cn, clg, chd, cmt, cmn, cg, ch⟩ t2 kv2 :: lgB cg lm nlV r :: lgM r M2 :: lgO M2 :: hdB ch hm v2 :: opO v2 (l1.eraseIdx i) :: opO hb (out ++ [⟨o, n, t, cl, d, k⟩]) :: box b4 56 (opC o n t d k) :: Sf) (fun w sw => ?_) ?_
        · have e1 : opO hb (out ++ [⟨o, n, t, cl, d, k⟩]) = own 56 24 hb (out.length + 1) (opsC out ++ (opC o n t d k ++ [])) := by
            unfold opO; rw [opsC_snoc, List.length_append, List.append_nil]; rfl
          rw [e1]
          exact (sw.hGsnocC (D := out) (x := ⟨o, n, t, cl, d, k⟩) (by simp) (by simp)).to
        refine WC.drawV (S := (ceB q ⟨cs, cn, clg, chd, cmt, cmn, cg, ch⟩ t2 kv2 :: lgB cg lm nlV r :: lgM r M2 :: lgO M2 :: opO hb (out ++ [⟨o, n, t, cl, d, k⟩]) :: box b4 56 (opC o n t d k) :: Sf)) ([[hdB ch hm v2, opO v2 (l1.eraseIdx i)]]) rfl (by repeat (first | exact Wo.nil | (apply Wo.keep; exact rfl) | (apply Wo.drop; exact rfl))) (fun w sw => by (try simp only [List.flatten_cons, List.flatten_nil, List.append_nil, List.cons_append, List.nil_append]); exact sw.to) ?_; (try dsimp only [chunks])
        (repeat refine ObP3.c0A ?_); try (refine ObP3.nil ?_; (repeat (intro _)); (conv => whnf); (try dsimp only [envO, List.cons_append, List.nil_append]))
        refine ObP3.cons1 [] [1000] (.ex Value (fun _ => .int .i64 ((((l1.eraseIdx i).length : Nat) : Int) - (((dropL (l1.eraseIdx i) k2).length : Nat) : Int))) (fun _ => [hG (dropL (l1.eraseIdx i) k2)]) (fun v => [hdB ch hm v, opO v (dropL (l1.eraseIdx i) k2)])) ?_ rfl ?_
        · (repeat (intro _)); (conv => whnf); (try dsimp only [envO, List.cons_append, List.nil_append])
          (repeat (first | refine vgo ?_ | refine ⟨_, rfl, rfl, ?_⟩ | refine ⟨_, rfl, ?_⟩ | refine ⟨rfl, ?_⟩ | intro hb | refine altA ?_ | refine altR ?_ | refine sideA ?_ | refine decTA ?_ | refine decFA ?_ | refine decNA ?_ | refine decBTA ?_ | refine decBFA ?_ | refine ⟨_, by assumption, ?_⟩ | refine ⟨_, _, _, rfl, ?_⟩ | refine WC.seq (fun K hK => ?_) | (refine hK _ _ _ ?_; clear hK K) | (refine hK _ _ _ _ rfl ?_; clear hK K) | (refine WX.thenExit (K := K) ?_; clear hK K) | (refine WX.thenExit (K := KL) ?_; clear hL KL)))
          refine CallV.by' (hdrop_fun ch hm v2 (l1.eraseIdx i) k2 kv2 (by have := ok3.ll; omega) ok3.lo) ?_; rintro _ _ _ ⟨v3, rfl, rfl, rfl⟩; (try simp only [List.cons_append]); (try simp only [List.nil_append])
          (repeat (first | refine vgo ?_ | refine ⟨_, rfl, rfl, ?_⟩ | refine ⟨_, rfl, ?_⟩ | refine ⟨rfl, ?_⟩ | intro hb | refine altA ?_ | refine altR ?_ | refine sideA ?_ | refine decTA ?_ | refine decFA ?_ | refine decNA ?_ | refine decBTA ?_ | refine decBFA ?_ | refine ⟨_, by assumption, ?_⟩ | refine ⟨_, _, _, rfl, ?_⟩ | refine WC.seq (fun K hK => ?_) | (refine hK _ _ _ ?_; clear hK K) | (refine hK _ _ _ _ rfl ?_; clear hK K) | (refine WX.thenExit (K := K) ?_; clear hK K) | (refine WX.thenExit (K := KL) ?_; clear hL KL)))
          exact WX.pgEx (fv := fun _ => .int .i64 ((((l1.eraseIdx i).length : Nat) : Int) - (((dropL (l1.eraseIdx i) k2).length : Nat) : Int))) v3 rfl (fun w sw => sw.to)
        (repeat refine ObP3.c0B ?_); try (refine ObP3.nil ?_; (repeat (intro _)); (conv => whnf); (try dsimp only [envO, List.cons_append, List.nil_append]))
        rename_i v3 _
        (repeat (first | refine vgo ?_ | refine ⟨_, rfl, rfl, ?_⟩ | refine ⟨_, rfl, ?_⟩ | refine ⟨rfl, ?_⟩ | intro hb | refine altA ?_ | refine altR ?_ | refine sideA ?_ | refine decTA ?_ | refine decFA ?_ | refine decNA ?_ | refine decBTA ?_ | refine decBFA ?_ | refine ⟨_, by assumption, ?_⟩ | refine ⟨_, _, _, rfl, ?_⟩ | refine WC.seq (fun K hK => ?_) | (refine hK _ _ _ ?_; clear hK K) | (refine hK _ _ _ _ rfl ?_; clear hK K) | (refine WX.thenExit (K := K) ?_; clear hK K) | (refine WX.thenExit (K := KL) ?_; clear hL KL)))
        exact (hL (⟨t2, k2, kv2, M2, dropL (l1.eraseIdx i) k2, v3⟩, hb, out ++ [⟨o, n, t, cl, d, k⟩]) ⟨ok3.drop k2, hch.snoc hst, by dsimp only; have h7 : (dropL (l1.eraseIdx i) k2).length ≤ (l1.eraseIdx i).length := List.length_filter_le _ _; (try simp only [List.length_append, List.length_cons, List.length_nil]); omega, hwt.step hx hst⟩ (by dsimp only; have h7 : (dropL (l1.eraseIdx i) k2).length ≤ (l1.eraseIdx i).length := List.length_filter_le _ _; omega)).conv (.cons rfl (.cons rfl (.cons rfl .nil))) (fun w h => h.to)
      · exfalso
        rcases hcase with ⟨_, _, h⟩ | ⟨h, _⟩
        · exact h (okE.addE0 hxw hn1 hroom)
        · exact hn0 h
  · (repeat (first | refine vgo ?_ | refine ⟨_, rfl, rfl, ?_⟩ | refine ⟨_, rfl, ?_⟩ | refine ⟨rfl, ?_⟩ | intro hb | refine altA ?_ | refine altR ?_ | refine sideA ?_ | refine decTA ?_ | refine decFA ?_ | refine decNA ?_ | refine decBTA ?_ | refine decBFA ?_ | refine ⟨_, by assumption, ?_⟩ | refine ⟨_, _, _, rfl, ?_⟩ | refine WC.seq (fun K hK => ?_) | (refine hK _ _ _ ?_; clear hK K) | (refine hK _ _ _ _ rfl ?_; clear hK K) | (refine WX.thenExit (K := K) ?_; clear hK K) | (refine WX.thenExit (K := KL) ?_; clear hL KL)))
    exact WX.ret1 rfl rfl (fun w sw => ⟨[rd (Ty.sl Ty.u64) k1 v1, hG l1, hG out, rd (Ty.sl ovT) out ov], (PS.mk t1 k1 v1 M1 l1 hv1).S q ⟨cs, cn, clg, chd, cmt, cmn, cg, ch⟩ r lm hm, ⟨⟨t1, k1, v1, M1, l1, hv1⟩, out, ok2, hch, hlen, ⟨.inl (by dsimp only; omega), hwt⟩, rfl, rfl⟩, (sw.pub (R := ovT) (l := out) (v := ov) SelOwn.h rfl (opsC_flat out) rfl (ops_oneD hone)).to⟩)
end
end Go.Qd
