/-
  Messages that may be: the program's Right and the document's.
-/
import Derived.Test.YthkeakecckiokaaGreatPTk14
import Derived.Test.YthkeakecckiokaaGreatPMsg7
namespace Go.Qd
/-! ### Messages that may be: the program's Right and the document's. -/
section
open Go Go.Proofs
theorem smN_le {M M' : Nat} (hM : M ≤ M') : ∀ {d d' : Nat} {a : Nd}, d ≤ d' → smN M d a → smN M' d' a
  | 0, _, _, _, h => h.elim
  | d + 1, 0, _, hd, _ => absurd hd (by omega)
  | d + 1, e + 1, _, hd, h => ⟨h.1, Nat.le_trans h.2.1 hM, fun x hx => smN_le hM (d' := e) (by omega) (h.2.2 x hx)⟩
def gdO (x : OpD) : Prop := opP x ∧ okD x ∧ x.n < 18446744073709551616 ∧ smN 16 64 x.F
theorem pCt_ct {l r : List UInt8} {c : Ctt} (h : pCt l = some (c, r)) : c.2.2.1.length ≤ 256 := by
  obtain ⟨k, h1, h2⟩ := bind_some2 h
  split at h2
  · cases h2; exact Nat.zero_le _
  split at h2
  · obtain ⟨p, _, h3⟩ := bind_some2 h2
    cases h3; exact Nat.zero_le _
  split at h2
  · obtain ⟨p, _, h3⟩ := bind_some2 h2
    split at h3
    · rename_i g; cases h3; exact g
    · cases h3
  · obtain ⟨p, h4, h3⟩ := bind_some2 h2
    cases h3; exact Nat.zero_le _
theorem opQ_gd {l r : List UInt8} {x : OpD} (h : opQ l = some (x, r)) : gdO x := by
  obtain ⟨p, h1, h2⟩ := bind_some2 h
  split at h2
  · rename_i g
    cases h2
    obtain ⟨o, n, t, l1, f, l2, k, t1, r1, t2, r2, l3, c, e1, g1, e2, e3, g2, g3, g4, e4, rfl⟩ := pOp_nums h1
    refine ⟨g, ⟨⟨?_, ?_⟩, clP_ok e2, ?_, smN_le (by decide) (by decide) (pCt_sm e4)⟩, nsP_lt e1 n (by simp), pCt_sm e4⟩
    · show (-9223372036854775808 : Int) ≤ (o : Int); omega
    · show (o : Int) ≤ 9223372036854775807; omega
    · have := pCt_ct e4
      show c.2.2.1.length ≤ maxLen
      simp only [maxLen]; omega
  · cases h2
def msR (m : MsD) : Prop := (1 ≤ m.f ∧ m.f ≤ 64) ∧ (1 ≤ m.t ∧ m.t ≤ 64) ∧ m.f ≠ m.t ∧ ((m.k = 1 ∧ 1 ≤ m.l.length ∧ m.l.length ≤ 16) ∨ ((m.k = 2 ∨ m.k = 3) ∧ m.l.length = 0))
noncomputable instance (m : MsD) : Decidable (msR m) := Classical.propDecidable _
/-! The program's -/
set_option maxRecDepth 100000 in
theorem mr1_fun {x : OpD} (hx : gdO x) (d u : Value) : Fun Tryz.prog 40 [popV x d u] [rd (Ty.sl Ty.u64) (trimL x.f) d, rd (Ty.sl nodeT) x.F.ar u] [] (fun r G S => r = .bool false ∧ G = [] ∧ S = []) := by
  have hl64 : (trimL x.f).length ≤ 64 := Nat.le_trans (trimL_length x.f) (Nat.le_of_eq hx.2.1.2.1.1)
  refine Fun.enter Tryz.func40 (by kernel_rfl) rfl Tryz.ntmps40 rfl (fun B Gf Sf => ?_); (try simp only [List.cons_append]); (try simp only [List.nil_append]); simp only [argEnv]
  refine WC.ex (fun w sw => sw.slOne (v := u) (R := nodeT) (l := x.F.ar) InG.h) (fun hu1 => ?_)
  refine WC.ex (fun w sw => sw.slOne (v := d) (R := Ty.u64) (l := trimL x.f) InG.h) (fun hd1 => ?_)
  (repeat (first | refine vgo ?_ | refine ⟨_, rfl, rfl, ?_⟩ | refine ⟨_, rfl, ?_⟩ | refine ⟨rfl, ?_⟩ | intro hb | refine go2 ?_ | refine WC.seq (fun K hK => ?_) | ((first | refine hK _ _ _ ?_ | refine hK _ _ _ _ rfl ?_ | refine WX.thenExit (K := K) ?_); clear hK K) | (refine WX.thenExit (K := KL) ?_; clear hL KL)))
  (first | refine WL.boxA rfl rfl ?_ | refine WL.box rfl rfl rfl ?_); intro b1
  (repeat (first | refine vgo ?_ | refine ⟨_, rfl, rfl, ?_⟩ | refine ⟨_, rfl, ?_⟩ | refine ⟨rfl, ?_⟩ | intro hb | refine go2 ?_ | refine WC.seq (fun K hK => ?_) | ((first | refine hK _ _ _ ?_ | refine hK _ _ _ _ rfl ?_ | refine WX.thenExit (K := K) ?_); clear hK K) | (refine WX.thenExit (K := KL) ?_; clear hL KL)))
  refine CallV.by' (opright_fun (M := 16) x d u (trimL x.f) hl64 (by unfold getC; rw [trimL_getD]) hx.2.2.1 hx.2.2.2) ?_; rintro _ _ _ ⟨rfl, rfl, rfl⟩; (try simp only [List.cons_append]); (try simp only [List.nil_append])
  rw [decide_eq_true hx.1]
  (repeat (first | refine vgo ?_ | refine ⟨_, rfl, rfl, ?_⟩ | refine ⟨_, rfl, ?_⟩ | refine ⟨rfl, ?_⟩ | intro hb | refine go2 ?_ | refine WC.seq (fun K hK => ?_) | ((first | refine hK _ _ _ ?_ | refine hK _ _ _ _ rfl ?_ | refine WX.thenExit (K := K) ?_); clear hK K) | (refine WX.thenExit (K := KL) ?_; clear hL KL)))
  exact WX.ret1 rfl rfl (fun w sw => ⟨[], [], ⟨rfl, rfl, rfl⟩, sw.to⟩)
theorem mr1v_fun {x : OpD} (hx : gdO x) (va : Value) : Fun Tryz.prog 40 [va] [rd popT x va] [] (fun r G S => r = .bool false ∧ G = [] ∧ S = []) :=
  Fun.look (ι := Value × Value) (fun i => [popV x i.1 i.2]) (fun i => [rd (Ty.sl Ty.u64) (trimL x.f) i.1, rd (Ty.sl nodeT) x.F.ar i.2]) (undef, undef) (fun m hm => by
    obtain ⟨d, u, rfl, _, h1, h2⟩ := hm _ (.head _)
    exact ⟨(d, u), rfl, fun g hg => by
      rcases List.mem_cons.1 hg with rfl | hg
      · exact h1
      rcases List.mem_cons.1 hg with rfl | hg
      · exact h2
      · cases hg⟩) (fun i => mr1_fun hx i.1 i.2)
abbrev mr1V : Value := .func (.func 40) #[] #[]
set_option maxRecDepth 100000 in
set_option maxHeartbeats 1600000 in
theorem mindex_fun (l : List OpD) (hl : ∀ x ∈ l, gdO x) (v : Value) : Fun Tryz.prog 59 [v, mr1V] [rd (Ty.sl popT) l v] [] (fun r G S => r = .int .i64 (-1) ∧ G = [] ∧ S = []) := by
  refine Fun.enter Tryz.func59 (by kernel_rfl) rfl Tryz.ntmps59 rfl (fun B Gf Sf => ?_); (try simp only [List.cons_append]); (try simp only [List.nil_append]); simp only [argEnv]
  refine WC.ex (fun w sw => sw.len_le (RdSl.h (v := v))) (fun hlv => ?_)
  (repeat (first | refine vgo ?_ | refine ⟨_, rfl, rfl, ?_⟩ | refine ⟨_, rfl, ?_⟩ | refine ⟨rfl, ?_⟩ | intro hb | refine go2 ?_ | refine WC.seq (fun K hK => ?_) | ((first | refine hK _ _ _ ?_ | refine hK _ _ _ _ rfl ?_ | refine WX.thenExit (K := K) ?_); clear hK K) | (refine WX.thenExit (K := KL) ?_; clear hL KL)))
  refine WC.loop (I := Nat) (fun k => [(0, v), (1, mr1V), (7, .int .i64 (l.length : Nat)), (8, .int .i64 (k : Nat))]) (fun _ => rd (Ty.sl popT) l v :: Gf) (fun _ => Sf) (fun k => k ≤ l.length) (fun k => l.length - k) 0 (Nat.zero_le _) (.cons rfl (.cons rfl (.cons rfl (.cons rfl .nil)))) (fun w h => h.to) ?_
  rintro k hk KL hL
  by_cases g : k < l.length
  · obtain ⟨x, hx⟩ : ∃ x, l[k]? = some x := ⟨_, List.getElem?_eq_getElem g⟩
    have hgx := hl x (List.mem_of_getElem? hx)
    have hpx := mr1v_fun hgx
    (repeat (first | refine vgo ?_ | refine ⟨_, rfl, rfl, ?_⟩ | refine ⟨_, rfl, ?_⟩ | refine ⟨rfl, ?_⟩ | intro hb | refine go2 ?_ | refine WC.seq (fun K hK => ?_) | ((first | refine hK _ _ _ ?_ | refine hK _ _ _ _ rfl ?_ | refine WX.thenExit (K := K) ?_); clear hK K) | (refine WX.thenExit (K := KL) ?_; clear hL KL)))
    refine CallV.by' (hpx _) ?_; rintro _ _ _ ⟨rfl, rfl, rfl⟩; (try simp only [List.cons_append]); (try simp only [List.nil_append])
    (repeat (first | refine vgo ?_ | refine ⟨_, rfl, rfl, ?_⟩ | refine ⟨_, rfl, ?_⟩ | refine ⟨rfl, ?_⟩ | intro hb | refine go2 ?_ | refine WC.seq (fun K hK => ?_) | ((first | refine hK _ _ _ ?_ | refine hK _ _ _ _ rfl ?_ | refine WX.thenExit (K := K) ?_); clear hK K) | (refine WX.thenExit (K := KL) ?_; clear hL KL)))
    exact (hL (k + 1) g (by omega)).conv (.cons rfl (.cons rfl (.cons rfl (.cons rfl .nil)))) (fun w h => h.to)
  · (repeat (first | refine vgo ?_ | refine ⟨_, rfl, rfl, ?_⟩ | refine ⟨_, rfl, ?_⟩ | refine ⟨rfl, ?_⟩ | intro hb | refine go2 ?_ | refine WC.seq (fun K hK => ?_) | ((first | refine hK _ _ _ ?_ | refine hK _ _ _ _ rfl ?_ | refine WX.thenExit (K := K) ?_); clear hK K) | (refine WX.thenExit (K := KL) ?_; clear hL KL)))
    exact WX.ret1 rfl rfl (fun w sw => ⟨[], [], ⟨rfl, rfl, rfl⟩, sw.to⟩)
set_option maxRecDepth 100000 in
theorem mcont_fun (l : List OpD) (hl : ∀ x ∈ l, gdO x) (v : Value) : Fun Tryz.prog 39 [v, mr1V] [rd (Ty.sl popT) l v] [] (fun r G S => r = .bool false ∧ G = [] ∧ S = []) := by
  refine Fun.enter Tryz.func39 (by kernel_rfl) rfl Tryz.ntmps39 rfl (fun B Gf Sf => ?_); (try simp only [List.cons_append]); (try simp only [List.nil_append]); simp only [argEnv]
  (repeat (first | refine vgo ?_ | refine ⟨_, rfl, rfl, ?_⟩ | refine ⟨_, rfl, ?_⟩ | refine ⟨rfl, ?_⟩ | intro hb | refine go2 ?_ | refine WC.seq (fun K hK => ?_) | ((first | refine hK _ _ _ ?_ | refine hK _ _ _ _ rfl ?_ | refine WX.thenExit (K := K) ?_); clear hK K) | (refine WX.thenExit (K := KL) ?_; clear hL KL)))
  refine CallV.by' (mindex_fun l hl v) ?_; rintro _ _ _ ⟨rfl, rfl, rfl⟩; (try simp only [List.cons_append]); (try simp only [List.nil_append])
  (repeat (first | refine vgo ?_ | refine ⟨_, rfl, rfl, ?_⟩ | refine ⟨_, rfl, ?_⟩ | refine ⟨rfl, ?_⟩ | intro hb | refine go2 ?_ | refine WC.seq (fun K hK => ?_) | ((first | refine hK _ _ _ ?_ | refine hK _ _ _ _ rfl ?_ | refine WX.thenExit (K := K) ?_); clear hK K) | (refine WX.thenExit (K := KL) ?_; clear hL KL)))
  exact WX.ret1 rfl rfl (fun w sw => ⟨[], [], ⟨rfl, rfl, rfl⟩, sw.to⟩)
theorem member2_fun (n : Int) : Fun Tryz.prog 38 [.int .i64 n] [] [] (fun r G S => r = .bool (decide (1 ≤ n ∧ n ≤ 64)) ∧ G = [] ∧ S = []) := by
  refine Fun.enter Tryz.func38 (by kernel_rfl) rfl Tryz.ntmps38 rfl (fun B Gf Sf => ?_); (try simp only [List.cons_append]); (try simp only [List.nil_append]); simp only [argEnv]
  by_cases h1 : 1 ≤ n
  · have e : decide (n ≤ 64) = decide (1 ≤ n ∧ n ≤ 64) := decide_eq_decide.2 ⟨fun h => ⟨h1, h⟩, fun h => h.2⟩
    (repeat (first | refine vgo ?_ | refine ⟨_, rfl, rfl, ?_⟩ | refine ⟨_, rfl, ?_⟩ | refine ⟨rfl, ?_⟩ | intro hb | refine go2 ?_ | refine WC.seq (fun K hK => ?_) | ((first | refine hK _ _ _ ?_ | refine hK _ _ _ _ rfl ?_ | refine WX.thenExit (K := K) ?_); clear hK K) | (refine WX.thenExit (K := KL) ?_; clear hL KL)))
    exact WX.ret1 rfl rfl (fun w sw => ⟨[], [], ⟨by rw [e], rfl, rfl⟩, sw.to⟩)
  · have e : decide (1 ≤ n ∧ n ≤ 64) = false := decide_eq_false fun h => h1 h.1
    (repeat (first | refine vgo ?_ | refine ⟨_, rfl, rfl, ?_⟩ | refine ⟨_, rfl, ?_⟩ | refine ⟨rfl, ?_⟩ | intro hb | refine go2 ?_ | refine WC.seq (fun K hK => ?_) | ((first | refine hK _ _ _ ?_ | refine hK _ _ _ _ rfl ?_ | refine WX.thenExit (K := K) ?_); clear hK K) | (refine WX.thenExit (K := KL) ?_; clear hL KL)))
    exact WX.ret1 rfl rfl (fun w sw => ⟨[], [], ⟨by rw [e], rfl, rfl⟩, sw.to⟩)
instance member2_pure {G : List Pers} {n : Int} : PureF Tryz.prog 38 [.int .i64 n] G True (.bool (decide (1 ≤ n ∧ n ≤ 64))) := ⟨fun _ => PureF.of0 (member2_fun n)⟩
set_option maxRecDepth 100000 in
set_option maxHeartbeats 3200000 in
theorem mright2_fun (m : MsD) (d s : Value) (hc : m.c.length = 64) (hl : ∀ x ∈ m.l, gdO x) : Fun Tryz.prog 16 [pmsV m d s] [rd (Ty.sl Ty.u64) (trimL m.c) d, rd (Ty.sl popT) m.l s] [] (fun r G S => r = .bool (decide (msR m)) ∧ G = [] ∧ S = []) := by
  have hl64 : (trimL m.c).length ≤ 64 := Nat.le_trans (trimL_length m.c) (Nat.le_of_eq hc)
  refine Fun.enter Tryz.func16 (by kernel_rfl) rfl Tryz.ntmps16 rfl (fun B Gf Sf => ?_); (try simp only [List.cons_append]); (try simp only [List.nil_append]); simp only [argEnv]
  refine WC.ex (fun w sw => sw.slOne (v := d) (R := Ty.u64) (l := trimL m.c) InG.h) (fun hd1 => ?_)
  refine WC.ex (fun w sw => sw.slOne (v := s) (R := popT) (l := m.l) InG.h) (fun hs1 => ?_)
  refine WC.ex (fun w sw => sw.len_le (RdSl.h (v := s))) (fun hls => ?_)
  (repeat (first | refine vgo ?_ | refine ⟨_, rfl, rfl, ?_⟩ | refine ⟨_, rfl, ?_⟩ | refine ⟨rfl, ?_⟩ | intro hb | refine go2 ?_ | refine WC.seq (fun K hK => ?_) | ((first | refine hK _ _ _ ?_ | refine hK _ _ _ _ rfl ?_ | refine WX.thenExit (K := K) ?_); clear hK K) | (refine WX.thenExit (K := KL) ?_; clear hL KL)))
  (first | refine WL.boxA rfl rfl ?_ | refine WL.box rfl rfl rfl ?_); intro b1
  by_cases h1 : 1 ≤ m.f ∧ m.f ≤ 64
  rotate_left
  · have e : decide (msR m) = false := decide_eq_false fun h => h1 h.1
    (repeat (first | refine vgo ?_ | refine ⟨_, rfl, rfl, ?_⟩ | refine ⟨_, rfl, ?_⟩ | refine ⟨rfl, ?_⟩ | intro hb | refine go2 ?_ | refine WC.seq (fun K hK => ?_) | ((first | refine hK _ _ _ ?_ | refine hK _ _ _ _ rfl ?_ | refine WX.thenExit (K := K) ?_); clear hK K) | (refine WX.thenExit (K := KL) ?_; clear hL KL)))
    exact WX.ret1 rfl rfl (fun w sw => ⟨[], [], ⟨by rw [e], rfl, rfl⟩, sw.to⟩)
  by_cases h2 : 1 ≤ m.t ∧ m.t ≤ 64
  rotate_left
  · have e : decide (msR m) = false := decide_eq_false fun h => h2 h.2.1
    (repeat (first | refine vgo ?_ | refine ⟨_, rfl, rfl, ?_⟩ | refine ⟨_, rfl, ?_⟩ | refine ⟨rfl, ?_⟩ | intro hb | refine go2 ?_ | refine WC.seq (fun K hK => ?_) | ((first | refine hK _ _ _ ?_ | refine hK _ _ _ _ rfl ?_ | refine WX.thenExit (K := K) ?_); clear hK K) | (refine WX.thenExit (K := KL) ?_; clear hL KL)))
    exact WX.ret1 rfl rfl (fun w sw => ⟨[], [], ⟨by rw [e], rfl, rfl⟩, sw.to⟩)
  by_cases h3 : m.f = m.t
  · have e : decide (msR m) = false := decide_eq_false fun h => h.2.2.1 h3
    (repeat (first | refine vgo ?_ | refine ⟨_, rfl, rfl, ?_⟩ | refine ⟨_, rfl, ?_⟩ | refine ⟨rfl, ?_⟩ | intro hb | refine go2 ?_ | refine WC.seq (fun K hK => ?_) | ((first | refine hK _ _ _ ?_ | refine hK _ _ _ _ rfl ?_ | refine WX.thenExit (K := K) ?_); clear hK K) | (refine WX.thenExit (K := KL) ?_; clear hL KL)))
    exact WX.ret1 rfl rfl (fun w sw => ⟨[], [], ⟨by rw [e], rfl, rfl⟩, sw.to⟩)
  by_cases k1 : m.k = 1
  · by_cases h4 : (1 : Int) ≤ (m.l.length : Int)
    rotate_left
    · have e : decide (msR m) = false := decide_eq_false fun h => by
        rcases h.2.2.2 with ⟨_, h5, _⟩ | ⟨h5, _⟩ <;> omega
      (repeat (first | refine vgo ?_ | refine ⟨_, rfl, rfl, ?_⟩ | refine ⟨_, rfl, ?_⟩ | refine ⟨rfl, ?_⟩ | intro hb | refine go2 ?_ | refine WC.seq (fun K hK => ?_) | ((first | refine hK _ _ _ ?_ | refine hK _ _ _ _ rfl ?_ | refine WX.thenExit (K := K) ?_); clear hK K) | (refine WX.thenExit (K := KL) ?_; clear hL KL)))
      exact WX.ret1 rfl rfl (fun w sw => ⟨[], [], ⟨by rw [e], rfl, rfl⟩, sw.to⟩)
    by_cases h6 : (m.l.length : Int) ≤ 16
    · have e : decide (msR m) = true := decide_eq_true ⟨h1, h2, h3, .inl ⟨k1, by omega, by omega⟩⟩
      (repeat (first | refine vgo ?_ | refine ⟨_, rfl, rfl, ?_⟩ | refine ⟨_, rfl, ?_⟩ | refine ⟨rfl, ?_⟩ | intro hb | refine go2 ?_ | refine WC.seq (fun K hK => ?_) | ((first | refine hK _ _ _ ?_ | refine hK _ _ _ _ rfl ?_ | refine WX.thenExit (K := K) ?_); clear hK K) | (refine WX.thenExit (K := KL) ?_; clear hL KL)))
      refine CallV.by' (mcont_fun m.l hl s) ?_; rintro _ _ _ ⟨rfl, rfl, rfl⟩; (try simp only [List.cons_append]); (try simp only [List.nil_append])
      (repeat (first | refine vgo ?_ | refine ⟨_, rfl, rfl, ?_⟩ | refine ⟨_, rfl, ?_⟩ | refine ⟨rfl, ?_⟩ | intro hb | refine go2 ?_ | refine WC.seq (fun K hK => ?_) | ((first | refine hK _ _ _ ?_ | refine hK _ _ _ _ rfl ?_ | refine WX.thenExit (K := K) ?_); clear hK K) | (refine WX.thenExit (K := KL) ?_; clear hL KL)))
      exact WX.ret1 rfl rfl (fun w sw => ⟨[], [], ⟨by rw [e], rfl, rfl⟩, sw.to⟩)
    · have e : decide (msR m) = false := decide_eq_false fun h => by
        rcases h.2.2.2 with ⟨_, _, h5⟩ | ⟨h5, _⟩ <;> omega
      (repeat (first | refine vgo ?_ | refine ⟨_, rfl, rfl, ?_⟩ | refine ⟨_, rfl, ?_⟩ | refine ⟨rfl, ?_⟩ | intro hb | refine go2 ?_ | refine WC.seq (fun K hK => ?_) | ((first | refine hK _ _ _ ?_ | refine hK _ _ _ _ rfl ?_ | refine WX.thenExit (K := K) ?_); clear hK K) | (refine WX.thenExit (K := KL) ?_; clear hL KL)))
      exact WX.ret1 rfl rfl (fun w sw => ⟨[], [], ⟨by rw [e], rfl, rfl⟩, sw.to⟩)
  by_cases k2 : m.k = 2
  · have e : decide ((m.l.length : Int) = 0) = decide (msR m) := decide_eq_decide.2 ⟨fun h => ⟨h1, h2, h3, .inr ⟨.inl k2, by omega⟩⟩, fun h => by
      rcases h.2.2.2 with ⟨h5, _⟩ | ⟨_, h5⟩ <;> omega⟩
    (repeat (first | refine vgo ?_ | refine ⟨_, rfl, rfl, ?_⟩ | refine ⟨_, rfl, ?_⟩ | refine ⟨rfl, ?_⟩ | intro hb | refine go2 ?_ | refine WC.seq (fun K hK => ?_) | ((first | refine hK _ _ _ ?_ | refine hK _ _ _ _ rfl ?_ | refine WX.thenExit (K := K) ?_); clear hK K) | (refine WX.thenExit (K := KL) ?_; clear hL KL)))
    exact WX.ret1 rfl rfl (fun w sw => ⟨[], [], ⟨by rw [← e], rfl, rfl⟩, sw.to⟩)
  by_cases k3 : m.k = 3
  · have e : decide ((m.l.length : Int) = 0) = decide (msR m) := decide_eq_decide.2 ⟨fun h => ⟨h1, h2, h3, .inr ⟨.inr k3, by omega⟩⟩, fun h => by
      rcases h.2.2.2 with ⟨h5, _⟩ | ⟨_, h5⟩ <;> omega⟩
    (repeat (first | refine vgo ?_ | refine ⟨_, rfl, rfl, ?_⟩ | refine ⟨_, rfl, ?_⟩ | refine ⟨rfl, ?_⟩ | intro hb | refine go2 ?_ | refine WC.seq (fun K hK => ?_) | ((first | refine hK _ _ _ ?_ | refine hK _ _ _ _ rfl ?_ | refine WX.thenExit (K := K) ?_); clear hK K) | (refine WX.thenExit (K := KL) ?_; clear hL KL)))
    exact WX.ret1 rfl rfl (fun w sw => ⟨[], [], ⟨by rw [← e], rfl, rfl⟩, sw.to⟩)
  · have e : decide (msR m) = false := decide_eq_false fun h => by
      rcases h.2.2.2 with ⟨h5, _⟩ | ⟨h5, _⟩ <;> omega
    (repeat (first | refine vgo ?_ | refine ⟨_, rfl, rfl, ?_⟩ | refine ⟨_, rfl, ?_⟩ | refine ⟨rfl, ?_⟩ | intro hb | refine go2 ?_ | refine WC.seq (fun K hK => ?_) | ((first | refine hK _ _ _ ?_ | refine hK _ _ _ _ rfl ?_ | refine WX.thenExit (K := K) ?_); clear hK K) | (refine WX.thenExit (K := KL) ?_; clear hL KL)))
    exact WX.ret1 rfl rfl (fun w sw => ⟨[], [], ⟨by rw [e], rfl, rfl⟩, sw.to⟩)
/-! The document's -/
theorem rr15_fun {x : OpD} (hx : gdO x) (va : Value) : Fun Tryz.prog 45 [va] [rd opdT x va] [] (fun r G S => r = .bool true ∧ G = [] ∧ S = []) :=
  Fun.look (ι := Value) (fun i => [ropV x i]) (fun i => [rd (Ty.sl nodeT) x.F.ar i]) undef (fun m hm => by
    obtain ⟨u, rfl, _, h1⟩ := hm _ (.head _)
    exact ⟨u, rfl, fun g hg => by
      rcases List.mem_cons.1 hg with rfl | hg
      · exact h1
      · cases hg⟩) (fun i => (rright14_fun (M := 16) (D := 64) (by decide) x i hx.2.1.2.1.1 hx.2.2.1 hx.2.2.2).imp fun r G S h => ⟨h.1.trans (by rw [decide_eq_true hx.1]), h.2⟩)
set_option maxRecDepth 100000 in
set_option maxHeartbeats 3200000 in
theorem rmright_fun (m : MsD) (u : Value) (hc : m.c.length = 64) (hl : ∀ x ∈ m.l, gdO x) (h16 : m.l.length ≤ 16) : Fun Tryz.prog 21 [rmsV m u] [rd (Ty.sl opdT) m.l u] [] (fun r G S => r = .bool (decide (msR m)) ∧ G = [] ∧ S = []) := by
  have i1 : Len64 m.c := ⟨hc⟩
  refine Fun.enter Tryz.func21 (by kernel_rfl) rfl Tryz.ntmps21 rfl (fun B Gf Sf => ?_); (try simp only [List.cons_append]); (try simp only [List.nil_append]); simp only [argEnv]
  refine WC.ex (fun w sw => sw.slOne (v := u) RdSl.h) (fun hu1 => ?_)
  (repeat (first | refine vgo ?_ | refine ⟨_, rfl, rfl, ?_⟩ | refine ⟨_, rfl, ?_⟩ | refine ⟨rfl, ?_⟩ | intro hb | refine go2 ?_ | refine WC.seq (fun K hK => ?_) | ((first | refine hK _ _ _ ?_ | refine hK _ _ _ _ rfl ?_ | refine WX.thenExit (K := K) ?_); clear hK K) | (refine WX.thenExit (K := KL) ?_; clear hL KL)))
  (first | refine WL.boxA rfl rfl ?_ | refine WL.box rfl rfl rfl ?_); intro b1
  by_cases h1 : m.f < 1
  · have e : decide (msR m) = false := decide_eq_false fun h => by have := h.1.1; omega
    (repeat (first | refine vgo ?_ | refine ⟨_, rfl, rfl, ?_⟩ | refine ⟨_, rfl, ?_⟩ | refine ⟨rfl, ?_⟩ | intro hb | refine go2 ?_ | refine WC.seq (fun K hK => ?_) | ((first | refine hK _ _ _ ?_ | refine hK _ _ _ _ rfl ?_ | refine WX.thenExit (K := K) ?_); clear hK K) | (refine WX.thenExit (K := KL) ?_; clear hL KL)))
    exact WX.ret1 rfl rfl (fun w sw => ⟨[], [], ⟨by rw [e], rfl, rfl⟩, sw.to⟩)
  by_cases h2 : 64 < m.f
  · have e : decide (msR m) = false := decide_eq_false fun h => by have := h.1.2; omega
    (repeat (first | refine vgo ?_ | refine ⟨_, rfl, rfl, ?_⟩ | refine ⟨_, rfl, ?_⟩ | refine ⟨rfl, ?_⟩ | intro hb | refine go2 ?_ | refine WC.seq (fun K hK => ?_) | ((first | refine hK _ _ _ ?_ | refine hK _ _ _ _ rfl ?_ | refine WX.thenExit (K := K) ?_); clear hK K) | (refine WX.thenExit (K := KL) ?_; clear hL KL)))
    exact WX.ret1 rfl rfl (fun w sw => ⟨[], [], ⟨by rw [e], rfl, rfl⟩, sw.to⟩)
  by_cases h3 : m.t < 1
  · have e : decide (msR m) = false := decide_eq_false fun h => by have := h.2.1.1; omega
    (repeat (first | refine vgo ?_ | refine ⟨_, rfl, rfl, ?_⟩ | refine ⟨_, rfl, ?_⟩ | refine ⟨rfl, ?_⟩ | intro hb | refine go2 ?_ | refine WC.seq (fun K hK => ?_) | ((first | refine hK _ _ _ ?_ | refine hK _ _ _ _ rfl ?_ | refine WX.thenExit (K := K) ?_); clear hK K) | (refine WX.thenExit (K := KL) ?_; clear hL KL)))
    exact WX.ret1 rfl rfl (fun w sw => ⟨[], [], ⟨by rw [e], rfl, rfl⟩, sw.to⟩)
  by_cases h4 : 64 < m.t
  · have e : decide (msR m) = false := decide_eq_false fun h => by have := h.2.1.2; omega
    (repeat (first | refine vgo ?_ | refine ⟨_, rfl, rfl, ?_⟩ | refine ⟨_, rfl, ?_⟩ | refine ⟨rfl, ?_⟩ | intro hb | refine go2 ?_ | refine WC.seq (fun K hK => ?_) | ((first | refine hK _ _ _ ?_ | refine hK _ _ _ _ rfl ?_ | refine WX.thenExit (K := K) ?_); clear hK K) | (refine WX.thenExit (K := KL) ?_; clear hL KL)))
    exact WX.ret1 rfl rfl (fun w sw => ⟨[], [], ⟨by rw [e], rfl, rfl⟩, sw.to⟩)
  by_cases h5 : m.f = m.t
  · have e : decide (msR m) = false := decide_eq_false fun h => h.2.2.1 h5
    (repeat (first | refine vgo ?_ | refine ⟨_, rfl, rfl, ?_⟩ | refine ⟨_, rfl, ?_⟩ | refine ⟨rfl, ?_⟩ | intro hb | refine go2 ?_ | refine WC.seq (fun K hK => ?_) | ((first | refine hK _ _ _ ?_ | refine hK _ _ _ _ rfl ?_ | refine WX.thenExit (K := K) ?_); clear hK K) | (refine WX.thenExit (K := KL) ?_; clear hL KL)))
    exact WX.ret1 rfl rfl (fun w sw => ⟨[], [], ⟨by rw [e], rfl, rfl⟩, sw.to⟩)
  by_cases h6 : m.k < 1
  · have e : decide (msR m) = false := decide_eq_false fun h => by
      rcases h.2.2.2 with ⟨h8, _⟩ | ⟨h8, _⟩ <;> omega
    (repeat (first | refine vgo ?_ | refine ⟨_, rfl, rfl, ?_⟩ | refine ⟨_, rfl, ?_⟩ | refine ⟨rfl, ?_⟩ | intro hb | refine go2 ?_ | refine WC.seq (fun K hK => ?_) | ((first | refine hK _ _ _ ?_ | refine hK _ _ _ _ rfl ?_ | refine WX.thenExit (K := K) ?_); clear hK K) | (refine WX.thenExit (K := KL) ?_; clear hL KL)))
    exact WX.ret1 rfl rfl (fun w sw => ⟨[], [], ⟨by rw [e], rfl, rfl⟩, sw.to⟩)
  by_cases h7 : 3 < m.k
  · have e : decide (msR m) = false := decide_eq_false fun h => by
      rcases h.2.2.2 with ⟨h8, _⟩ | ⟨h8, _⟩ <;> omega
    (repeat (first | refine vgo ?_ | refine ⟨_, rfl, rfl, ?_⟩ | refine ⟨_, rfl, ?_⟩ | refine ⟨rfl, ?_⟩ | intro hb | refine go2 ?_ | refine WC.seq (fun K hK => ?_) | ((first | refine hK _ _ _ ?_ | refine hK _ _ _ _ rfl ?_ | refine WX.thenExit (K := K) ?_); clear hK K) | (refine WX.thenExit (K := KL) ?_; clear hL KL)))
    exact WX.ret1 rfl rfl (fun w sw => ⟨[], [], ⟨by rw [e], rfl, rfl⟩, sw.to⟩)
  by_cases k1 : m.k = 1
  rotate_left
  · have e : decide ((m.l.length : Int) = 0) = decide (msR m) := decide_eq_decide.2 ⟨fun h => ⟨⟨by omega, by omega⟩, ⟨by omega, by omega⟩, h5, .inr ⟨by omega, by omega⟩⟩, fun h => by
      rcases h.2.2.2 with ⟨h8, _⟩ | ⟨_, h8⟩ <;> omega⟩
    (repeat (first | refine vgo ?_ | refine ⟨_, rfl, rfl, ?_⟩ | refine ⟨_, rfl, ?_⟩ | refine ⟨rfl, ?_⟩ | intro hb | refine go2 ?_ | refine WC.seq (fun K hK => ?_) | ((first | refine hK _ _ _ ?_ | refine hK _ _ _ _ rfl ?_ | refine WX.thenExit (K := K) ?_); clear hK K) | (refine WX.thenExit (K := KL) ?_; clear hL KL)))
    exact WX.ret1 rfl rfl (fun w sw => ⟨[], [], ⟨by rw [← e], rfl, rfl⟩, sw.to⟩)
  (repeat (first | refine vgo ?_ | refine ⟨_, rfl, rfl, ?_⟩ | refine ⟨_, rfl, ?_⟩ | refine ⟨rfl, ?_⟩ | intro hb | refine go2 ?_ | refine WC.seq (fun K hK => ?_) | ((first | refine hK _ _ _ ?_ | refine hK _ _ _ _ rfl ?_ | refine WX.thenExit (K := K) ?_); clear hK K) | (refine WX.thenExit (K := KL) ?_; clear hL KL)))
  refine WC.loop (I := Nat) (fun k => [(1, .pointer (some ⟨b1, 0, none⟩)), (2, .bool false), (3, .int .i64 (k : Nat))]) (fun _ => rd (Ty.sl opdT) m.l u :: Gf) (fun _ => rmB b1 m u :: Sf) (fun k => k ≤ m.l.length) (fun k => m.l.length - k) 0 (Nat.zero_le _) (.cons rfl (.cons rfl (.cons rfl .nil))) (fun w h => h.to) ?_
  rintro k hk KL hL
  by_cases g : k < m.l.length
  · obtain ⟨x, hx⟩ : ∃ x, m.l[k]? = some x := ⟨_, List.getElem?_eq_getElem g⟩
    have hpx := rr15_fun (hl x (List.mem_of_getElem? hx))
    (repeat (first | refine vgo ?_ | refine ⟨_, rfl, rfl, ?_⟩ | refine ⟨_, rfl, ?_⟩ | refine ⟨rfl, ?_⟩ | intro hb | refine go2 ?_ | refine WC.seq (fun K hK => ?_) | ((first | refine hK _ _ _ ?_ | refine hK _ _ _ _ rfl ?_ | refine WX.thenExit (K := K) ?_); clear hK K) | (refine WX.thenExit (K := KL) ?_; clear hL KL)))
    refine CallV.by' (hpx _) ?_; rintro _ _ _ ⟨rfl, rfl, rfl⟩; (try simp only [List.cons_append]); (try simp only [List.nil_append])
    (repeat (first | refine vgo ?_ | refine ⟨_, rfl, rfl, ?_⟩ | refine ⟨_, rfl, ?_⟩ | refine ⟨rfl, ?_⟩ | intro hb | refine go2 ?_ | refine WC.seq (fun K hK => ?_) | ((first | refine hK _ _ _ ?_ | refine hK _ _ _ _ rfl ?_ | refine WX.thenExit (K := K) ?_); clear hK K) | (refine WX.thenExit (K := KL) ?_; clear hL KL)))
    exact (hL (k + 1) g (by omega)).conv (.cons rfl (.cons rfl (.cons rfl .nil))) (fun w h => h.to)
  · by_cases h8 : (1 : Int) ≤ (m.l.length : Int)
    · have h9 : (m.l.length : Int) ≤ 16 := by omega
      have e : decide (msR m) = true := decide_eq_true ⟨⟨by omega, by omega⟩, ⟨by omega, by omega⟩, h5, .inl ⟨k1, by omega, by omega⟩⟩
      (repeat (first | refine vgo ?_ | refine ⟨_, rfl, rfl, ?_⟩ | refine ⟨_, rfl, ?_⟩ | refine ⟨rfl, ?_⟩ | intro hb | refine go2 ?_ | refine WC.seq (fun K hK => ?_) | ((first | refine hK _ _ _ ?_ | refine hK _ _ _ _ rfl ?_ | refine WX.thenExit (K := K) ?_); clear hK K) | (refine WX.thenExit (K := KL) ?_; clear hL KL)))
      exact WX.ret1 rfl rfl (fun w sw => ⟨[], [], ⟨by rw [e, decide_eq_true h9], rfl, rfl⟩, sw.to⟩)
    · have e : decide (msR m) = false := decide_eq_false fun h => by
        rcases h.2.2.2 with ⟨_, h9, _⟩ | ⟨h9, _⟩ <;> omega
      (repeat (first | refine vgo ?_ | refine ⟨_, rfl, rfl, ?_⟩ | refine ⟨_, rfl, ?_⟩ | refine ⟨rfl, ?_⟩ | intro hb | refine go2 ?_ | refine WC.seq (fun K hK => ?_) | ((first | refine hK _ _ _ ?_ | refine hK _ _ _ _ rfl ?_ | refine WX.thenExit (K := K) ?_); clear hK K) | (refine WX.thenExit (K := KL) ?_; clear hL KL)))
      exact WX.ret1 rfl rfl (fun w sw => ⟨[], [], ⟨by rw [e], rfl, rfl⟩, sw.to⟩)
end
/-! ### Messages taken from bytes: the parser, and the program's Decode. -/
section
open Go Go.Proofs
noncomputable def pOs : Nat → List UInt8 → Option (List OpD × List UInt8)
  | 0, l => some ([], l)
  | n + 1, l => (opQ l).bind fun p => (pOs n p.2).bind fun q => some (p.1 :: q.1, q.2)
/-- What a message comes to, if its operations are these, and these bytes are left. -/
noncomputable def fin (m : MsD) (xs : List OpD) (r : List UInt8) : Option MsD := if r = [] ∧ msR { m with l := xs } then some { m with l := xs } else none
abbrev mkM (k f t : Nat) (c : List Nat) : MsD := ⟨(k : Int), (f : Int), (t : Int), c, []⟩
noncomputable def pMs (l : List UInt8) : Option MsD := (intP 3 l).bind fun k => (intP 64 k.2).bind fun f => (intP 64 f.2).bind fun t => (clP t.2).bind fun c => (intP 16 c.2).bind fun n => (pOs n.1 n.2).bind fun q => fin (mkM k.1 f.1 t.1 c.1) q.1 q.2
noncomputable def mQ (l : List UInt8) : Option MsD := if opens l then pMs (openB l) else none
abbrev zMs : MsD := ⟨0, 0, 0, List.replicate 64 0, []⟩
abbrev zRx : OpD := { zOd with f := List.replicate 64 0 }
theorem trimL_r64 : trimL (List.replicate 64 0) = [] := (trimL_ext (l := List.replicate 64 0) (m := []) (fun i => by
  rw [List.getD_eq_getElem?_getD, List.getElem?_replicate]
  split <;> rfl)).trans trimL_nil
theorem okF_r64 : okF (List.replicate 64 0) := ⟨by rw [List.length_replicate], fun x hx => by rw [List.eq_of_mem_replicate hx]; decide⟩
theorem okD_zRx : okD zRx := ⟨⟨by decide, by decide⟩, okF_r64, Nat.zero_le _, smN_le (by decide) (by decide) sm_zNt⟩
theorem oTake2_fun (b : Nat) (l : List UInt8) (v : Value) : Fun Tryz.prog 14 [.pointer (some ⟨b, 0, none⟩)] [rd (Ty.sl Ty.u8) l v] [rdrBox b v false] (fun z G S => ∃ (y : OpD) (d u : Value) (bad : Bool) (l' : List UInt8) (v' : Value), z = .tuple #[popV y d u, .bool (opQ l).isSome] ∧ G = [rd (Ty.sl nodeT) y.F.ar u, rd (Ty.sl Ty.u64) (trimL y.f) d, rd (Ty.sl Ty.u8) l' v'] ∧ S = [rdrBox b v' bad] ∧ okD y ∧ (∀ x0 r0, opQ l = some (x0, r0) → y = x0 ∧ l' = r0 ∧ bad = false)) :=
  (oTake_fun b l v).imp fun z G S h => by
    obtain ⟨x, d, u, bad, l', v', hz, hG, hS, hn, hs⟩ := h
    cases hq : opQ l with
    | none =>
      obtain rfl := hn hq
      refine ⟨zRx, d, u, bad, l', v', by rw [hz, hq], ?_, hS, okD_zRx, fun x0 r0 h => by cases h⟩
      rw [hG, trimL_r64, trimL_nil]
    | some p =>
      obtain ⟨x0, r0⟩ := p
      obtain ⟨rfl, rfl, rfl⟩ := hs x0 r0 hq
      refine ⟨x, d, u, false, l', v', by rw [hz, hq], hG, hS, (opQ_gd hq).2.1, fun x1 r1 h => ?_⟩
      cases h; exact ⟨rfl, rfl, rfl⟩
theorem chainM (l : List UInt8) : ∃ (k : Nat) (l1 : List UInt8) (b1 : Bool) (f : Nat) (l2 : List UInt8) (b2 : Bool) (t : Nat) (l3 : List UInt8) (b3 : Bool), intR 3 l false = (k, l1, b1) ∧ intR 64 l1 b1 = (f, l2, b2) ∧ intR 64 l2 b2 = (t, l3, b3) ∧ ((b3 = true ∧ l3 = [] ∧ pMs l = none) ∨ (b3 = false ∧ pMs l = (clP l3).bind fun c => (intP 16 c.2).bind fun n => (pOs n.1 n.2).bind fun q => fin (mkM k f t c.1) q.1 q.2)) := by
  cases h1 : intP 3 l with
  | none => exact ⟨0, [], true, 0, [], true, 0, [], true, intR_none h1, intR_nil (by omega), intR_nil (by omega), .inl ⟨rfl, rfl, by rw [pMs, h1]; rfl⟩⟩
  | some p =>
    obtain ⟨k, l1⟩ := p
    have e1 := (intR_some h1).1
    cases h2 : intP 64 l1 with
    | none => exact ⟨k, l1, false, 0, [], true, 0, [], true, e1, intR_none h2, intR_nil (by omega), .inl ⟨rfl, rfl, by rw [pMs, h1, Option.bind_some]; dsimp only; rw [h2]; rfl⟩⟩
    | some p =>
      obtain ⟨f, l2⟩ := p
      have e2 := (intR_some h2).1
      cases h3 : intP 64 l2 with
      | none => exact ⟨k, l1, false, f, l2, false, 0, [], true, e1, e2, intR_none h3, .inl ⟨rfl, rfl, by rw [pMs, h1, Option.bind_some]; dsimp only; rw [h2, Option.bind_some]; dsimp only; rw [h3]; rfl⟩⟩
      | some p => exact ⟨k, l1, false, f, l2, false, p.1, p.2, false, e1, e2, (intR_some h3).1, .inr ⟨rfl, by rw [pMs, h1, Option.bind_some]; dsimp only; rw [h2, Option.bind_some]; dsimp only; rw [h3, Option.bind_some]⟩⟩
/-- What stands before the loop over the operations: a message's head, and how many are to come. -/
def headP (k f t : Nat) (P : Option MsD) (ok : Bool) (c : List Nat) (n : Nat) (l : List UInt8) (bad : Bool) : Prop :=
  (∃ cf, ok = true ∧ bad = false ∧ okF cf ∧ c = trimL cf ∧ P = (pOs n l).bind fun q => fin (mkM k f t cf) q.1 q.2) ∨ (ok = true ∧ bad = true ∧ n = 0 ∧ P = none) ∨ (ok = false ∧ P = none)
theorem intR_le16 {l : List UInt8} {bad : Bool} : (intR 16 l bad).1 ≤ 16 := by
  unfold intR
  split
  · exact Nat.zero_le _
  · rename_i h
    omega
theorem head_of {k f t : Nat} {l3 : List UInt8} {b3 : Bool} {P : Option MsD} (h : (b3 = true ∧ l3 = [] ∧ P = none) ∨ (b3 = false ∧ P = (clP l3).bind fun c => (intP 16 c.2).bind fun n => (pOs n.1 n.2).bind fun q => fin (mkM k f t c.1) q.1 q.2)) :
    headP k f t P (clockR l3 b3).1.1 (clockR l3 b3).1.2 (intR 16 (clockR l3 b3).2.1 (clockR l3 b3).2.2).1 (intR 16 (clockR l3 b3).2.1 (clockR l3 b3).2.2).2.1 (intR 16 (clockR l3 b3).2.1 (clockR l3 b3).2.2).2.2 := by
  rcases h with ⟨rfl, rfl, hp⟩ | ⟨rfl, hp⟩
  · exact .inr (.inr ⟨by rw [clockR_nil], hp⟩)
  · cases hc : clP l3 with
    | none => exact .inr (.inr ⟨clP_none hc, by rw [hp, hc]; rfl⟩)
    | some p =>
      obtain ⟨cf, l4⟩ := p
      have hcR := clP_some hc
      rw [hcR]
      dsimp only
      cases hn : intP 16 l4 with
      | none =>
        have e := intR_none hn
        refine .inr (.inl ⟨rfl, ?_, ?_, by rw [hp, hc, Option.bind_some]; dsimp only; rw [hn]; rfl⟩)
        · exact congrArg (fun x => x.2.2) e
        · exact congrArg (fun x => x.1) e
      | some p =>
        obtain ⟨n, l5⟩ := p
        have e := (intR_some hn).1
        have e1 : (intR 16 l4 false).1 = n := congrArg (fun x => x.1) e
        have e2 : (intR 16 l4 false).2.1 = l5 := congrArg (fun x => x.2.1) e
        have e3 : (intR 16 l4 false).2.2 = false := congrArg (fun x => x.2.2) e
        rw [e1, e2, e3]
        exact .inl ⟨cf, rfl, rfl, clP_ok hc, rfl, by rw [hp, hc, Option.bind_some]; dsimp only; rw [hn, Option.bind_some]⟩
theorem pOs_go {n : Nat} {l l2 : List UInt8} {x : OpD} {M : MsD} {xs : List OpD} (h : opQ l = some (x, l2)) : ((pOs (n + 1) l).bind fun q => fin M (xs ++ q.1) q.2) = (pOs n l2).bind fun q => fin M ((xs ++ [x]) ++ q.1) q.2 := by
  rw [pOs, h, Option.bind_some]
  cases pOs n l2 with
  | none => rfl
  | some q => simp
theorem pOs_no {n : Nat} {l : List UInt8} {M : MsD} {xs : List OpD} (h : opQ l = none) : ((pOs (n + 1) l).bind fun q => fin M (xs ++ q.1) q.2) = none := by
  rw [pOs, h]; rfl
def DcR (l : List UInt8) (z : Value) (G : List Pers) (S : List Res) : Prop := ∃ (m : MsD) (d s : Value), z = .tuple #[pmsV m d s, .int .i64 (if (mQ l).isSome then 0 else 28)] ∧ G = [rd (Ty.sl Ty.u64) (trimL m.c) d, rd (Ty.sl popT) m.l s] ∧ S = [] ∧ m = (mQ l).getD zMs
theorem DcR.no {l : List UInt8} (h : mQ l = none) : DcR l (.tuple #[pmsV zMs nlS nlS, .int .i64 28]) [rd (Ty.sl Ty.u64) [] nlS, rd (Ty.sl popT) [] nlS] [] :=
  ⟨zMs, nlS, nlS, by rw [h]; rfl, by rw [trimL_r64], rfl, by rw [h]; rfl⟩
theorem DcR.yes {l : List UInt8} {m : MsD} {d s : Value} (h : mQ l = some m) : DcR l (.tuple #[pmsV m d s, .int .i64 0]) [rd (Ty.sl Ty.u64) (trimL m.c) d, rd (Ty.sl popT) m.l s] [] :=
  ⟨m, d, s, by rw [h]; rfl, rfl, rfl, by rw [h]; rfl⟩
structure DIx where
  i : Nat
  ok : Bool
  bad : Bool
  r : List UInt8
  v : Value
  sv : Value
  xs : List OpD
  vs : List Value
def dInv (k f t : Nat) (P : Option MsD) (c : List Nat) (n : Nat) (x : DIx) : Prop :=
  x.i ≤ n ∧ x.xs.length = x.i ∧ ((∃ cf, x.ok = true ∧ x.bad = false ∧ okF cf ∧ c = trimL cf ∧ (∀ y ∈ x.xs, gdO y) ∧ P = (pOs (n - x.i) x.r).bind fun q => fin (mkM k f t cf) (x.xs ++ q.1) q.2) ∨ (x.ok = true ∧ x.bad = true ∧ n = 0 ∧ P = none) ∨ (x.ok = false ∧ P = none))
abbrev mB7 (b k f t : Nat) (d s : Value) : Res := box b 28 [.int .i64 (k : Int), .int .i64 (f : Int), .int .i64 (t : Int), d, s]
set_option maxRecDepth 100000 in
set_option maxHeartbeats 3200000 in
theorem mdecode_fun (l : List UInt8) (hl : l.length ≤ 2000) (v : Value) : Fun Tryz.prog 5 [v] [rd (Ty.sl Ty.u8) l v] [] (DcR l) := by
  refine Fun.enter Tryz.func5 (by kernel_rfl) rfl Tryz.ntmps5 rfl (fun B Gf Sf => ?_); (try simp only [List.cons_append]); (try simp only [List.nil_append]); simp only [argEnv]
  refine WC.sat (fun w sw => sw.rdNil (popT)) ?_
  refine WC.sat (fun w sw => sw.rdNil (Ty.u64)) ?_
  (repeat (first | refine vgo ?_ | refine ⟨_, rfl, rfl, ?_⟩ | refine ⟨_, rfl, ?_⟩ | refine ⟨rfl, ?_⟩ | intro hb | refine go2 ?_ | refine WC.seq (fun K hK => ?_) | ((first | refine hK _ _ _ ?_ | refine hK _ _ _ _ rfl ?_ | refine WX.thenExit (K := K) ?_); clear hK K) | (refine WX.thenExit (K := KL) ?_; clear hL KL)))
  refine WL.alloc rfl ?_; intro b2
  (repeat (first | refine vgo ?_ | refine ⟨_, rfl, rfl, ?_⟩ | refine ⟨_, rfl, ?_⟩ | refine ⟨rfl, ?_⟩ | intro hb | refine go2 ?_ | refine WC.seq (fun K hK => ?_) | ((first | refine hK _ _ _ ?_ | refine hK _ _ _ _ rfl ?_ | refine WX.thenExit (K := K) ?_); clear hK K) | (refine WX.thenExit (K := KL) ?_; clear hL KL)))
  refine CallV.by' (open_fun l v hl) ?_; rintro _ _ _ ⟨rfl, x1, rfl, rfl⟩; (try simp only [List.cons_append]); (try simp only [List.nil_append])
  by_cases ho : opens l
  rotate_left
  · have hq : mQ l = none := by rw [mQ, if_neg ho]
    rw [decide_eq_false ho]
    (repeat (first | refine vgo ?_ | refine ⟨_, rfl, rfl, ?_⟩ | refine ⟨_, rfl, ?_⟩ | refine ⟨rfl, ?_⟩ | intro hb | refine go2 ?_ | refine WC.seq (fun K hK => ?_) | ((first | refine hK _ _ _ ?_ | refine hK _ _ _ _ rfl ?_ | refine WX.thenExit (K := K) ?_); clear hK K) | (refine WX.thenExit (K := KL) ?_; clear hL KL)))
    exact WX.retC2K (b := b2) rfl rfl rfl rfl (fun w sw => ⟨[rd (Ty.sl Ty.u64) [] nlS, rd (Ty.sl popT) [] nlS], [], DcR.no hq, sw.to⟩)
  rw [decide_eq_true ho]
  have hmq : mQ l = pMs (openB l) := by rw [mQ, if_pos ho]
  generalize openB l = o at *
  (repeat (first | refine vgo ?_ | refine ⟨_, rfl, rfl, ?_⟩ | refine ⟨_, rfl, ?_⟩ | refine ⟨rfl, ?_⟩ | intro hb | refine go2 ?_ | refine WC.seq (fun K hK => ?_) | ((first | refine hK _ _ _ ?_ | refine hK _ _ _ _ rfl ?_ | refine WX.thenExit (K := K) ?_); clear hK K) | (refine WX.thenExit (K := KL) ?_; clear hL KL)))
  obtain ⟨k, l1, b1, f, l2, bb2, t, l3, b3, e1, e2, e3, hch⟩ := chainM o
  rw [e1]
  dsimp only
  rw [e2]
  dsimp only
  rw [e3]
  dsimp only
  refine WL.alloc rfl ?_; intro b7
  (repeat (first | refine vgo ?_ | refine ⟨_, rfl, rfl, ?_⟩ | refine ⟨_, rfl, ?_⟩ | refine ⟨rfl, ?_⟩ | intro hb | refine go2 ?_ | refine WC.seq (fun K hK => ?_) | ((first | refine hK _ _ _ ?_ | refine hK _ _ _ _ rfl ?_ | refine WX.thenExit (K := K) ?_); clear hK K) | (refine WX.thenExit (K := KL) ?_; clear hL KL)))
  have hd := head_of hch
  have hn16 : (intR 16 (clockR l3 b3).2.1 (clockR l3 b3).2.2).1 ≤ 16 := intR_le16
  rename_i rb _ _ _ dv _
  generalize (intR 16 (clockR l3 b3).2.1 (clockR l3 b3).2.2).1 = n at *
  generalize (intR 16 (clockR l3 b3).2.1 (clockR l3 b3).2.2).2.1 = lr at *
  generalize (intR 16 (clockR l3 b3).2.1 (clockR l3 b3).2.2).2.2 = bd at *
  generalize (clockR l3 b3).1.1 = ok0 at *
  generalize (clockR l3 b3).1.2 = c0 at *
  refine WC.ex (fun w sw => sw.slOne (v := dv) (R := Ty.u64) (l := c0) InG.h) (fun hd1 => ?_)
  refine WC.loop (I := DIx) (fun x => [(2, .pointer (some ⟨b2, 0, none⟩)), (3, .int .i64 0), (5, .bool x.ok), (6, .pointer (some ⟨rb, 0, none⟩)), (7, .pointer (some ⟨b7, 0, none⟩)), (33, .int .i64 (n : Nat)), (34, .int .i64 (x.i : Nat))])
    (fun x => rdAll popT x.xs x.vs :: rd (Ty.sl Ty.u8) x.r x.v :: rd (Ty.sl Ty.u64) c0 dv :: rd (Ty.sl Ty.u64) [] nlS :: rd (Ty.sl popT) [] nlS :: rd (Ty.sl Ty.u8) l v :: Gf)
    (fun x => opO x.sv x.i (flat x.vs) :: rdrBox rb x.v x.bad :: mB7 b7 k f t dv x.sv :: box b2 28 msZ :: Sf)
    (dInv k f t (pMs o) c0 n) (fun x => n - x.i) ⟨0, ok0, bd, lr, hb, .slice none 0 0, [], []⟩
    ⟨Nat.zero_le _, rfl, by
      rcases hd with ⟨cf, h1, h2, h3, h4, h5⟩ | h | h
      · exact .inl ⟨cf, h1, h2, h3, h4, (fun y hy => by cases hy), h5⟩
      · exact .inr (.inl h)
      · exact .inr (.inr h)⟩ (.cons rfl (.cons rfl (.cons rfl (.cons rfl (.cons rfl (.cons rfl (.cons rfl .nil))))))) (fun w h => by
    have h2 := Sat.rdAllNil popT (h.ownNil 62 24)
    dsimp only [flat_nil]
    exact h2.to) ?_
  clear hd e1 e2 e3 hch
  rintro ⟨i, ok, bad, r, vr, sv, xs, vs⟩ ⟨hi, hxl, hinv⟩ KL hL
  dsimp only at hi hxl hinv ⊢
  cases ok with
  | false =>
    have hno : mQ l = none := by
      rw [hmq]
      rcases hinv with ⟨_, h, _⟩ | ⟨h, _⟩ | ⟨_, h⟩
      · cases h
      · cases h
      · exact h
    by_cases g : i < n
    · (repeat (first | refine vgo ?_ | refine ⟨_, rfl, rfl, ?_⟩ | refine ⟨_, rfl, ?_⟩ | refine ⟨rfl, ?_⟩ | intro hb | refine go2 ?_ | refine WC.seq (fun K hK => ?_) | ((first | refine hK _ _ _ ?_ | refine hK _ _ _ _ rfl ?_ | refine WX.thenExit (K := K) ?_); clear hK K) | (refine WX.thenExit (K := KL) ?_; clear hL KL)))
      exact WX.retC2K (b := b2) rfl rfl rfl rfl (fun w sw => ⟨[rd (Ty.sl Ty.u64) [] nlS, rd (Ty.sl popT) [] nlS], [], DcR.no hno, sw.to⟩)
    · (repeat (first | refine vgo ?_ | refine ⟨_, rfl, rfl, ?_⟩ | refine ⟨_, rfl, ?_⟩ | refine ⟨rfl, ?_⟩ | intro hb | refine go2 ?_ | refine WC.seq (fun K hK => ?_) | ((first | refine hK _ _ _ ?_ | refine hK _ _ _ _ rfl ?_ | refine WX.thenExit (K := K) ?_); clear hK K) | (refine WX.thenExit (K := KL) ?_; clear hL KL)))
      exact WX.retC2K (b := b2) rfl rfl rfl rfl (fun w sw => ⟨[rd (Ty.sl Ty.u64) [] nlS, rd (Ty.sl popT) [] nlS], [], DcR.no hno, sw.to⟩)
  | true =>
    by_cases g : i < n
    · obtain ⟨cf, rfl, hcf, hct, hgd, hP⟩ : ∃ cf, bad = false ∧ okF cf ∧ c0 = trimL cf ∧ (∀ y ∈ xs, gdO y) ∧ pMs o = (pOs (n - i) r).bind fun q => fin (mkM k f t cf) (xs ++ q.1) q.2 := by
        rcases hinv with ⟨cf, _, h⟩ | ⟨_, _, h, _⟩ | ⟨h, _⟩
        · exact ⟨cf, h⟩
        · omega
        · cases h
      obtain ⟨m, hm⟩ : ∃ m, n - i = m + 1 := ⟨n - i - 1, by omega⟩
      (repeat (first | refine vgo ?_ | refine ⟨_, rfl, rfl, ?_⟩ | refine ⟨_, rfl, ?_⟩ | refine ⟨rfl, ?_⟩ | intro hb | refine go2 ?_ | refine WC.seq (fun K hK => ?_) | ((first | refine hK _ _ _ ?_ | refine hK _ _ _ _ rfl ?_ | refine WX.thenExit (K := K) ?_); clear hK K) | (refine WX.thenExit (K := KL) ?_; clear hL KL)))
      refine WL.alloc rfl ?_; intro b8
      (repeat (first | refine vgo ?_ | refine ⟨_, rfl, rfl, ?_⟩ | refine ⟨_, rfl, ?_⟩ | refine ⟨rfl, ?_⟩ | intro hb | refine go2 ?_ | refine WC.seq (fun K hK => ?_) | ((first | refine hK _ _ _ ?_ | refine hK _ _ _ _ rfl ?_ | refine WX.thenExit (K := K) ?_); clear hK K) | (refine WX.thenExit (K := KL) ?_; clear hL KL)))
      refine CallV.by' (oTake2_fun rb r vr) ?_; rintro _ _ _ ⟨y, d, u, bad1, r1, v1, rfl, rfl, rfl, oky, hy⟩; (try simp only [List.cons_append]); (try simp only [List.nil_append])
      (repeat (first | refine vgo ?_ | refine ⟨_, rfl, rfl, ?_⟩ | refine ⟨_, rfl, ?_⟩ | refine ⟨rfl, ?_⟩ | intro hb | refine go2 ?_ | refine WC.seq (fun K hK => ?_) | ((first | refine hK _ _ _ ?_ | refine hK _ _ _ _ rfl ?_ | refine WX.thenExit (K := K) ?_); clear hK K) | (refine WX.thenExit (K := KL) ?_; clear hL KL)))
      have hstep : dInv k f t (pMs o) c0 n ⟨i + 1, (opQ r).isSome, bad1, r1, v1, hb, xs ++ [y], vs ++ [popV y d u]⟩ := by
        refine ⟨g, by simp [hxl], ?_⟩
        cases hq : opQ r with
        | none => exact .inr (.inr ⟨rfl, by rw [hP, hm, pOs_no hq]⟩)
        | some p =>
          obtain ⟨x0, r0⟩ := p
          obtain ⟨rfl, rfl, rfl⟩ := hy x0 r0 hq
          refine .inl ⟨cf, rfl, rfl, hcf, hct, ?_, ?_⟩
          · intro z hz
            rcases List.mem_append.1 hz with hz | hz
            · exact hgd z hz
            · rw [List.mem_singleton.1 hz]; exact opQ_gd hq
          · dsimp only
            rw [hP, hm, pOs_go hq, show n - (i + 1) = m from by omega]
      refine (hL ⟨i + 1, (opQ r).isSome, bad1, r1, v1, hb, xs ++ [y], vs ++ [popV y d u]⟩ hstep (by dsimp only; omega)).conv (.cons rfl (.cons rfl (.cons rfl (.cons rfl (.cons rfl (.cons rfl (.cons rfl .nil))))))) (fun w h => ?_)
      dsimp only
      rw [flat_snoc, show (popV y d u).cells.toList = popC y d u from rfl]
      have h2 := h.more (p := rdAll popT (xs ++ [y]) (vs ++ [popV y d u])) (fun mm hmm => AllR.snoc (hmm (rdAll popT xs vs) InG.h) (pop_mk oky (hmm (rd (Ty.sl Ty.u64) (trimL y.f) d) InG.h) (hmm (rd (Ty.sl nodeT) y.F.ar u) InG.h)))
      simp only [List.append_nil] at h2
      exact h2.to
    · rcases hinv with ⟨cf, _, rfl, hcf, hct, hgd, hP⟩ | ⟨_, rfl, _, hno⟩ | ⟨h, _⟩
      · subst hct
        rw [show n - i = 0 from by omega] at hP
        have hP : mQ l = fin (mkM k f t cf) xs r := by rw [hmq, hP]; show fin _ (xs ++ []) r = _; rw [List.append_nil]
        by_cases hr : r = []
        · subst hr
          have hE : (!(!false && ([] : List UInt8).isEmpty)) = false := rfl
          refine WC.sat (fun w sw => sw.pubR (R := popT) (l := xs) (v := sv) (vs := vs) SelOwn.h rfl rfl hxl.symm (fun mm hmm => hmm (rdAll popT xs vs) InG.h)) ?_
          (repeat (first | refine vgo ?_ | refine ⟨_, rfl, rfl, ?_⟩ | refine ⟨_, rfl, ?_⟩ | refine ⟨rfl, ?_⟩ | intro hb | refine go2 ?_ | refine WC.seq (fun K hK => ?_) | ((first | refine hK _ _ _ ?_ | refine hK _ _ _ _ rfl ?_ | refine WX.thenExit (K := K) ?_); clear hK K) | (refine WX.thenExit (K := KL) ?_; clear hL KL)))
          refine CallV.by' (mright2_fun ⟨(k : Int), (f : Int), (t : Int), cf, xs⟩ dv sv hcf.1 hgd) ?_; rintro _ _ _ ⟨rfl, rfl, rfl⟩; (try simp only [List.cons_append]); (try simp only [List.nil_append])
          by_cases hm : msR ⟨(k : Int), (f : Int), (t : Int), cf, xs⟩
          · have hyes : mQ l = some ⟨(k : Int), (f : Int), (t : Int), cf, xs⟩ := by rw [hP, fin, if_pos ⟨rfl, hm⟩]
            rw [decide_eq_true hm]
            (repeat (first | refine vgo ?_ | refine ⟨_, rfl, rfl, ?_⟩ | refine ⟨_, rfl, ?_⟩ | refine ⟨rfl, ?_⟩ | intro hb | refine go2 ?_ | refine WC.seq (fun K hK => ?_) | ((first | refine hK _ _ _ ?_ | refine hK _ _ _ _ rfl ?_ | refine WX.thenExit (K := K) ?_); clear hK K) | (refine WX.thenExit (K := KL) ?_; clear hL KL)))
            exact WX.retC2K (b := b2) rfl rfl rfl rfl (fun w sw => ⟨[rd (Ty.sl Ty.u64) (trimL cf) dv, rd (Ty.sl popT) xs sv], [], DcR.yes hyes, sw.to⟩)
          · have hno : mQ l = none := by rw [hP, fin, if_neg (fun h => hm h.2)]
            rw [decide_eq_false hm]
            (repeat (first | refine vgo ?_ | refine ⟨_, rfl, rfl, ?_⟩ | refine ⟨_, rfl, ?_⟩ | refine ⟨rfl, ?_⟩ | intro hb | refine go2 ?_ | refine WC.seq (fun K hK => ?_) | ((first | refine hK _ _ _ ?_ | refine hK _ _ _ _ rfl ?_ | refine WX.thenExit (K := K) ?_); clear hK K) | (refine WX.thenExit (K := KL) ?_; clear hL KL)))
            exact WX.retC2K (b := b2) rfl rfl rfl rfl (fun w sw => ⟨[rd (Ty.sl Ty.u64) [] nlS, rd (Ty.sl popT) [] nlS], [], DcR.no hno, sw.to⟩)
        · have hE : (!(!false && r.isEmpty)) = true := by cases r with
            | nil => exact absurd rfl hr
            | cons _ _ => rfl
          have hno : mQ l = none := by rw [hP, fin, if_neg (fun h => hr h.1)]
          (repeat (first | refine vgo ?_ | refine ⟨_, rfl, rfl, ?_⟩ | refine ⟨_, rfl, ?_⟩ | refine ⟨rfl, ?_⟩ | intro hb | refine go2 ?_ | refine WC.seq (fun K hK => ?_) | ((first | refine hK _ _ _ ?_ | refine hK _ _ _ _ rfl ?_ | refine WX.thenExit (K := K) ?_); clear hK K) | (refine WX.thenExit (K := KL) ?_; clear hL KL)))
          exact WX.retC2K (b := b2) rfl rfl rfl rfl (fun w sw => ⟨[rd (Ty.sl Ty.u64) [] nlS, rd (Ty.sl popT) [] nlS], [], DcR.no hno, sw.to⟩)
      · have hE : (!(!true && r.isEmpty)) = true := rfl
        have hno : mQ l = none := by rw [hmq, hno]
        (repeat (first | refine vgo ?_ | refine ⟨_, rfl, rfl, ?_⟩ | refine ⟨_, rfl, ?_⟩ | refine ⟨rfl, ?_⟩ | intro hb | refine go2 ?_ | refine WC.seq (fun K hK => ?_) | ((first | refine hK _ _ _ ?_ | refine hK _ _ _ _ rfl ?_ | refine WX.thenExit (K := K) ?_); clear hK K) | (refine WX.thenExit (K := KL) ?_; clear hL KL)))
        exact WX.retC2K (b := b2) rfl rfl rfl rfl (fun w sw => ⟨[rd (Ty.sl Ty.u64) [] nlS, rd (Ty.sl popT) [] nlS], [], DcR.no hno, sw.to⟩)
      · cases h
end
/-! ### Messages taken from bytes: the document's Decode. -/
section
open Go Go.Proofs
def isP : Nat → List UInt8 → Option (List Nat × List UInt8)
  | 0, l => some ([], l)
  | n + 1, l => (intP 64 l).bind fun p => (isP n p.2).bind fun q => some (p.1 :: q.1, q.2)
theorem isP_go {n : Nat} {l r : List UInt8} {x : Nat} {ns : List Nat} (h : intP 64 l = some (x, r)) : ((isP (n + 1) l).map fun p => (ns ++ p.1, p.2)) = (isP n r).map fun p => ((ns ++ [x]) ++ p.1, p.2) := by
  rw [isP, h, Option.bind_some]
  cases isP n r with
  | none => rfl
  | some q => simp
theorem isP_no {n : Nat} {l : List UInt8} {ns : List Nat} (h : intP 64 l = none) : ((isP (n + 1) l).map fun p => (ns ++ p.1, p.2)) = none := by
  rw [isP, h]; rfl
noncomputable def pM2 (k f t : Nat) (l : List UInt8) : Option MsD := (clP l).bind fun c => (intP 16 c.2).bind fun n => (pOs n.1 n.2).bind fun q => fin (mkM k f t c.1) q.1 q.2
theorem pM2_no {k f t : Nat} {l : List UInt8} (h : 3 < k) : pM2 k f t l = none := by
  unfold pM2
  cases clP l with
  | none => rfl
  | some c =>
    rw [Option.bind_some]
    cases intP 16 c.2 with
    | none => rfl
    | some n =>
      rw [Option.bind_some]
      cases pOs n.1 n.2 with
      | none => rfl
      | some q =>
        rw [Option.bind_some, fin, if_neg]
        rintro ⟨_, _, _, _, ⟨h1, _⟩ | ⟨h1, _⟩⟩
        · have h1 : (k : Int) = 1 := h1
          omega
        · have h1 : (k : Int) = 2 ∨ (k : Int) = 3 := h1
          omega
theorem pMs_yes {l r : List UInt8} {k f t : Nat} (h : isP 3 l = some ([k, f, t], r)) : pMs l = pM2 k f t r := by
  obtain ⟨⟨k', l1⟩, h1, h2⟩ := bind_some2 h
  obtain ⟨q, h2, h3⟩ := bind_some2 h2
  obtain ⟨⟨f', l2⟩, h4, h5⟩ := bind_some2 h2
  obtain ⟨q2, h5, h6⟩ := bind_some2 h5
  obtain ⟨⟨t', l3⟩, h7, h8⟩ := bind_some2 h5
  cases h8
  cases h6
  cases h3
  dsimp only at h4 h7
  by_cases hk : k' ≤ 3
  · have h9 : intP 3 l = some (k', l1) := by
      obtain ⟨g1, _⟩ := intP_num h1
      rw [intP, g1, Option.bind_some, if_pos hk]
    rw [pMs, h9, Option.bind_some]; dsimp only
    rw [h4, Option.bind_some]; dsimp only
    rw [h7, Option.bind_some]
    rfl
  · have h9 : intP 3 l = none := by
      obtain ⟨g1, _⟩ := intP_num h1
      rw [intP, g1, Option.bind_some, if_neg hk]
    rw [pM2_no (by omega), pMs, h9]; rfl
theorem pMs_none {l : List UInt8} (h : isP 3 l = none) : pMs l = none := by
  cases h1 : intP 64 l with
  | none =>
    have h9 : intP 3 l = none := by
      cases h2 : numP l with
      | none => rw [intP, h2]; rfl
      | some p =>
        rw [intP, h2, Option.bind_some] at h1 ⊢
        split at h1
        · cases h1
        · rw [if_neg (by omega)]
    rw [pMs, h9]; rfl
  | some p =>
    rw [isP, h1, Option.bind_some] at h
    cases h9 : intP 3 l with
    | none => rw [pMs, h9]; rfl
    | some p2 =>
      obtain ⟨k, l1⟩ := p
      obtain ⟨k2, l2⟩ := p2
      obtain ⟨g1, _⟩ := intP_num h1
      obtain ⟨g2, _⟩ := intP_num h9
      rw [g1] at g2
      cases g2
      rw [pMs, h9, Option.bind_some]; dsimp only at h ⊢
      cases h3 : intP 64 l1 with
      | none => rfl
      | some p =>
        rw [isP, h3, Option.bind_some] at h
        rw [Option.bind_some]
        cases h4 : intP 64 p.2 with
        | none => rfl
        | some p => rw [isP, h4] at h; cases h
theorem isP_le : ∀ {n : Nat} {l r : List UInt8} {ns : List Nat}, isP n l = some (ns, r) → ∀ x ∈ ns, x ≤ 64
  | 0, l, r, ns, h => by cases h; intro x hx; cases hx
  | n + 1, l, r, ns, h => by
    obtain ⟨p, h1, h2⟩ := bind_some2 h
    obtain ⟨q, h3, h4⟩ := bind_some2 h2
    cases h4
    intro x hx
    rcases List.mem_cons.1 hx with rfl | hx
    · exact (intP_num (r := p.2) h1).2
    · exact isP_le h3 x hx
theorem pCt_suf {l r : List UInt8} {c : Ctt} (h : pCt l = some (c, r)) : r <:+ l := by
  obtain ⟨⟨k, l1⟩, h1, h2⟩ := bind_some2 h
  refine List.IsSuffix.trans ?_ (intP_suf h1)
  dsimp only at h2
  split at h2
  · cases h2; exact List.suffix_refl _
  split at h2
  · obtain ⟨p, h4, h3⟩ := bind_some2 h2
    cases h3; exact numP_suf h4
  split at h2
  · obtain ⟨p, h4, h3⟩ := bind_some2 h2
    split at h3
    · cases h3; exact bytP_suf h4
    · cases h3
  · obtain ⟨p, h4, h3⟩ := bind_some2 h2
    cases h3; exact bkP_suf h4
theorem clP_suf {l r : List UInt8} {f : List Nat} (h : clP l = some (f, r)) : r <:+ l := by
  unfold clP at h
  split at h
  · cases h; exact List.drop_suffix _ _
  · cases h
theorem opQ_suf {l r : List UInt8} {x : OpD} (h : opQ l = some (x, r)) : r <:+ l := by
  obtain ⟨p, h1, h2⟩ := bind_some2 h
  split at h2
  · cases h2
    obtain ⟨o, n, t, l1, f, l2, k, t1, r1, t2, r2, l3, c, e1, g1, e2, e3, g2, g3, g4, e4, _⟩ := pOp_nums h1
    exact (pCt_suf e4).trans ((nsP_suf e3).trans ((clP_suf e2).trans (nsP_suf e1)))
  · cases h2
theorem opd_mk {x : OpD} {u : Value} {m : Hp} (h : okD x) (hu : (rd (Ty.sl nodeT) x.F.ar u).holds m) : (rd opdT x (ropV x u)).holds m := ⟨u, rfl, h, hu⟩
theorem rmsC_set {m : MsD} {u v : Value} (h : m.c.length = 64) : (rmsC m u).set 67 v = rmsC m v := by
  show .int .i64 m.k :: .int .i64 m.f :: .int .i64 m.t :: ((m.c.map uV ++ [u]).set 64 v) = _
  rw [List.set_append_right _ _ (by rw [List.length_map]; omega), List.length_map, h]
  rfl
theorem rmsC_len {m : MsD} {u : Value} (h : m.c.length = 64) : (rmsC m u).length = 68 := by simp [h]
abbrev ropO (v : Value) (i : Nat) (cs : List Value) : Res := own 77 87 v i cs
instance (priority := 2000) rms_zero : TZ Tryz.prog 37 (rmsC zMs nlS) := ⟨by kernel_rfl⟩
theorem rep_set3 {ns : List Nat} {x : Nat} (h : ns.length < 3) : (ns ++ List.replicate (3 - ns.length) 0).set ns.length x = (ns ++ [x]) ++ List.replicate (3 - (ns ++ [x]).length) 0 := by
  rw [List.set_append_right _ _ (Nat.le_refl _), Nat.sub_self, show 3 - ns.length = (3 - (ns.length + 1)) + 1 from by omega, List.replicate_succ, List.set_cons_zero]
  simp
def RdR (l : List UInt8) (z : Value) (G : List Pers) (S : List Res) : Prop := ∃ (m : MsD) (u : Value), z = .tuple #[rmsV m u, .bool (mQ l).isSome] ∧ G = [rd (Ty.sl opdT) m.l u] ∧ S = [] ∧ m = (mQ l).getD zMs
theorem RdR.no {l : List UInt8} (h : mQ l = none) : RdR l (.tuple #[rmsV zMs nlS, .bool false]) [rd (Ty.sl opdT) [] nlS] [] :=
  ⟨zMs, nlS, by rw [h]; rfl, rfl, rfl, by rw [h]; rfl⟩
theorem RdR.yes {l : List UInt8} {m : MsD} {u : Value} (h : mQ l = some m) : RdR l (.tuple #[rmsV m u, .bool true]) [rd (Ty.sl opdT) m.l u] [] :=
  ⟨m, u, by rw [h]; rfl, rfl, rfl, by rw [h]; rfl⟩
set_option maxRecDepth 100000 in
set_option maxHeartbeats 3200000 in
theorem rmdecode_fun (l : List UInt8) (hl : l.length ≤ 2000) (v : Value) : Fun Tryz.prog 6 [v] [rd (Ty.sl Ty.u8) l v] [] (RdR l) := by
  refine Fun.enter Tryz.func6 (by kernel_rfl) rfl Tryz.ntmps6 rfl (fun B Gf Sf => ?_); (try simp only [List.cons_append]); (try simp only [List.nil_append]); simp only [argEnv]
  refine WC.sat (fun w sw => sw.rdNil (opdT)) ?_
  (repeat (first | refine vgo ?_ | refine ⟨_, rfl, rfl, ?_⟩ | refine ⟨_, rfl, ?_⟩ | refine ⟨rfl, ?_⟩ | intro hb | refine go2 ?_ | refine WC.seq (fun K hK => ?_) | ((first | refine hK _ _ _ ?_ | refine hK _ _ _ _ rfl ?_ | refine WX.thenExit (K := K) ?_); clear hK K) | (refine WX.thenExit (K := KL) ?_; clear hL KL)))
  refine WL.alloc rfl ?_; intro b2
  (repeat (first | refine vgo ?_ | refine ⟨_, rfl, rfl, ?_⟩ | refine ⟨_, rfl, ?_⟩ | refine ⟨rfl, ?_⟩ | intro hb | refine go2 ?_ | refine WC.seq (fun K hK => ?_) | ((first | refine hK _ _ _ ?_ | refine hK _ _ _ _ rfl ?_ | refine WX.thenExit (K := K) ?_); clear hK K) | (refine WX.thenExit (K := KL) ?_; clear hL KL)))
  refine CallV.by' (ropen_fun l v hl) ?_; rintro _ _ _ ⟨rfl, x1, rfl, rfl⟩; (try simp only [List.cons_append]); (try simp only [List.nil_append])
  by_cases ho : opens l
  rotate_left
  · have hq : mQ l = none := by rw [mQ, if_neg ho]
    rw [decide_eq_false ho]
    (repeat (first | refine vgo ?_ | refine ⟨_, rfl, rfl, ?_⟩ | refine ⟨_, rfl, ?_⟩ | refine ⟨rfl, ?_⟩ | intro hb | refine go2 ?_ | refine WC.seq (fun K hK => ?_) | ((first | refine hK _ _ _ ?_ | refine hK _ _ _ _ rfl ?_ | refine WX.thenExit (K := K) ?_); clear hK K) | (refine WX.thenExit (K := KL) ?_; clear hL KL)))
    exact WX.retC2K (b := b2) rfl rfl rfl rfl (fun w sw => ⟨[rd (Ty.sl opdT) [] nlS], [], RdR.no hq, sw.to⟩)
  rw [decide_eq_true ho]
  have hmq : mQ l = pMs (openB l) := by rw [mQ, if_pos ho]
  have hol : (openB l).length ≤ 2000 := by
    rw [openB, if_pos ho, List.length_take]; omega
  generalize openB l = o at *
  (repeat (first | refine vgo ?_ | refine ⟨_, rfl, rfl, ?_⟩ | refine ⟨_, rfl, ?_⟩ | refine ⟨rfl, ?_⟩ | intro hb | refine go2 ?_ | refine WC.seq (fun K hK => ?_) | ((first | refine hK _ _ _ ?_ | refine hK _ _ _ _ rfl ?_ | refine WX.thenExit (K := K) ?_); clear hK K) | (refine WX.thenExit (K := KL) ?_; clear hL KL)))
  refine WL.allocA (List.replicate 3 0) (uV) rfl rfl ?_; intro b6
  (repeat (first | refine vgo ?_ | refine ⟨_, rfl, rfl, ?_⟩ | refine ⟨_, rfl, ?_⟩ | refine ⟨rfl, ?_⟩ | intro hb | refine go2 ?_ | refine WC.seq (fun K hK => ?_) | ((first | refine hK _ _ _ ?_ | refine hK _ _ _ _ rfl ?_ | refine WX.thenExit (K := K) ?_); clear hK K) | (refine WX.thenExit (K := KL) ?_; clear hL KL)))
  refine WC.loop (I := List Nat × List UInt8 × Value) (fun x => [(2, .pointer (some ⟨b2, 0, none⟩)), (4, x.2.2), (6, .pointer (some ⟨b6, 0, none⟩)), (7, .int .i64 (x.1.length : Nat))]) (fun x => rd (Ty.sl Ty.u8) x.2.1 x.2.2 :: rd (Ty.sl opdT) [] nlS :: rd (Ty.sl Ty.u8) l v :: Gf) (fun x => box b6 65 ((x.1 ++ List.replicate (3 - x.1.length) 0).map uV) :: rmB b2 zMs nlS :: Sf)
    (fun x => x.1.length ≤ 3 ∧ x.2.1.length ≤ o.length ∧ isP 3 o = (isP (3 - x.1.length) x.2.1).map fun p => (x.1 ++ p.1, p.2)) (fun x => 3 - x.1.length) ([], o, x1) ⟨Nat.zero_le _, Nat.le_refl _, by cases isP 3 o <;> rfl⟩ (.cons rfl (.cons rfl (.cons rfl (.cons rfl .nil)))) (fun w h => (h.to : Sat B (rd (Ty.sl Ty.u8) o x1 :: rd (Ty.sl opdT) [] nlS :: rd (Ty.sl Ty.u8) l v :: Gf) (box b6 65 ((List.replicate 3 0).map uV) :: rmB b2 zMs nlS :: Sf) w)) ?_
  rintro ⟨ns, r, vr⟩ ⟨hi, hrl, hq⟩ KL hL
  dsimp only at hi hrl hq ⊢
  have hT := takeR_le r
  have hlt := takeR_lt r
  by_cases g : ns.length < 3
  · obtain ⟨m, hm⟩ : ∃ m, 3 - ns.length = m + 1 := ⟨3 - ns.length - 1, by omega⟩
    rw [hm] at hq
    by_cases h0 : (takeR r).2 = 0
    · have hno : mQ l = none := by
        rw [hmq]
        refine pMs_none (hq.trans (isP_no ?_))
        rw [intP, numP, if_pos h0]; rfl
      have hg : (((takeR r).2 : Nat) : Int) = 0 := by omega
      (repeat (first | refine vgo ?_ | refine ⟨_, rfl, rfl, ?_⟩ | refine ⟨_, rfl, ?_⟩ | refine ⟨rfl, ?_⟩ | intro hb | refine go2 ?_ | refine WC.seq (fun K hK => ?_) | ((first | refine hK _ _ _ ?_ | refine hK _ _ _ _ rfl ?_ | refine WX.thenExit (K := K) ?_); clear hK K) | (refine WX.thenExit (K := KL) ?_; clear hL KL)))
      exact WX.retC2K (b := b2) rfl rfl rfl rfl (fun w sw => ⟨[rd (Ty.sl opdT) [] nlS], [], RdR.no hno, sw.to⟩)
    have hg : ¬ (((takeR r).2 : Nat) : Int) = 0 := by omega
    by_cases h64 : 64 < (takeR r).1
    · have hno : mQ l = none := by
        rw [hmq]
        refine pMs_none (hq.trans (isP_no ?_))
        rw [intP, numP, if_neg h0, Option.bind_some, if_neg (by dsimp only; omega)]
      have hg1 : (64 : Int) < (((takeR r).1 : Nat) : Int) := by omega
      (repeat (first | refine vgo ?_ | refine ⟨_, rfl, rfl, ?_⟩ | refine ⟨_, rfl, ?_⟩ | refine ⟨rfl, ?_⟩ | intro hb | refine go2 ?_ | refine WC.seq (fun K hK => ?_) | ((first | refine hK _ _ _ ?_ | refine hK _ _ _ _ rfl ?_ | refine WX.thenExit (K := K) ?_); clear hK K) | (refine WX.thenExit (K := KL) ?_; clear hL KL)))
      exact WX.retC2K (b := b2) rfl rfl rfl rfl (fun w sw => ⟨[rd (Ty.sl opdT) [] nlS], [], RdR.no hno, sw.to⟩)
    have hg1 : ¬ (64 : Int) < (((takeR r).1 : Nat) : Int) := by omega
    have hnx : intP 64 r = some ((takeR r).1, r.drop (takeR r).2) := by rw [intP, numP, if_neg h0, Option.bind_some, if_pos (by dsimp only; omega)]
    rw [isP_go hnx] at hq
    have hlen : (ns ++ List.replicate (3 - ns.length) 0).length = 3 := by simp; omega
    (repeat (first | refine vgo ?_ | refine ⟨_, rfl, rfl, ?_⟩ | refine ⟨_, rfl, ?_⟩ | refine ⟨rfl, ?_⟩ | intro hb | refine go2 ?_ | refine WC.seq (fun K hK => ?_) | ((first | refine hK _ _ _ ?_ | refine hK _ _ _ _ rfl ?_ | refine WX.thenExit (K := K) ?_); clear hK K) | (refine WX.thenExit (K := KL) ?_; clear hL KL)))
    refine (hL (ns ++ [(takeR r).1], r.drop (takeR r).2, hb) ⟨by dsimp only; rw [List.length_append]; exact g, by dsimp only; rw [List.length_drop]; omega, ?_⟩ (by dsimp only; rw [List.length_append, List.length_singleton]; omega)).conv (.cons rfl (.cons rfl (.cons rfl (.cons (by simp [Env.get]) .nil)))) (fun w h => by dsimp only; rw [← rep_set3 g]; exact h.to)
    dsimp only
    rw [show 3 - (ns ++ [(takeR r).1]).length = m from by rw [List.length_append, List.length_singleton]; omega]
    exact hq
  · obtain ⟨k, f, t, rfl⟩ : ∃ k f t, ns = [k, f, t] := by
      rcases ns with _ | ⟨k, _ | ⟨f, _ | ⟨t, _ | ⟨z, ns⟩⟩⟩⟩
      · exact absurd (by decide : ([] : List Nat).length < 3) g
      · simp at g
      · simp at g
      · exact ⟨k, f, t, rfl⟩
      · simp only [List.length_cons] at hi; omega
    have hq : isP 3 o = some ([k, f, t], r) := hq
    have hP : mQ l = pM2 k f t r := hmq.trans (pMs_yes hq)
    have hk := isP_le hq k (by simp)
    have hf := isP_le hq f (by simp)
    have ht := isP_le hq t (by simp)
    have hF := rclockR_okF r
    have hF1 := hF.1
    have iF : Len64 (rclockR r).1 := ⟨hF1⟩
    refine WC.sat (S' := box b6 65 [.int .u64 (k : Int), .int .u64 (f : Int), .int .u64 (t : Int)] :: rmB b2 zMs nlS :: Sf) (fun _ h => h) ?_
    (repeat (first | refine vgo ?_ | refine ⟨_, rfl, rfl, ?_⟩ | refine ⟨_, rfl, ?_⟩ | refine ⟨rfl, ?_⟩ | intro hb | refine go2 ?_ | refine WC.seq (fun K hK => ?_) | ((first | refine hK _ _ _ ?_ | refine hK _ _ _ _ rfl ?_ | refine WX.thenExit (K := K) ?_); clear hK K) | (refine WX.thenExit (K := KL) ?_; clear hL KL)))
    refine WL.allocA (List.replicate 64 0) (uV) rfl rfl ?_; intro b10
    (repeat (first | refine vgo ?_ | refine ⟨_, rfl, rfl, ?_⟩ | refine ⟨_, rfl, ?_⟩ | refine ⟨rfl, ?_⟩ | intro hb | refine go2 ?_ | refine WC.seq (fun K hK => ?_) | ((first | refine hK _ _ _ ?_ | refine hK _ _ _ _ rfl ?_ | refine WX.thenExit (K := K) ?_); clear hK K) | (refine WX.thenExit (K := KL) ?_; clear hL KL)))
    by_cases g2 : (rclockR r).2 = 0
    · have hg2 : (((rclockR r).2 : Nat) : Int) = 0 := by omega
      have hno : mQ l = none := by rw [hP, pM2, clP, if_neg (by omega)]; rfl
      (repeat (first | refine vgo ?_ | refine ⟨_, rfl, rfl, ?_⟩ | refine ⟨_, rfl, ?_⟩ | refine ⟨rfl, ?_⟩ | intro hb | refine go2 ?_ | refine WC.seq (fun K hK => ?_) | ((first | refine hK _ _ _ ?_ | refine hK _ _ _ _ rfl ?_ | refine WX.thenExit (K := K) ?_); clear hK K) | (refine WX.thenExit (K := KL) ?_; clear hL KL)))
      exact WX.retC2K (b := b2) rfl rfl rfl rfl (fun w sw => ⟨[rd (Ty.sl opdT) [] nlS], [], RdR.no hno, sw.to⟩)
    have hg2 : ¬ (((rclockR r).2 : Nat) : Int) = 0 := by omega
    have hcl : clP r = some ((rclockR r).1, r.drop (rclockR r).2) := by rw [clP, if_pos (by omega)]
    have hcle : (rclockR r).2 ≤ r.length := ((clock_R r).2.2 (by rw [clP_some hcl])).2
    rw [pM2, hcl, Option.bind_some] at hP
    dsimp only at hP
    generalize hcf : (rclockR r).1 = cf at *
    (repeat (first | refine vgo ?_ | refine ⟨_, rfl, rfl, ?_⟩ | refine ⟨_, rfl, ?_⟩ | refine ⟨rfl, ?_⟩ | intro hb | refine go2 ?_ | refine WC.seq (fun K hK => ?_) | ((first | refine hK _ _ _ ?_ | refine hK _ _ _ _ rfl ?_ | refine WX.thenExit (K := K) ?_); clear hK K) | (refine WX.thenExit (K := KL) ?_; clear hL KL)))
    refine WL.alloc rfl ?_; intro b12
    (repeat (first | refine vgo ?_ | refine ⟨_, rfl, rfl, ?_⟩ | refine ⟨_, rfl, ?_⟩ | refine ⟨rfl, ?_⟩ | intro hb | refine go2 ?_ | refine WC.seq (fun K hK => ?_) | ((first | refine hK _ _ _ ?_ | refine hK _ _ _ _ rfl ?_ | refine WX.thenExit (K := K) ?_); clear hK K) | (refine WX.thenExit (K := KL) ?_; clear hL KL)))
    generalize hrc : r.drop (rclockR r).2 = rc at *
    have hrcl : rc.length ≤ o.length := by rw [← hrc, List.length_drop]; omega
    have hT2 := takeR_le rc
    have hlt2 := takeR_lt rc
    by_cases c0 : (takeR rc).2 = 0
    · have hc0 : (((takeR rc).2 : Nat) : Int) = 0 := by omega
      have hno : mQ l = none := by rw [hP, intP, numP, if_pos c0]; rfl
      (repeat (first | refine vgo ?_ | refine ⟨_, rfl, rfl, ?_⟩ | refine ⟨_, rfl, ?_⟩ | refine ⟨rfl, ?_⟩ | intro hb | refine go2 ?_ | refine WC.seq (fun K hK => ?_) | ((first | refine hK _ _ _ ?_ | refine hK _ _ _ _ rfl ?_ | refine WX.thenExit (K := K) ?_); clear hK K) | (refine WX.thenExit (K := KL) ?_; clear hL KL)))
      exact WX.retC2K (b := b2) rfl rfl rfl rfl (fun w sw => ⟨[rd (Ty.sl opdT) [] nlS], [], RdR.no hno, sw.to⟩)
    have hc0 : ¬ (((takeR rc).2 : Nat) : Int) = 0 := by omega
    by_cases c1 : 16 < (takeR rc).1
    · have hc1 : (16 : Int) < (((takeR rc).1 : Nat) : Int) := by omega
      have hno : mQ l = none := by rw [hP, intP, numP, if_neg c0, Option.bind_some, if_neg (by dsimp only; omega)]; rfl
      (repeat (first | refine vgo ?_ | refine ⟨_, rfl, rfl, ?_⟩ | refine ⟨_, rfl, ?_⟩ | refine ⟨rfl, ?_⟩ | intro hb | refine go2 ?_ | refine WC.seq (fun K hK => ?_) | ((first | refine hK _ _ _ ?_ | refine hK _ _ _ _ rfl ?_ | refine WX.thenExit (K := K) ?_); clear hK K) | (refine WX.thenExit (K := KL) ?_; clear hL KL)))
      exact WX.retC2K (b := b2) rfl rfl rfl rfl (fun w sw => ⟨[rd (Ty.sl opdT) [] nlS], [], RdR.no hno, sw.to⟩)
    have hc1 : ¬ (16 : Int) < (((takeR rc).1 : Nat) : Int) := by omega
    rw [intP, numP, if_neg c0, Option.bind_some, if_pos (by dsimp only; omega), Option.bind_some] at hP
    dsimp only at hP
    (repeat (first | refine vgo ?_ | refine ⟨_, rfl, rfl, ?_⟩ | refine ⟨_, rfl, ?_⟩ | refine ⟨rfl, ?_⟩ | intro hb | refine go2 ?_ | refine WC.seq (fun K hK => ?_) | ((first | refine hK _ _ _ ?_ | refine hK _ _ _ _ rfl ?_ | refine WX.thenExit (K := K) ?_); clear hK K) | (refine WX.thenExit (K := KL) ?_; clear hL KL)))
    have hrd : (rc.drop (takeR rc).2).length ≤ 2000 := by rw [List.length_drop]; omega
    generalize rc.drop (takeR rc).2 = rs at *
    generalize hn : (takeR rc).1 = n at *
    have hn16 : n ≤ 16 := by omega
    refine WC.loop (I := List OpD × List UInt8 × Value × Value × List Value) (fun x => [(2, .pointer (some ⟨b2, 0, none⟩)), (4, x.2.2.1), (12, .pointer (some ⟨b12, 0, none⟩)), (13, .int .u64 (n : Nat)), (14, .int .i64 (x.1.length : Nat))])
      (fun x => rdAll opdT x.1 x.2.2.2.2 :: rd (Ty.sl Ty.u8) x.2.1 x.2.2.1 :: rd (Ty.sl opdT) [] nlS :: rd (Ty.sl Ty.u8) l v :: Gf)
      (fun x => ropO x.2.2.2.1 x.1.length (flat x.2.2.2.2) :: rmB b12 (mkM k f t cf) x.2.2.2.1 :: rmB b2 zMs nlS :: Sf)
      (fun x => x.1.length ≤ n ∧ x.2.1.length ≤ 2000 ∧ (∀ y ∈ x.1, gdO y) ∧ mQ l = (pOs (n - x.1.length) x.2.1).bind fun q => fin (mkM k f t cf) (x.1 ++ q.1) q.2) (fun x => n - x.1.length) ([], rs, hb, .slice none 0 0, []) ⟨Nat.zero_le _, hrd, (fun y hy => by cases hy), hP⟩ (.cons rfl (.cons rfl (.cons rfl (.cons rfl (.cons rfl .nil))))) (fun w h => by
      have h2 := Sat.rdAllNil opdT (h.ownNil 77 87)
      dsimp only [flat_nil, List.length_nil]
      exact h2.to) ?_
    rintro ⟨xs, r1, v1, sv, vs⟩ ⟨hi1, hr1, hgd, hP1⟩ KL hL
    dsimp only at hi1 hr1 hgd hP1 ⊢
    by_cases g1 : xs.length < n
    · obtain ⟨m, hm⟩ : ∃ m, n - xs.length = m + 1 := ⟨n - xs.length - 1, by omega⟩
      rw [hm] at hP1
      (repeat (first | refine vgo ?_ | refine ⟨_, rfl, rfl, ?_⟩ | refine ⟨_, rfl, ?_⟩ | refine ⟨rfl, ?_⟩ | intro hb | refine go2 ?_ | refine WC.seq (fun K hK => ?_) | ((first | refine hK _ _ _ ?_ | refine hK _ _ _ _ rfl ?_ | refine WX.thenExit (K := K) ?_); clear hK K) | (refine WX.thenExit (K := KL) ?_; clear hL KL)))
      refine CallV.by' (r14take_fun r1 (by omega) v1) ?_; rintro _ _ _ ⟨y, u, rfl, rfl, rfl, hy⟩; (try simp only [List.cons_append]); (try simp only [List.nil_append])
      have hy2 : okD y ∧ (∀ x0 r0, opQ r1 = some (x0, r0) → y = x0) := by
        cases hq : opQ r1 with
        | none =>
          rw [hq] at hy
          obtain rfl : y = zRx := hy
          exact ⟨okD_zRx, fun x0 r0 h => by cases h⟩
        | some p =>
          obtain ⟨x0, r0⟩ := p
          rw [hq] at hy
          obtain rfl : y = x0 := hy
          exact ⟨(opQ_gd hq).2.1, fun x0 r0 h => by cases h; rfl⟩
      obtain ⟨oky, hy2⟩ := hy2
      have i1 : Len64 y.f := ⟨oky.2.1.1⟩
      have hlen : (ropC y u).length = 87 := by simp [oky.2.1.1]
      have hlen2 : (ropC y u).length = 87 ∧ 0 + (ropC y u).length ≤ (opFC 0 0 0 (List.replicate 64 0) 0).length := ⟨hlen, by rw [hlen]; decide⟩
      (repeat (first | refine vgo ?_ | refine ⟨_, rfl, rfl, ?_⟩ | refine ⟨_, rfl, ?_⟩ | refine ⟨rfl, ?_⟩ | intro hb | refine go2 ?_ | refine WC.seq (fun K hK => ?_) | ((first | refine hK _ _ _ ?_ | refine hK _ _ _ _ rfl ?_ | refine WX.thenExit (K := K) ?_); clear hK K) | (refine WX.thenExit (K := KL) ?_; clear hL KL)))
      refine WL.alloc rfl ?_; intro b15
      (repeat (first | refine vgo ?_ | refine ⟨_, rfl, rfl, ?_⟩ | refine ⟨_, rfl, ?_⟩ | refine ⟨rfl, ?_⟩ | intro hb | refine go2 ?_ | refine WC.seq (fun K hK => ?_) | ((first | refine hK _ _ _ ?_ | refine hK _ _ _ _ rfl ?_ | refine WX.thenExit (K := K) ?_); clear hK K) | (refine WX.thenExit (K := KL) ?_; clear hL KL)))
      cases hq : opQ r1 with
      | none =>
        have hs : (!(none : Option (OpD × List UInt8)).isSome) = true := rfl
        have hno : mQ l = none := by rw [hP1, pOs_no hq]
        (repeat (first | refine vgo ?_ | refine ⟨_, rfl, rfl, ?_⟩ | refine ⟨_, rfl, ?_⟩ | refine ⟨rfl, ?_⟩ | intro hb | refine go2 ?_ | refine WC.seq (fun K hK => ?_) | ((first | refine hK _ _ _ ?_ | refine hK _ _ _ _ rfl ?_ | refine WX.thenExit (K := K) ?_); clear hK K) | (refine WX.thenExit (K := KL) ?_; clear hL KL)))
        exact WX.retC2K (b := b2) rfl rfl rfl rfl (fun w sw => ⟨[rd (Ty.sl opdT) [] nlS], [], RdR.no hno, sw.to⟩)
      | some p =>
        obtain ⟨x0, r0⟩ := p
        obtain rfl := hy2 x0 r0 hq
        have hs : (!(some (y, r0)).isSome) = false := rfl
        have hsf := opQ_suf hq
        have hsl := hsf.length_le
        have hsd : r1.drop (r1.length - r0.length) = r0 := (List.suffix_iff_eq_drop.1 hsf).symm
        have hw : (r1.length : Int) - (r0.length : Int) = ((r1.length - r0.length : Nat) : Int) := by omega
        simp only [Option.map_some, Option.getD_some]
        (repeat (first | refine vgo ?_ | refine ⟨_, rfl, rfl, ?_⟩ | refine ⟨_, rfl, ?_⟩ | refine ⟨rfl, ?_⟩ | intro hb | refine go2 ?_ | refine WC.seq (fun K hK => ?_) | ((first | refine hK _ _ _ ?_ | refine hK _ _ _ _ rfl ?_ | refine WX.thenExit (K := K) ?_); clear hK K) | (refine WX.thenExit (K := KL) ?_; clear hL KL)))
        rw [hw]
        (repeat (first | refine vgo ?_ | refine ⟨_, rfl, rfl, ?_⟩ | refine ⟨_, rfl, ?_⟩ | refine ⟨rfl, ?_⟩ | intro hb | refine go2 ?_ | refine WC.seq (fun K hK => ?_) | ((first | refine hK _ _ _ ?_ | refine hK _ _ _ _ rfl ?_ | refine WX.thenExit (K := K) ?_); clear hK K) | (refine WX.thenExit (K := KL) ?_; clear hL KL)))
        rename_i sv2
        rw [hsd]
        refine (hL (xs ++ [y], r0, hb, sv2, vs ++ [ropV y u]) ⟨by dsimp only; rw [List.length_append]; exact g1, by dsimp only; omega, ?_, ?_⟩ (by dsimp only; rw [List.length_append, List.length_singleton]; omega)).conv (.cons rfl (.cons rfl (.cons rfl (.cons rfl (.cons (by simp [Env.get]) .nil))))) (fun w h => ?_)
        · intro z hz
          rcases List.mem_append.1 hz with hz | hz
          · exact hgd z hz
          · rw [List.mem_singleton.1 hz]; exact opQ_gd hq
        · dsimp only
          rw [hP1, pOs_go hq, show n - (xs ++ [y]).length = m from by rw [List.length_append, List.length_singleton]; omega]
        · dsimp only
          rw [flat_snoc, show (ropV y u).cells.toList = ropC y u from rfl, List.length_append, List.length_singleton]
          have h2 := h.more (p := rdAll opdT (xs ++ [y]) (vs ++ [ropV y u])) (fun mm hmm => AllR.snoc (hmm (rdAll opdT xs vs) InG.h) (opd_mk oky (hmm (rd (Ty.sl nodeT) y.F.ar u) InG.h)))
          simp only [List.append_nil] at h2
          rw [rmsC_set hF1] at h2
          exact h2.to
    · have hlx : xs.length = n := by omega
      rw [hlx, Nat.sub_self] at hP1
      have hP1 : mQ l = fin (mkM k f t cf) xs r1 := by rw [hP1]; show fin _ (xs ++ []) r1 = _; rw [List.append_nil]
      by_cases hr0 : r1 = []
      · subst hr0
        have hE : ¬ ¬ (((([] : List UInt8).length : Nat) : Int) = 0) := fun h => h rfl
        refine WC.sat (fun w sw => sw.pubR (R := opdT) (l := xs) (v := sv) (vs := vs) SelOwn.h rfl rfl rfl (fun mm hmm => hmm (rdAll opdT xs vs) InG.h)) ?_
        (repeat (first | refine vgo ?_ | refine ⟨_, rfl, rfl, ?_⟩ | refine ⟨_, rfl, ?_⟩ | refine ⟨rfl, ?_⟩ | intro hb | refine go2 ?_ | refine WC.seq (fun K hK => ?_) | ((first | refine hK _ _ _ ?_ | refine hK _ _ _ _ rfl ?_ | refine WX.thenExit (K := K) ?_); clear hK K) | (refine WX.thenExit (K := KL) ?_; clear hL KL)))
        refine CallV.by' (rmright_fun { mkM k f t cf with l := xs } sv hF1 hgd (by show xs.length ≤ 16; omega)) ?_; rintro _ _ _ ⟨rfl, rfl, rfl⟩; (try simp only [List.cons_append]); (try simp only [List.nil_append])
        by_cases hm : msR { mkM k f t cf with l := xs }
        · have hyes : mQ l = some { mkM k f t cf with l := xs } := by rw [hP1, fin, if_pos ⟨rfl, hm⟩]
          rw [decide_eq_true hm]
          (repeat (first | refine vgo ?_ | refine ⟨_, rfl, rfl, ?_⟩ | refine ⟨_, rfl, ?_⟩ | refine ⟨rfl, ?_⟩ | intro hb | refine go2 ?_ | refine WC.seq (fun K hK => ?_) | ((first | refine hK _ _ _ ?_ | refine hK _ _ _ _ rfl ?_ | refine WX.thenExit (K := K) ?_); clear hK K) | (refine WX.thenExit (K := KL) ?_; clear hL KL)))
          exact WX.retC2K (b := b2) rfl rfl rfl (rmsC_len hF1) (fun w sw => ⟨[rd (Ty.sl opdT) xs sv], [], RdR.yes hyes, sw.to⟩)
        · have hno : mQ l = none := by rw [hP1, fin, if_neg (fun h => hm h.2)]
          rw [decide_eq_false hm]
          (repeat (first | refine vgo ?_ | refine ⟨_, rfl, rfl, ?_⟩ | refine ⟨_, rfl, ?_⟩ | refine ⟨rfl, ?_⟩ | intro hb | refine go2 ?_ | refine WC.seq (fun K hK => ?_) | ((first | refine hK _ _ _ ?_ | refine hK _ _ _ _ rfl ?_ | refine WX.thenExit (K := K) ?_); clear hK K) | (refine WX.thenExit (K := KL) ?_; clear hL KL)))
          exact WX.retC2K (b := b2) rfl rfl rfl rfl (fun w sw => ⟨[rd (Ty.sl opdT) [] nlS], [], RdR.no hno, sw.to⟩)
      · have hE : ¬ ((r1.length : Nat) : Int) = 0 := fun h => hr0 (List.length_eq_zero_iff.1 (by omega))
        have hno : mQ l = none := by rw [hP1, fin, if_neg (fun h => hr0 h.1)]
        (repeat (first | refine vgo ?_ | refine ⟨_, rfl, rfl, ?_⟩ | refine ⟨_, rfl, ?_⟩ | refine ⟨rfl, ?_⟩ | intro hb | refine go2 ?_ | refine WC.seq (fun K hK => ?_) | ((first | refine hK _ _ _ ?_ | refine hK _ _ _ _ rfl ?_ | refine WX.thenExit (K := K) ?_); clear hK K) | (refine WX.thenExit (K := KL) ?_; clear hL KL)))
        exact WX.retC2K (b := b2) rfl rfl rfl rfl (fun w sw => ⟨[rd (Ty.sl opdT) [] nlS], [], RdR.no hno, sw.to⟩)
end
/-! ### The law of messages taken from bytes. -/
section
open Go Go.Proofs
theorem mQ_facts {l : List UInt8} {m : MsD} (h : mQ l = some m) : okF m.c ∧ m.l.length ≤ 16 := by
  unfold mQ at h
  split at h
  · obtain ⟨k, _, h⟩ := bind_some2 h
    obtain ⟨f, _, h⟩ := bind_some2 h
    obtain ⟨t, _, h⟩ := bind_some2 h
    obtain ⟨c, hc, h⟩ := bind_some2 h
    obtain ⟨n, _, h⟩ := bind_some2 h
    obtain ⟨q, _, h⟩ := bind_some2 h
    unfold fin at h
    split at h
    · rename_i g
      cases h
      refine ⟨clP_ok (r := c.2) hc, ?_⟩
      rcases g.2.2.2.2 with ⟨_, _, h⟩ | ⟨_, h⟩
      · exact h
      · rw [h]; decide
    · cases h
  · cases h
set_option maxHeartbeats 3200000 in
set_option maxRecDepth 100000 in
set_option synthInstance.maxSize 2000 in
set_option synthInstance.maxHeartbeats 400000 in
theorem msgReads_fun (l : List UInt8) (v : Value) : Fun Tryz.prog 3 [v] [rd (Ty.sl Ty.u8) l v] [] (fun r _ _ => r = .bool true) := by
  refine Fun.enter Tryz.func3 (by kernel_rfl) rfl Tryz.ntmps3 rfl (fun B Gf Sf => ?_); (try simp only [List.cons_append]); (try simp only [List.nil_append]); simp only [argEnv]
  refine WC.ex (fun w sw => sw.len_le (RdSl.h (v := v))) (fun hll => ?_)
  by_cases hb1 : (2000 : Int) < (l.length : Int)
  · (repeat (first | refine vgo ?_ | refine ⟨_, rfl, rfl, ?_⟩ | refine ⟨_, rfl, ?_⟩ | refine ⟨rfl, ?_⟩ | intro hb | refine go2 ?_ | refine WC.seq (fun K hK => ?_) | ((first | refine hK _ _ _ ?_ | refine hK _ _ _ _ rfl ?_ | refine WX.thenExit (K := K) ?_); clear hK K) | (refine WX.thenExit (K := KL) ?_; clear hL KL)))
    exact WX.ret1 rfl rfl (fun w sw => ⟨[], [], rfl, sw.to⟩)
  (repeat (first | refine vgo ?_ | refine ⟨_, rfl, rfl, ?_⟩ | refine ⟨_, rfl, ?_⟩ | refine ⟨rfl, ?_⟩ | intro hb | refine go2 ?_ | refine WC.seq (fun K hK => ?_) | ((first | refine hK _ _ _ ?_ | refine hK _ _ _ _ rfl ?_ | refine WX.thenExit (K := K) ?_); clear hK K) | (refine WX.thenExit (K := KL) ?_; clear hL KL)))
  refine CallV.by' (mdecode_fun l (by omega) v) ?_; rintro _ _ _ ⟨m, d, s, rfl, rfl, rfl, hm⟩; (try simp only [List.cons_append]); (try simp only [List.nil_append])
  (repeat (first | refine vgo ?_ | refine ⟨_, rfl, rfl, ?_⟩ | refine ⟨_, rfl, ?_⟩ | refine ⟨rfl, ?_⟩ | intro hb | refine go2 ?_ | refine WC.seq (fun K hK => ?_) | ((first | refine hK _ _ _ ?_ | refine hK _ _ _ _ rfl ?_ | refine WX.thenExit (K := K) ?_); clear hK K) | (refine WX.thenExit (K := KL) ?_; clear hL KL)))
  refine WL.alloc rfl ?_; intro b3
  (repeat (first | refine vgo ?_ | refine ⟨_, rfl, rfl, ?_⟩ | refine ⟨_, rfl, ?_⟩ | refine ⟨rfl, ?_⟩ | intro hb | refine go2 ?_ | refine WC.seq (fun K hK => ?_) | ((first | refine hK _ _ _ ?_ | refine hK _ _ _ _ rfl ?_ | refine WX.thenExit (K := K) ?_); clear hK K) | (refine WX.thenExit (K := KL) ?_; clear hL KL)))
  refine CallV.by' (rmdecode_fun l (by omega) v) ?_; rintro _ _ _ ⟨m2, u, rfl, rfl, rfl, hm2⟩; (try simp only [List.cons_append]); (try simp only [List.nil_append])
  obtain rfl : m2 = m := hm2.trans hm.symm
  clear hm2
  have hf : okF m2.c ∧ m2.l.length ≤ 60 := by
    cases hq : mQ l with
    | none => rw [hm, hq]; exact ⟨okF_r64, Nat.zero_le _⟩
    | some m => rw [hm, hq]; exact ⟨(mQ_facts hq).1, Nat.le_trans (mQ_facts hq).2 (by decide)⟩
  clear hm
  obtain ⟨hf, h60⟩ := hf
  have i1 : Len64 m2.c := ⟨hf.1⟩
  have hlen : (rmsC m2 u).length = 68 := rmsC_len hf.1
  have hlen2 : (rmsC m2 u).length = 68 ∧ 0 + (rmsC m2 u).length ≤ (rmsC zMs nlS).length := ⟨hlen, by rw [hlen]; decide⟩
  have hrf : msP m2 m2 := msP_refl m2
  have hcc : m2.c.length = 64 ∧ m2.c.length = 64 := ⟨hf.1, hf.1⟩
  (repeat (first | refine vgo ?_ | refine ⟨_, rfl, rfl, ?_⟩ | refine ⟨_, rfl, ?_⟩ | refine ⟨rfl, ?_⟩ | intro hb | refine go2 ?_ | refine WC.seq (fun K hK => ?_) | ((first | refine hK _ _ _ ?_ | refine hK _ _ _ _ rfl ?_ | refine WX.thenExit (K := K) ?_); clear hK K) | (refine WX.thenExit (K := KL) ?_; clear hL KL)))
  refine WL.alloc rfl ?_; intro b5
  (repeat (first | refine vgo ?_ | refine ⟨_, rfl, rfl, ?_⟩ | refine ⟨_, rfl, ?_⟩ | refine ⟨rfl, ?_⟩ | intro hb | refine go2 ?_ | refine WC.seq (fun K hK => ?_) | ((first | refine hK _ _ _ ?_ | refine hK _ _ _ _ rfl ?_ | refine WX.thenExit (K := K) ?_); clear hK K) | (refine WX.thenExit (K := KL) ?_; clear hL KL)))
  cases (mQ l).isSome with
  | true =>
    have e0 : (if true = true then (0 : Int) else 28) = 0 := rfl
    rw [e0]
    (apply WC.drawE; exact rfl; focus (repeat (first | exact Wo.nil | (apply Wo.keep; exact rfl) | (apply Wo.drop; exact rfl))))
    (repeat refine ObP3.c0B ?_); try (refine ObP3.nil ?_; (repeat (intro _)); (conv => whnf); (try dsimp only [envO, List.cons_append, List.nil_append]))
    refine ObP3.cons1 [] [] (.ex (Value × Value) (fun p => pmsV m2 p.1 p.2) (fun p => [rd (Ty.sl Ty.u64) (trimL m2.c) p.1, rd (Ty.sl popT) m2.l p.2]) (fun _ => [])) ?_ rfl ?_
    · (repeat (intro _)); (conv => whnf); (try dsimp only [envO, List.cons_append, List.nil_append])
      (repeat (first | refine vgo ?_ | refine ⟨_, rfl, rfl, ?_⟩ | refine ⟨_, rfl, ?_⟩ | refine ⟨rfl, ?_⟩ | intro hb | refine go2 ?_ | refine WC.seq (fun K hK => ?_) | ((first | refine hK _ _ _ ?_ | refine hK _ _ _ _ rfl ?_ | refine WX.thenExit (K := K) ?_); clear hK K) | (refine WX.thenExit (K := KL) ?_; clear hL KL)))
      refine CallV.by' (msTo_fun m2 u hf h60) ?_; rintro _ _ _ ⟨d', s', rfl, rfl, rfl⟩; (try simp only [List.cons_append]); (try simp only [List.nil_append])
      (repeat (first | refine vgo ?_ | refine ⟨_, rfl, rfl, ?_⟩ | refine ⟨_, rfl, ?_⟩ | refine ⟨rfl, ?_⟩ | intro hb | refine go2 ?_ | refine WC.seq (fun K hK => ?_) | ((first | refine hK _ _ _ ?_ | refine hK _ _ _ _ rfl ?_ | refine WX.thenExit (K := K) ?_); clear hK K) | (refine WX.thenExit (K := KL) ?_; clear hL KL)))
      exact WX.pgEx (fv := fun p : Value × Value => pmsV m2 p.1 p.2) (d', s') rfl (fun w sw => sw.to)
    (repeat refine ObP3.c0B ?_); try (refine ObP3.nil ?_; (repeat (intro _)); (conv => whnf); (try dsimp only [envO, List.cons_append, List.nil_append]))
    (repeat (first | refine vgo ?_ | refine ⟨_, rfl, rfl, ?_⟩ | refine ⟨_, rfl, ?_⟩ | refine ⟨rfl, ?_⟩ | intro hb | refine go2 ?_ | refine WC.seq (fun K hK => ?_) | ((first | refine hK _ _ _ ?_ | refine hK _ _ _ _ rfl ?_ | refine WX.thenExit (K := K) ?_); clear hK K) | (refine WX.thenExit (K := KL) ?_; clear hL KL)))
    exact WX.ret1 rfl rfl (fun w sw => ⟨[], [], rfl, sw.to⟩)
  | false =>
    have e0 : (if false = true then (0 : Int) else 28) = 28 := rfl
    rw [e0]
    (apply WC.drawE; exact rfl; focus (repeat (first | exact Wo.nil | (apply Wo.keep; exact rfl) | (apply Wo.drop; exact rfl))))
    (repeat refine ObP3.c0B ?_); try (refine ObP3.nil ?_; (repeat (intro _)); (conv => whnf); (try dsimp only [envO, List.cons_append, List.nil_append]))
    refine ObP3.cons1 [] [] (.ex (Value × Value) (fun p => pmsV m2 p.1 p.2) (fun p => [rd (Ty.sl Ty.u64) (trimL m2.c) p.1, rd (Ty.sl popT) m2.l p.2]) (fun _ => [])) ?_ rfl ?_
    · (repeat (intro _)); (conv => whnf); (try dsimp only [envO, List.cons_append, List.nil_append])
      (repeat (first | refine vgo ?_ | refine ⟨_, rfl, rfl, ?_⟩ | refine ⟨_, rfl, ?_⟩ | refine ⟨rfl, ?_⟩ | intro hb | refine go2 ?_ | refine WC.seq (fun K hK => ?_) | ((first | refine hK _ _ _ ?_ | refine hK _ _ _ _ rfl ?_ | refine WX.thenExit (K := K) ?_); clear hK K) | (refine WX.thenExit (K := KL) ?_; clear hL KL)))
      refine CallV.by' (msTo_fun m2 u hf h60) ?_; rintro _ _ _ ⟨d', s', rfl, rfl, rfl⟩; (try simp only [List.cons_append]); (try simp only [List.nil_append])
      (repeat (first | refine vgo ?_ | refine ⟨_, rfl, rfl, ?_⟩ | refine ⟨_, rfl, ?_⟩ | refine ⟨rfl, ?_⟩ | intro hb | refine go2 ?_ | refine WC.seq (fun K hK => ?_) | ((first | refine hK _ _ _ ?_ | refine hK _ _ _ _ rfl ?_ | refine WX.thenExit (K := K) ?_); clear hK K) | (refine WX.thenExit (K := KL) ?_; clear hL KL)))
      exact WX.pgEx (fv := fun p : Value × Value => pmsV m2 p.1 p.2) (d', s') rfl (fun w sw => sw.to)
    (repeat refine ObP3.c0B ?_); try (refine ObP3.nil ?_; (repeat (intro _)); (conv => whnf); (try dsimp only [envO, List.cons_append, List.nil_append]))
    (repeat (first | refine vgo ?_ | refine ⟨_, rfl, rfl, ?_⟩ | refine ⟨_, rfl, ?_⟩ | refine ⟨rfl, ?_⟩ | intro hb | refine go2 ?_ | refine WC.seq (fun K hK => ?_) | ((first | refine hK _ _ _ ?_ | refine hK _ _ _ _ rfl ?_ | refine WX.thenExit (K := K) ?_); clear hK K) | (refine WX.thenExit (K := KL) ?_; clear hL KL)))
    exact WX.ret1 rfl rfl (fun w sw => ⟨[], [], rfl, sw.to⟩)
end
end Go.Qd
