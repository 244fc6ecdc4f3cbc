/-
  Cells: the law's own functions.
-/
import Derived.Test.YtijebmblhakbpaaPCel6
namespace Go.Qd
/-! ### Cells: the law's own functions. -/
section
open Go Go.Proofs
theorem Fun.free {P : Program} {f : FuncId} {vs : List Value} {G0 : List Pers} {S : List Res} {R : Value → List Pers → List Res → Prop} (h0 : ∀ (m : Hp), ∀ g ∈ G0, g.holds m) (h : Fun P f vs G0 S R) : Fun P f vs [] S R :=
  ⟨h.callable, fun B Gf Sf w sw => by
    have sw2 : Sat B (G0 ++ Gf) (S ++ Sf) w := sw.pers fun m hg g hgg => by
      rcases List.mem_append.1 hgg with hgg | hgg
      · exact h0 m g hgg
      · exact hg g hgg
    intro cs
    obtain ⟨e, w', fr, ⟨v, G', S', e1, h1, h2⟩, hx⟩ := h.calls B Gf Sf w sw2 cs
    exact ⟨e, w', fr, ⟨v, G', S', e1, h1, h2.pers fun m hg g hgg => hg g (by
      rcases List.mem_append.1 hgg with hgg | hgg
      · exact List.mem_append_left _ hgg
      · exact List.mem_append_right _ (List.mem_append_right _ hgg))⟩, hx⟩⟩
theorem strA_is {l : List UInt8} {v : Value} {h : Hp} (x : Ty.str.rel l v h) : v = .string (bs l) ∧ l.length ≤ 9223372036854775807 := x
abbrev AcI := Int × (Nat × Int) × (Nat × Int) × (Nat × Int) × Int × List UInt8 × List (Nat × Int) × List (Nat × Int)
abbrev acT : Ty AcI := Ty.pair Ty.i64 (Ty.pair idT (Ty.pair idT (Ty.pair idT (Ty.pair Ty.i64 (Ty.pair Ty.str (Ty.pair (Ty.sl idT) (Ty.rec1 (Ty.sl idT))))))))
abbrev acC (a : AcI) (u1 u2 : Value) : List Value := [.int .i64 a.1, .int .u64 (a.2.1.1 : Int), .int .i64 a.2.1.2, .int .u64 (a.2.2.1.1 : Int), .int .i64 a.2.2.1.2, .int .u64 (a.2.2.2.1.1 : Int), .int .i64 a.2.2.2.1.2, .int .i64 a.2.2.2.2.1, .string (bs a.2.2.2.2.2.1), u1, u2]
abbrev acV (a : AcI) (u1 u2 : Value) : Value := .agg (acC a u1 u2).toArray
theorem ac_rel {a : AcI} {v : Value} {m : Hp} (h : (rd acT a v).holds m) : ∃ u1 u2, v = acV a u1 u2 ∧ (rd (Ty.sl idT) a.2.2.2.2.2.2.1 u1).holds m ∧ (rd (Ty.sl idT) a.2.2.2.2.2.2.2 u2).holds m ∧ okIc a.2.1 ∧ okIc a.2.2.1 ∧ okIc a.2.2.2.1 ∧ okI a.2.2.2.2.1 ∧ a.2.2.2.2.2.1.length ≤ maxLen := by
  obtain ⟨x, y, e0, ⟨e1, _⟩, x2, y2, e2, h2, x3, y3, e3, h3, x4, y4, e4, h4, x5, y5, e5, ⟨e6, h5⟩, x6, y6, e7, h6, x7, y7, e8, h7, x8, e9, h8⟩ := h
  obtain ⟨e10, h2⟩ := idT_is h2
  obtain ⟨e11, h3⟩ := idT_is h3
  obtain ⟨e12, h4⟩ := idT_is h4
  obtain ⟨e13, h6⟩ := strA_is h6
  obtain ⟨p, c, e14, _⟩ := slRel.shape h7
  obtain ⟨p', c', e15, _⟩ := slRel.shape h8
  refine ⟨x7, x8, ?_, h7, h8, h2, h3, h4, h5, h6⟩
  rw [e0, e1, e2, e3, e4, e5, e6, e7, e8, e9, e10, e11, e12, e13, e14, e15]
  simp [idV, Value.cells]
def whatK (a : AcI) : Int := if a.2.2.2.2.2.1 = [] then 1 else 2
def whatN (a : AcI) : Int := if a.2.2.2.2.2.1 = [] then a.2.2.2.2.1 else 0
theorem what20_fun (a : AcI) (u1 u2 : Value) : Fun Try.prog 33 [acV a u1 u2] [] [] (fun z G S => z = cnV (whatK a) (whatN a) a.2.2.2.2.2.1 ∧ G = [] ∧ S = []) := by
  obtain ⟨kd, ⟨rt, rr⟩, ⟨ct, cr⟩, ⟨it, ir⟩, nm, tx, rw_, cl⟩ := a
  refine Fun.enter Try.func33 (by kernel_rfl) rfl Try.ntmps33 rfl (fun B Gf Sf => ?_); (try simp only [List.cons_append]); (try simp only [List.nil_append]); simp only [argEnv]
  (repeat (first | refine vgo ?_ | refine ⟨_, rfl, rfl, ?_⟩ | refine ⟨_, rfl, ?_⟩ | refine ⟨rfl, ?_⟩ | intro hb | (refine altL ?_ ?_; omega) | refine altR ?_ | (refine side ?_ ?_; first | omega | exact True.intro | ((try simp only [List.length_append, List.length_cons, List.length_nil, List.length_map, List.length_replicate, List.length_set, and_true, true_and]); omega) | assumption | (and_intros <;> first | omega | assumption) | decide) | (refine decT ?_ ?_; first | with_reducible assumption | with_reducible rfl | (refine not_not_intro ?_; with_reducible first | assumption | rfl) | omega | decide) | (refine decF ?_ ?_; first | with_reducible assumption | with_reducible rfl | (refine not_not_intro ?_; with_reducible first | assumption | rfl) | omega | decide) | (refine decBT ?_ ?_; with_reducible first | assumption | rfl | exact Bool.not_false) | (refine decBF ?_ ?_; with_reducible first | assumption | rfl | exact Bool.not_true) | refine ⟨_, by assumption, ?_⟩ | refine ⟨_, _, _, rfl, ?_⟩ | refine WC.seq (fun K hK => ?_) | (refine hK _ _ _ ?_; clear hK K) | (refine hK _ _ _ _ rfl ?_; clear hK K) | (refine WX.thenExit (K := K) ?_; clear hK K) | (refine WX.thenExit (K := KL) ?_; clear hL KL)))
  (first | refine WL.boxA rfl rfl ?_ | refine WL.box rfl rfl rfl ?_); intro b1
  refine WL.alloc rfl ?_; intro b2
  (repeat (first | refine vgo ?_ | refine ⟨_, rfl, rfl, ?_⟩ | refine ⟨_, rfl, ?_⟩ | refine ⟨rfl, ?_⟩ | intro hb | (refine altL ?_ ?_; omega) | refine altR ?_ | (refine side ?_ ?_; first | omega | exact True.intro | ((try simp only [List.length_append, List.length_cons, List.length_nil, List.length_map, List.length_replicate, List.length_set, and_true, true_and]); omega) | assumption | (and_intros <;> first | omega | assumption) | decide) | (refine decT ?_ ?_; first | with_reducible assumption | with_reducible rfl | (refine not_not_intro ?_; with_reducible first | assumption | rfl) | omega | decide) | (refine decF ?_ ?_; first | with_reducible assumption | with_reducible rfl | (refine not_not_intro ?_; with_reducible first | assumption | rfl) | omega | decide) | (refine decBT ?_ ?_; with_reducible first | assumption | rfl | exact Bool.not_false) | (refine decBF ?_ ?_; with_reducible first | assumption | rfl | exact Bool.not_true) | refine ⟨_, by assumption, ?_⟩ | refine ⟨_, _, _, rfl, ?_⟩ | refine WC.seq (fun K hK => ?_) | (refine hK _ _ _ ?_; clear hK K) | (refine hK _ _ _ _ rfl ?_; clear hK K) | (refine WX.thenExit (K := K) ?_; clear hK K) | (refine WX.thenExit (K := KL) ?_; clear hL KL)))
  by_cases h : tx = []
  · subst h
    (repeat (first | refine vgo ?_ | refine ⟨_, rfl, rfl, ?_⟩ | refine ⟨_, rfl, ?_⟩ | refine ⟨rfl, ?_⟩ | intro hb | (refine altL ?_ ?_; omega) | refine altR ?_ | (refine side ?_ ?_; first | omega | exact True.intro | ((try simp only [List.length_append, List.length_cons, List.length_nil, List.length_map, List.length_replicate, List.length_set, and_true, true_and]); omega) | assumption | (and_intros <;> first | omega | assumption) | decide) | (refine decT ?_ ?_; first | with_reducible assumption | with_reducible rfl | (refine not_not_intro ?_; with_reducible first | assumption | rfl) | omega | decide) | (refine decF ?_ ?_; first | with_reducible assumption | with_reducible rfl | (refine not_not_intro ?_; with_reducible first | assumption | rfl) | omega | decide) | (refine decBT ?_ ?_; with_reducible first | assumption | rfl | exact Bool.not_false) | (refine decBF ?_ ?_; with_reducible first | assumption | rfl | exact Bool.not_true) | refine ⟨_, by assumption, ?_⟩ | refine ⟨_, _, _, rfl, ?_⟩ | refine WC.seq (fun K hK => ?_) | (refine hK _ _ _ ?_; clear hK K) | (refine hK _ _ _ _ rfl ?_; clear hK K) | (refine WX.thenExit (K := K) ?_; clear hK K) | (refine WX.thenExit (K := KL) ?_; clear hL KL)))
    exact WX.ret1C rfl rfl (loadAC (b := b2) rfl) (fun w sw => ⟨[], [], ⟨rfl, rfl, rfl⟩, sw.to⟩)
  · (repeat (first | refine vgo ?_ | refine ⟨_, rfl, rfl, ?_⟩ | refine ⟨_, rfl, ?_⟩ | refine ⟨rfl, ?_⟩ | intro hb | (refine altL ?_ ?_; omega) | refine altR ?_ | (refine side ?_ ?_; first | omega | exact True.intro | ((try simp only [List.length_append, List.length_cons, List.length_nil, List.length_map, List.length_replicate, List.length_set, and_true, true_and]); omega) | assumption | (and_intros <;> first | omega | assumption) | decide) | (refine decT ?_ ?_; first | with_reducible assumption | with_reducible rfl | (refine not_not_intro ?_; with_reducible first | assumption | rfl) | omega | decide) | (refine decF ?_ ?_; first | with_reducible assumption | with_reducible rfl | (refine not_not_intro ?_; with_reducible first | assumption | rfl) | omega | decide) | (refine decBT ?_ ?_; with_reducible first | assumption | rfl | exact Bool.not_false) | (refine decBF ?_ ?_; with_reducible first | assumption | rfl | exact Bool.not_true) | refine ⟨_, by assumption, ?_⟩ | refine ⟨_, _, _, rfl, ?_⟩ | refine WC.seq (fun K hK => ?_) | (refine hK _ _ _ ?_; clear hK K) | (refine hK _ _ _ _ rfl ?_; clear hK K) | (refine WX.thenExit (K := K) ?_; clear hK K) | (refine WX.thenExit (K := KL) ?_; clear hL KL)))
    exact WX.ret1C rfl rfl (loadAC (b := b2) rfl) (fun w sw => ⟨[], [], ⟨by simp only [whatK, whatN, if_neg h], rfl, rfl⟩, sw.to⟩)
instance what20_pure {G : List Pers} {a : AcI} {u1 u2 : Value} : PureF Try.prog 33 [acV a u1 u2] G True (cnV (whatK a) (whatN a) a.2.2.2.2.2.1) := ⟨fun _ => PureF.of0 (what20_fun a u1 u2)⟩
theorem to20_fun (k n : Int) (s : List UInt8) : Fun Try.prog 35 [cnV k n s] [] [] (fun z G S => z = cnV k n s ∧ G = [] ∧ S = []) := by
  refine Fun.enter Try.func35 (by kernel_rfl) rfl Try.ntmps35 rfl (fun B Gf Sf => ?_); (try simp only [List.cons_append]); (try simp only [List.nil_append]); simp only [argEnv]
  (repeat (first | refine vgo ?_ | refine ⟨_, rfl, rfl, ?_⟩ | refine ⟨_, rfl, ?_⟩ | refine ⟨rfl, ?_⟩ | intro hb | (refine altL ?_ ?_; omega) | refine altR ?_ | (refine side ?_ ?_; first | omega | exact True.intro | ((try simp only [List.length_append, List.length_cons, List.length_nil, List.length_map, List.length_replicate, List.length_set, and_true, true_and]); omega) | assumption | (and_intros <;> first | omega | assumption) | decide) | (refine decT ?_ ?_; first | with_reducible assumption | with_reducible rfl | (refine not_not_intro ?_; with_reducible first | assumption | rfl) | omega | decide) | (refine decF ?_ ?_; first | with_reducible assumption | with_reducible rfl | (refine not_not_intro ?_; with_reducible first | assumption | rfl) | omega | decide) | (refine decBT ?_ ?_; with_reducible first | assumption | rfl | exact Bool.not_false) | (refine decBF ?_ ?_; with_reducible first | assumption | rfl | exact Bool.not_true) | refine ⟨_, by assumption, ?_⟩ | refine ⟨_, _, _, rfl, ?_⟩ | refine WC.seq (fun K hK => ?_) | (refine hK _ _ _ ?_; clear hK K) | (refine hK _ _ _ _ rfl ?_; clear hK K) | (refine WX.thenExit (K := K) ?_; clear hK K) | (refine WX.thenExit (K := KL) ?_; clear hL KL)))
  (first | refine WL.boxA rfl rfl ?_ | refine WL.box rfl rfl rfl ?_); intro b1
  refine WL.alloc rfl ?_; intro b2
  (repeat (first | refine vgo ?_ | refine ⟨_, rfl, rfl, ?_⟩ | refine ⟨_, rfl, ?_⟩ | refine ⟨rfl, ?_⟩ | intro hb | (refine altL ?_ ?_; omega) | refine altR ?_ | (refine side ?_ ?_; first | omega | exact True.intro | ((try simp only [List.length_append, List.length_cons, List.length_nil, List.length_map, List.length_replicate, List.length_set, and_true, true_and]); omega) | assumption | (and_intros <;> first | omega | assumption) | decide) | (refine decT ?_ ?_; first | with_reducible assumption | with_reducible rfl | (refine not_not_intro ?_; with_reducible first | assumption | rfl) | omega | decide) | (refine decF ?_ ?_; first | with_reducible assumption | with_reducible rfl | (refine not_not_intro ?_; with_reducible first | assumption | rfl) | omega | decide) | (refine decBT ?_ ?_; with_reducible first | assumption | rfl | exact Bool.not_false) | (refine decBF ?_ ?_; with_reducible first | assumption | rfl | exact Bool.not_true) | refine ⟨_, by assumption, ?_⟩ | refine ⟨_, _, _, rfl, ?_⟩ | refine WC.seq (fun K hK => ?_) | (refine hK _ _ _ ?_; clear hK K) | (refine hK _ _ _ _ rfl ?_; clear hK K) | (refine WX.thenExit (K := K) ?_; clear hK K) | (refine WX.thenExit (K := KL) ?_; clear hL KL)))
  exact WX.ret1C rfl rfl (loadAC (b := b2) rfl) (fun w sw => ⟨[], [], ⟨rfl, rfl, rfl⟩, sw.to⟩)
instance to20_pure {G : List Pers} {k n : Int} {s : List UInt8} : PureF Try.prog 35 [cnV k n s] G True (cnV k n s) := ⟨fun _ => PureF.of0 (to20_fun k n s)⟩
def ndNil : Nd := .mk 0 0 [] ((0, 0), (0, 0)) ((0, 0), (0, 0)) []
theorem same20_fun (k n : Int) (s : List UInt8) (k' n' : Int) (s' : List UInt8) : Fun Try.prog 39 [cnV k n s, cnV k' n' s'] [] [] (fun z G S => z = .bool (decide (k = k' ∧ n = n' ∧ s = s')) ∧ G = [] ∧ S = []) := by
  have h := ctsame_fun ⟨0, 0, 0, [], 0, (0, 0), (0, 0), k, n, s, ndNil⟩ ⟨0, 0, 0, [], 0, (0, 0), (0, 0), k', n', s', ndNil⟩ (.slice none 0 0) (.slice none 0 0)
  have h2 := Fun.free (fun m g hg => by
    have : g = rd (Ty.sl nodeT) [] (.slice none 0 0) := by
      simp only [List.mem_cons, List.not_mem_nil, or_false] at hg
      rcases hg with e | e <;> exact e
    subst this
    exact .inl ⟨rfl, none, 0, rfl, Nat.zero_le _, fun _ => rfl⟩) h
  have e : decide (csameP ⟨0, 0, 0, [], 0, (0, 0), (0, 0), k, n, s, ndNil⟩ ⟨0, 0, 0, [], 0, (0, 0), (0, 0), k', n', s', ndNil⟩) = decide (k = k' ∧ n = n' ∧ s = s') := decide_eq_decide.2 ⟨fun h => ⟨h.1, h.2.1, h.2.2.1⟩, fun h => ⟨h.1, h.2.1, h.2.2, rfl⟩⟩
  rw [e] at h2
  exact h2
instance same20_pure {G : List Pers} {k n k' n' : Int} {s s' : List UInt8} : PureF Try.prog 39 [cnV k n s, cnV k' n' s'] G True (.bool (decide (k = k' ∧ n = n' ∧ s = s'))) := ⟨fun _ => PureF.of0 (same20_fun k n s k' n' s')⟩
end
/-! ### Cells: the law's shows, the chapter's example. -/
section
open Go Go.Proofs
def agreeC (M : List ClI) (L : List ClI) : Prop := M.length = L.length ∧ ∀ k x, L[k]? = some x → (atC M k).1 = x.1 ∧ (atC M k).2.k = x.2.k ∧ (atC M k).2.n = x.2.n ∧ (atC M k).2.s = x.2.s
set_option maxHeartbeats 6400000 in
set_option synthInstance.maxSize 2000 in
set_option synthInstance.maxHeartbeats 400000 in
theorem shows20_fun (M L : List ClI) (q r : Nat) (lv : Value) (hM : (M.map (·.1)).Nodup) (hl : M.length ≤ 1000) (ha : agreeC M L) :
    Fun Try.prog 36 [.pointer (some ⟨q, 0, none⟩), lv] [rd (Ty.sl celT) L lv] [celB q r, celM r M] (fun z G S => z = .bool true ∧ G = [] ∧ S = [celB q r, celM r M]) := by
  obtain ⟨hlen, hag⟩ := ha
  refine Fun.enter Try.func36 (by kernel_rfl) rfl Try.ntmps36 rfl (fun B Gf Sf => ?_); (try simp only [List.cons_append]); (try simp only [List.nil_append]); simp only [argEnv]
  refine WC.ex (fun w sw => sw.slOne (v := lv) RdSl.h) (fun hv1 => ?_)
  refine WC.ex (fun w sw => sw.len_le (RdSl.h (v := lv))) (fun hlv => ?_)
  (repeat (first | refine vgo ?_ | refine ⟨_, rfl, rfl, ?_⟩ | refine ⟨_, rfl, ?_⟩ | refine ⟨rfl, ?_⟩ | intro hb | (refine altL ?_ ?_; omega) | refine altR ?_ | (refine side ?_ ?_; first | omega | exact True.intro | ((try simp only [List.length_append, List.length_cons, List.length_nil, List.length_map, List.length_replicate, List.length_set, and_true, true_and]); omega) | assumption | (and_intros <;> first | omega | assumption) | decide) | (refine decT ?_ ?_; first | with_reducible assumption | with_reducible rfl | (refine not_not_intro ?_; with_reducible first | assumption | rfl) | omega | decide) | (refine decF ?_ ?_; first | with_reducible assumption | with_reducible rfl | (refine not_not_intro ?_; with_reducible first | assumption | rfl) | omega | decide) | (refine decBT ?_ ?_; with_reducible first | assumption | rfl | exact Bool.not_false) | (refine decBF ?_ ?_; with_reducible first | assumption | rfl | exact Bool.not_true) | refine ⟨_, by assumption, ?_⟩ | refine ⟨_, _, _, rfl, ?_⟩ | refine WC.seq (fun K hK => ?_) | (refine hK _ _ _ ?_; clear hK K) | (refine hK _ _ _ _ rfl ?_; clear hK K) | (refine WX.thenExit (K := K) ?_; clear hK K) | (refine WX.thenExit (K := KL) ?_; clear hL KL)))
  (first | refine WL.boxA rfl rfl ?_ | refine WL.box rfl rfl rfl ?_); intro b3
  rw [hv1]
  refine WL.alloc rfl ?_; intro b4
  (repeat (first | refine vgo ?_ | refine ⟨_, rfl, rfl, ?_⟩ | refine ⟨_, rfl, ?_⟩ | refine ⟨rfl, ?_⟩ | intro hb | (refine altL ?_ ?_; omega) | refine altR ?_ | (refine side ?_ ?_; first | omega | exact True.intro | ((try simp only [List.length_append, List.length_cons, List.length_nil, List.length_map, List.length_replicate, List.length_set, and_true, true_and]); omega) | assumption | (and_intros <;> first | omega | assumption) | decide) | (refine decT ?_ ?_; first | with_reducible assumption | with_reducible rfl | (refine not_not_intro ?_; with_reducible first | assumption | rfl) | omega | decide) | (refine decF ?_ ?_; first | with_reducible assumption | with_reducible rfl | (refine not_not_intro ?_; with_reducible first | assumption | rfl) | omega | decide) | (refine decBT ?_ ?_; with_reducible first | assumption | rfl | exact Bool.not_false) | (refine decBF ?_ ?_; with_reducible first | assumption | rfl | exact Bool.not_true) | refine ⟨_, by assumption, ?_⟩ | refine ⟨_, _, _, rfl, ?_⟩ | refine WC.seq (fun K hK => ?_) | (refine hK _ _ _ ?_; clear hK K) | (refine hK _ _ _ _ rfl ?_; clear hK K) | (refine WX.thenExit (K := K) ?_; clear hK K) | (refine WX.thenExit (K := KL) ?_; clear hL KL)))
  refine CallV.by' (call_fun q) ?_; rintro _ _ _ ⟨c, rfl, rfl, rfl⟩; (try simp only [List.cons_append]); (try simp only [List.nil_append])
  (repeat (first | refine vgo ?_ | refine ⟨_, rfl, rfl, ?_⟩ | refine ⟨_, rfl, ?_⟩ | refine ⟨rfl, ?_⟩ | intro hb | (refine altL ?_ ?_; omega) | refine altR ?_ | (refine side ?_ ?_; first | omega | exact True.intro | ((try simp only [List.length_append, List.length_cons, List.length_nil, List.length_map, List.length_replicate, List.length_set, and_true, true_and]); omega) | assumption | (and_intros <;> first | omega | assumption) | decide) | (refine decT ?_ ?_; first | with_reducible assumption | with_reducible rfl | (refine not_not_intro ?_; with_reducible first | assumption | rfl) | omega | decide) | (refine decF ?_ ?_; first | with_reducible assumption | with_reducible rfl | (refine not_not_intro ?_; with_reducible first | assumption | rfl) | omega | decide) | (refine decBT ?_ ?_; with_reducible first | assumption | rfl | exact Bool.not_false) | (refine decBF ?_ ?_; with_reducible first | assumption | rfl | exact Bool.not_true) | refine ⟨_, by assumption, ?_⟩ | refine ⟨_, _, _, rfl, ?_⟩ | refine WC.seq (fun K hK => ?_) | (refine hK _ _ _ ?_; clear hK K) | (refine hK _ _ _ _ rfl ?_; clear hK K) | (refine WX.thenExit (K := K) ?_; clear hK K) | (refine WX.thenExit (K := KL) ?_; clear hL KL)))
  (apply WC.drawE; exact rfl; focus (repeat (first | exact Wo.nil | (apply Wo.keep; exact rfl) | (apply Wo.drop; exact rfl)))); (repeat (apply ObP3.cons0; focus ((repeat (intro _)); (conv => whnf); (repeat (first | refine vgo ?_ | refine ⟨_, rfl, rfl, ?_⟩ | refine ⟨_, rfl, ?_⟩ | refine ⟨rfl, ?_⟩ | intro hb | (refine altL ?_ ?_; omega) | refine altR ?_ | (refine side ?_ ?_; first | omega | exact True.intro | ((try simp only [List.length_append, List.length_cons, List.length_nil, List.length_map, List.length_replicate, List.length_set, and_true, true_and]); omega) | assumption | (and_intros <;> first | omega | assumption) | decide) | (refine decT ?_ ?_; first | with_reducible assumption | with_reducible rfl | (refine not_not_intro ?_; with_reducible first | assumption | rfl) | omega | decide) | (refine decF ?_ ?_; first | with_reducible assumption | with_reducible rfl | (refine not_not_intro ?_; with_reducible first | assumption | rfl) | omega | decide) | (refine decBT ?_ ?_; with_reducible first | assumption | rfl | exact Bool.not_false) | (refine decBF ?_ ?_; with_reducible first | assumption | rfl | exact Bool.not_true) | refine ⟨_, by assumption, ?_⟩ | refine ⟨_, _, _, rfl, ?_⟩ | refine WC.seq (fun K hK => ?_) | (refine hK _ _ _ ?_; clear hK K) | (refine hK _ _ _ _ rfl ?_; clear hK K) | (refine WX.thenExit (K := K) ?_; clear hK K) | (refine WX.thenExit (K := KL) ?_; clear hL KL))); first | exact WX.pgIs rfl | exact WX.pgRd rfl | exact WX.pgCell rfl | exact WX.pgNone | exact WX.pgOwn rfl))); try (refine ObP3.nil ?_; (repeat (intro _)); (conv => whnf); (try dsimp only [envO, List.cons_append, List.nil_append]))
  refine ObP3.cons1 [] [] (.is (.int .i64 (M.length : Nat))) ?_ rfl ?_
  · (repeat (intro _)); (conv => whnf); (try dsimp only [envO, List.cons_append, List.nil_append])
    (repeat (first | refine vgo ?_ | refine ⟨_, rfl, rfl, ?_⟩ | refine ⟨_, rfl, ?_⟩ | refine ⟨rfl, ?_⟩ | intro hb | (refine altL ?_ ?_; omega) | refine altR ?_ | (refine side ?_ ?_; first | omega | exact True.intro | ((try simp only [List.length_append, List.length_cons, List.length_nil, List.length_map, List.length_replicate, List.length_set, and_true, true_and]); omega) | assumption | (and_intros <;> first | omega | assumption) | decide) | (refine decT ?_ ?_; first | with_reducible assumption | with_reducible rfl | (refine not_not_intro ?_; with_reducible first | assumption | rfl) | omega | decide) | (refine decF ?_ ?_; first | with_reducible assumption | with_reducible rfl | (refine not_not_intro ?_; with_reducible first | assumption | rfl) | omega | decide) | (refine decBT ?_ ?_; with_reducible first | assumption | rfl | exact Bool.not_false) | (refine decBF ?_ ?_; with_reducible first | assumption | rfl | exact Bool.not_true) | refine ⟨_, by assumption, ?_⟩ | refine ⟨_, _, _, rfl, ?_⟩ | refine WC.seq (fun K hK => ?_) | (refine hK _ _ _ ?_; clear hK K) | (refine hK _ _ _ _ rfl ?_; clear hK K) | (refine WX.thenExit (K := K) ?_; clear hK K) | (refine WX.thenExit (K := KL) ?_; clear hL KL)))
    refine CallV.by' (clen_fun q r M) ?_; rintro _ _ _ ⟨rfl, rfl, rfl⟩; (try simp only [List.cons_append]); (try simp only [List.nil_append])
    (repeat (first | refine vgo ?_ | refine ⟨_, rfl, rfl, ?_⟩ | refine ⟨_, rfl, ?_⟩ | refine ⟨rfl, ?_⟩ | intro hb | (refine altL ?_ ?_; omega) | refine altR ?_ | (refine side ?_ ?_; first | omega | exact True.intro | ((try simp only [List.length_append, List.length_cons, List.length_nil, List.length_map, List.length_replicate, List.length_set, and_true, true_and]); omega) | assumption | (and_intros <;> first | omega | assumption) | decide) | (refine decT ?_ ?_; first | with_reducible assumption | with_reducible rfl | (refine not_not_intro ?_; with_reducible first | assumption | rfl) | omega | decide) | (refine decF ?_ ?_; first | with_reducible assumption | with_reducible rfl | (refine not_not_intro ?_; with_reducible first | assumption | rfl) | omega | decide) | (refine decBT ?_ ?_; with_reducible first | assumption | rfl | exact Bool.not_false) | (refine decBF ?_ ?_; with_reducible first | assumption | rfl | exact Bool.not_true) | refine ⟨_, by assumption, ?_⟩ | refine ⟨_, _, _, rfl, ?_⟩ | refine WC.seq (fun K hK => ?_) | (refine hK _ _ _ ?_; clear hK K) | (refine hK _ _ _ _ rfl ?_; clear hK K) | (refine WX.thenExit (K := K) ?_; clear hK K) | (refine WX.thenExit (K := KL) ?_; clear hL KL)))
    first | exact WX.pgIs rfl | exact WX.pgRd rfl | exact WX.pgCell rfl | exact WX.pgNone | exact WX.pgOwn rfl
  (repeat (apply ObP3.cons0; focus ((repeat (intro _)); (conv => whnf); (try dsimp only [envO, List.cons_append, List.nil_append]); (repeat (first | refine vgo ?_ | refine ⟨_, rfl, rfl, ?_⟩ | refine ⟨_, rfl, ?_⟩ | refine ⟨rfl, ?_⟩ | intro hb | (refine altL ?_ ?_; omega) | refine altR ?_ | (refine side ?_ ?_; first | omega | exact True.intro | ((try simp only [List.length_append, List.length_cons, List.length_nil, List.length_map, List.length_replicate, List.length_set, and_true, true_and]); omega) | assumption | (and_intros <;> first | omega | assumption) | decide) | (refine decT ?_ ?_; first | with_reducible assumption | with_reducible rfl | (refine not_not_intro ?_; with_reducible first | assumption | rfl) | omega | decide) | (refine decF ?_ ?_; first | with_reducible assumption | with_reducible rfl | (refine not_not_intro ?_; with_reducible first | assumption | rfl) | omega | decide) | (refine decBT ?_ ?_; with_reducible first | assumption | rfl | exact Bool.not_false) | (refine decBF ?_ ?_; with_reducible first | assumption | rfl | exact Bool.not_true) | refine ⟨_, by assumption, ?_⟩ | refine ⟨_, _, _, rfl, ?_⟩ | refine WC.seq (fun K hK => ?_) | (refine hK _ _ _ ?_; clear hK K) | (refine hK _ _ _ _ rfl ?_; clear hK K) | (refine WX.thenExit (K := K) ?_; clear hK K) | (refine WX.thenExit (K := KL) ?_; clear hL KL))); first | exact WX.pgIs rfl | exact WX.pgRd rfl | exact WX.pgCell rfl | exact WX.pgNone | exact WX.pgOwn rfl))); try (refine ObP3.nil ?_; (repeat (intro _)); (conv => whnf); (try dsimp only [envO, List.cons_append, List.nil_append]))
  (repeat (first | refine vgo ?_ | refine ⟨_, rfl, rfl, ?_⟩ | refine ⟨_, rfl, ?_⟩ | refine ⟨rfl, ?_⟩ | intro hb | (refine altL ?_ ?_; omega) | refine altR ?_ | (refine side ?_ ?_; first | omega | exact True.intro | ((try simp only [List.length_append, List.length_cons, List.length_nil, List.length_map, List.length_replicate, List.length_set, and_true, true_and]); omega) | assumption | (and_intros <;> first | omega | assumption) | decide) | (refine decT ?_ ?_; first | with_reducible assumption | with_reducible rfl | (refine not_not_intro ?_; with_reducible first | assumption | rfl) | omega | decide) | (refine decF ?_ ?_; first | with_reducible assumption | with_reducible rfl | (refine not_not_intro ?_; with_reducible first | assumption | rfl) | omega | decide) | (refine decBT ?_ ?_; with_reducible first | assumption | rfl | exact Bool.not_false) | (refine decBF ?_ ?_; with_reducible first | assumption | rfl | exact Bool.not_true) | refine ⟨_, by assumption, ?_⟩ | refine ⟨_, _, _, rfl, ?_⟩ | refine WC.seq (fun K hK => ?_) | (refine hK _ _ _ ?_; clear hK K) | (refine hK _ _ _ _ rfl ?_; clear hK K) | (refine WX.thenExit (K := K) ?_; clear hK K) | (refine WX.thenExit (K := KL) ?_; clear hL KL)))
  refine WL.alloc rfl ?_; intro b6
  (repeat (first | refine vgo ?_ | refine ⟨_, rfl, rfl, ?_⟩ | refine ⟨_, rfl, ?_⟩ | refine ⟨rfl, ?_⟩ | intro hb | (refine altL ?_ ?_; omega) | refine altR ?_ | (refine side ?_ ?_; first | omega | exact True.intro | ((try simp only [List.length_append, List.length_cons, List.length_nil, List.length_map, List.length_replicate, List.length_set, and_true, true_and]); omega) | assumption | (and_intros <;> first | omega | assumption) | decide) | (refine decT ?_ ?_; first | with_reducible assumption | with_reducible rfl | (refine not_not_intro ?_; with_reducible first | assumption | rfl) | omega | decide) | (refine decF ?_ ?_; first | with_reducible assumption | with_reducible rfl | (refine not_not_intro ?_; with_reducible first | assumption | rfl) | omega | decide) | (refine decBT ?_ ?_; with_reducible first | assumption | rfl | exact Bool.not_false) | (refine decBF ?_ ?_; with_reducible first | assumption | rfl | exact Bool.not_true) | refine ⟨_, by assumption, ?_⟩ | refine ⟨_, _, _, rfl, ?_⟩ | refine WC.seqM (fun K hK => ?_) | (refine hK _ _ _ ?_; clear hK K) | (refine hK _ _ _ _ rfl ?_; clear hK K) | (refine WX.thenExit (K := K) ?_; clear hK K) | (refine WX.thenExit (K := KL) ?_; clear hL KL)))
  refine WC.rangeF (gf := 86) (caps := [.pointer (some ⟨c, 0, none⟩)]) (Gy := [rd (Ty.sl celT) L lv]) (Gc := [rd (Ty.sl celT) L lv]) (Sc := [celP c q, celB q r, celM r M]) (Sr := Sf) (N := M.length) (encs := allEc M) (I := Nat) 0 (fun i => i) (fun i => i ≤ M.length)
    (fun i => [box b6 3 [.int .i64 (i : Nat)], box b4 4 [.bool false], box b3 91 [lv]]) (fun c i => False) (fun _ i => [])
    (fun y J Jx hy => ?_) rfl rfl (fun _ => rfl) GS.h GS.h (Nat.zero_le _) rfl (fun w h => h.to) ?_ (fun D j hj hat => ?_) (fun D cc j hj hat => hj.elim)
  · exact call1_it M q r c hM hl y J Jx hy
  · rintro B' y' Gf' i hi hk K S0 hK
    dsimp only at hi hk
    dsimp only [pEnv, List.zip_cons_cons, List.zip_nil_left, List.zip_nil_right]
    simp only [List.cons_append, List.nil_append]
    obtain ⟨x, hx⟩ : ∃ x, L[i]? = some x := ⟨_, List.getElem?_eq_getElem (by omega)⟩
    obtain ⟨h1, h2, h3, h4⟩ := hag i x hx
    rw [h1, h2, h3, h4]
    (repeat (first | refine vgo ?_ | refine ⟨_, rfl, rfl, ?_⟩ | refine ⟨_, rfl, ?_⟩ | refine ⟨rfl, ?_⟩ | intro hb | (refine altL ?_ ?_; omega) | refine altR ?_ | (refine side ?_ ?_; first | omega | exact True.intro | ((try simp only [List.length_append, List.length_cons, List.length_nil, List.length_map, List.length_replicate, List.length_set, and_true, true_and]); omega) | assumption | (and_intros <;> first | omega | assumption) | decide) | (refine decT ?_ ?_; first | with_reducible assumption | with_reducible rfl | (refine not_not_intro ?_; with_reducible first | assumption | rfl) | omega | decide) | (refine decF ?_ ?_; first | with_reducible assumption | with_reducible rfl | (refine not_not_intro ?_; with_reducible first | assumption | rfl) | omega | decide) | (refine decBT ?_ ?_; with_reducible first | assumption | rfl | exact Bool.not_false) | (refine decBF ?_ ?_; with_reducible first | assumption | rfl | exact Bool.not_true) | refine ⟨_, by assumption, ?_⟩ | refine ⟨_, _, _, rfl, ?_⟩ | refine WC.seq (fun K hK => ?_) | (refine hK _ _ _ ?_; clear hK K) | (refine hK _ _ _ _ rfl ?_; clear hK K) | (refine WX.thenExit (K := K) ?_; clear hK K) | (refine WX.thenExit (K := KL) ?_; clear hL KL)))
    refine WL.alloc rfl ?_; intro b7
    (repeat (first | refine vgo ?_ | refine ⟨_, rfl, rfl, ?_⟩ | refine ⟨_, rfl, ?_⟩ | refine ⟨rfl, ?_⟩ | intro hb | (refine altL ?_ ?_; omega) | refine altR ?_ | (refine side ?_ ?_; first | omega | exact True.intro | ((try simp only [List.length_append, List.length_cons, List.length_nil, List.length_map, List.length_replicate, List.length_set, and_true, true_and]); omega) | assumption | (and_intros <;> first | omega | assumption) | decide) | (refine decT ?_ ?_; first | with_reducible assumption | with_reducible rfl | (refine not_not_intro ?_; with_reducible first | assumption | rfl) | omega | decide) | (refine decF ?_ ?_; first | with_reducible assumption | with_reducible rfl | (refine not_not_intro ?_; with_reducible first | assumption | rfl) | omega | decide) | (refine decBT ?_ ?_; with_reducible first | assumption | rfl | exact Bool.not_false) | (refine decBF ?_ ?_; with_reducible first | assumption | rfl | exact Bool.not_true) | refine ⟨_, by assumption, ?_⟩ | refine ⟨_, _, _, rfl, ?_⟩ | refine WC.seq (fun K hK => ?_) | (refine hK _ _ _ ?_; clear hK K) | (refine hK _ _ _ _ rfl ?_; clear hK K) | (refine WX.thenExit (K := K) ?_; clear hK K) | (refine WX.thenExit (K := KL) ?_; clear hL KL)))
    refine WL.alloc rfl ?_; intro b8
    (repeat (first | refine vgo ?_ | refine ⟨_, rfl, rfl, ?_⟩ | refine ⟨_, rfl, ?_⟩ | refine ⟨rfl, ?_⟩ | intro hb | (refine altL ?_ ?_; omega) | refine altR ?_ | (refine side ?_ ?_; first | omega | exact True.intro | ((try simp only [List.length_append, List.length_cons, List.length_nil, List.length_map, List.length_replicate, List.length_set, and_true, true_and]); omega) | assumption | (and_intros <;> first | omega | assumption) | decide) | (refine decT ?_ ?_; first | with_reducible assumption | with_reducible rfl | (refine not_not_intro ?_; with_reducible first | assumption | rfl) | omega | decide) | (refine decF ?_ ?_; first | with_reducible assumption | with_reducible rfl | (refine not_not_intro ?_; with_reducible first | assumption | rfl) | omega | decide) | (refine decBT ?_ ?_; with_reducible first | assumption | rfl | exact Bool.not_false) | (refine decBF ?_ ?_; with_reducible first | assumption | rfl | exact Bool.not_true) | refine ⟨_, by assumption, ?_⟩ | refine ⟨_, _, _, rfl, ?_⟩ | refine WC.seq (fun K hK => ?_) | (refine hK _ _ _ ?_; clear hK K) | (refine hK _ _ _ _ rfl ?_; clear hK K) | (refine WX.thenExit (K := K) ?_; clear hK K) | (refine WX.thenExit (K := KL) ?_; clear hL KL)))
    refine hK _ _ [box b8 54 (cnC x.2.k x.2.n x.2.s), box b7 49 (rfC x.1), box b6 3 [.int .i64 (i : Nat)], box b4 4 [.bool false], box b3 91 [lv]] (fun Sy => ?_)
    simp only [List.cons_append, List.nil_append]
    (repeat (first | refine vgo ?_ | refine ⟨_, rfl, rfl, ?_⟩ | refine ⟨_, rfl, ?_⟩ | refine ⟨rfl, ?_⟩ | intro hb | (refine altL ?_ ?_; omega) | refine altR ?_ | (refine side ?_ ?_; first | omega | exact True.intro | ((try simp only [List.length_append, List.length_cons, List.length_nil, List.length_map, List.length_replicate, List.length_set, and_true, true_and]); omega) | assumption | (and_intros <;> first | omega | assumption) | decide) | (refine decT ?_ ?_; first | with_reducible assumption | with_reducible rfl | (refine not_not_intro ?_; with_reducible first | assumption | rfl) | omega | decide) | (refine decF ?_ ?_; first | with_reducible assumption | with_reducible rfl | (refine not_not_intro ?_; with_reducible first | assumption | rfl) | omega | decide) | (refine decBT ?_ ?_; with_reducible first | assumption | rfl | exact Bool.not_false) | (refine decBF ?_ ?_; with_reducible first | assumption | rfl | exact Bool.not_true) | refine ⟨_, by assumption, ?_⟩ | refine ⟨_, _, _, rfl, ?_⟩ | refine WC.seq (fun K hK => ?_) | (refine hK _ _ _ ?_; clear hK K) | (refine hK _ _ _ _ rfl ?_; clear hK K) | (refine WX.thenExit (K := K) ?_; clear hK K) | (refine WX.thenExit (K := KL) ?_; clear hL KL)))
    have hsame : x.2.k = x.2.k ∧ x.2.n = x.2.n ∧ x.2.s = x.2.s := ⟨rfl, rfl, rfl⟩
    (apply WC.drawE; exact rfl; focus (repeat (first | exact Wo.nil | (apply Wo.keep; exact rfl) | (apply Wo.drop; exact rfl)))); (repeat (apply ObP3.cons0; focus ((repeat (intro _)); (conv => whnf); (repeat (first | refine vgo ?_ | refine ⟨_, rfl, rfl, ?_⟩ | refine ⟨_, rfl, ?_⟩ | refine ⟨rfl, ?_⟩ | intro hb | (refine altL ?_ ?_; omega) | refine altR ?_ | (refine side ?_ ?_; first | omega | exact True.intro | ((try simp only [List.length_append, List.length_cons, List.length_nil, List.length_map, List.length_replicate, List.length_set, and_true, true_and]); omega) | assumption | (and_intros <;> first | omega | assumption) | decide) | (refine decT ?_ ?_; first | with_reducible assumption | with_reducible rfl | (refine not_not_intro ?_; with_reducible first | assumption | rfl) | omega | decide) | (refine decF ?_ ?_; first | with_reducible assumption | with_reducible rfl | (refine not_not_intro ?_; with_reducible first | assumption | rfl) | omega | decide) | (refine decBT ?_ ?_; with_reducible first | assumption | rfl | exact Bool.not_false) | (refine decBF ?_ ?_; with_reducible first | assumption | rfl | exact Bool.not_true) | refine ⟨_, by assumption, ?_⟩ | refine ⟨_, _, _, rfl, ?_⟩ | refine WC.seq (fun K hK => ?_) | (refine hK _ _ _ ?_; clear hK K) | (refine hK _ _ _ _ rfl ?_; clear hK K) | (refine WX.thenExit (K := K) ?_; clear hK K) | (refine WX.thenExit (K := KL) ?_; clear hL KL))); first | exact WX.pgIs rfl | exact WX.pgRd rfl | exact WX.pgCell rfl | exact WX.pgNone | exact WX.pgOwn rfl))); try (refine ObP3.nil ?_; (repeat (intro _)); (conv => whnf); (try dsimp only [envO, List.cons_append, List.nil_append]))
    (repeat (first | refine vgo ?_ | refine ⟨_, rfl, rfl, ?_⟩ | refine ⟨_, rfl, ?_⟩ | refine ⟨rfl, ?_⟩ | intro hb | (refine altL ?_ ?_; omega) | refine altR ?_ | (refine side ?_ ?_; first | omega | exact True.intro | ((try simp only [List.length_append, List.length_cons, List.length_nil, List.length_map, List.length_replicate, List.length_set, and_true, true_and]); omega) | assumption | (and_intros <;> first | omega | assumption) | decide) | (refine decT ?_ ?_; first | with_reducible assumption | with_reducible rfl | (refine not_not_intro ?_; with_reducible first | assumption | rfl) | omega | decide) | (refine decF ?_ ?_; first | with_reducible assumption | with_reducible rfl | (refine not_not_intro ?_; with_reducible first | assumption | rfl) | omega | decide) | (refine decBT ?_ ?_; with_reducible first | assumption | rfl | exact Bool.not_false) | (refine decBF ?_ ?_; with_reducible first | assumption | rfl | exact Bool.not_true) | refine ⟨_, by assumption, ?_⟩ | refine ⟨_, _, _, rfl, ?_⟩ | refine WC.seq (fun K hK => ?_) | (refine hK _ _ _ ?_; clear hK K) | (refine hK _ _ _ _ rfl ?_; clear hK K) | (refine WX.thenExit (K := K) ?_; clear hK K) | (refine WX.thenExit (K := KL) ?_; clear hL KL)))
    exact WX.rNormal (fun w sw => ⟨i + 1, hk, rfl, (show Sat B' (rd (Ty.sl celT) L lv :: Gf') (box b6 3 [.int .i64 ((i : Nat) + 1)] :: box b4 4 [.bool false] :: box b3 91 [lv] :: Sy) w from sw.to)⟩)
  · obtain rfl : j = M.length := hat
    have hd : decide ((M.length : Int) = (L.length : Int)) = true := decide_eq_true (by omega)
    (repeat (first | refine vgo ?_ | refine ⟨_, rfl, rfl, ?_⟩ | refine ⟨_, rfl, ?_⟩ | refine ⟨rfl, ?_⟩ | intro hb | (refine altL ?_ ?_; omega) | refine altR ?_ | (refine side ?_ ?_; first | omega | exact True.intro | ((try simp only [List.length_append, List.length_cons, List.length_nil, List.length_map, List.length_replicate, List.length_set, and_true, true_and]); omega) | assumption | (and_intros <;> first | omega | assumption) | decide) | (refine decT ?_ ?_; first | with_reducible assumption | with_reducible rfl | (refine not_not_intro ?_; with_reducible first | assumption | rfl) | omega | decide) | (refine decF ?_ ?_; first | with_reducible assumption | with_reducible rfl | (refine not_not_intro ?_; with_reducible first | assumption | rfl) | omega | decide) | (refine decBT ?_ ?_; with_reducible first | assumption | rfl | exact Bool.not_false) | (refine decBF ?_ ?_; with_reducible first | assumption | rfl | exact Bool.not_true) | refine ⟨_, by assumption, ?_⟩ | refine ⟨_, _, _, rfl, ?_⟩ | refine WC.seq (fun K hK => ?_) | (refine hK _ _ _ ?_; clear hK K) | (refine hK _ _ _ _ rfl ?_; clear hK K) | (refine WX.thenExit (K := K) ?_; clear hK K) | (refine WX.thenExit (K := KL) ?_; clear hL KL)))
    rw [hd]
    simp only [List.cons_append, List.nil_append]
    refine WX.shut (.inl rfl) SelC.h ?_
    exact WX.ret1C rfl rfl (load1C (b := b4) rfl) (fun w sw => ⟨_, _, ⟨rfl, rfl, rfl⟩, sw.to⟩)
set_option maxHeartbeats 3200000 in
theorem awake20_fun : Fun Try.prog 28 [] [] [] (fun z G S => z = .bool true ∧ G = [] ∧ S = []) := by
  refine Fun.enter Try.func28 (by kernel_rfl) rfl Try.ntmps28 rfl (fun B Gf Sf => ?_); (try simp only [List.cons_append]); (try simp only [List.nil_append]); simp only [argEnv]
  (repeat (first | refine vgo ?_ | refine ⟨_, rfl, rfl, ?_⟩ | refine ⟨_, rfl, ?_⟩ | refine ⟨rfl, ?_⟩ | intro hb | (refine altL ?_ ?_; omega) | refine altR ?_ | (refine side ?_ ?_; first | omega | exact True.intro | ((try simp only [List.length_append, List.length_cons, List.length_nil, List.length_map, List.length_replicate, List.length_set, and_true, true_and]); omega) | assumption | (and_intros <;> first | omega | assumption) | decide) | (refine decT ?_ ?_; first | with_reducible assumption | with_reducible rfl | (refine not_not_intro ?_; with_reducible first | assumption | rfl) | omega | decide) | (refine decF ?_ ?_; first | with_reducible assumption | with_reducible rfl | (refine not_not_intro ?_; with_reducible first | assumption | rfl) | omega | decide) | (refine decBT ?_ ?_; with_reducible first | assumption | rfl | exact Bool.not_false) | (refine decBF ?_ ?_; with_reducible first | assumption | rfl | exact Bool.not_true) | refine ⟨_, by assumption, ?_⟩ | refine ⟨_, _, _, rfl, ?_⟩ | refine WC.seq (fun K hK => ?_) | (refine hK _ _ _ ?_; clear hK K) | (refine hK _ _ _ _ rfl ?_; clear hK K) | (refine WX.thenExit (K := K) ?_; clear hK K) | (refine WX.thenExit (K := KL) ?_; clear hL KL)))
  refine CallV.by' (cnew_fun) ?_; rintro _ _ _ ⟨q, r, rfl, rfl, rfl⟩; (try simp only [List.cons_append]); (try simp only [List.nil_append])
  (repeat (first | refine vgo ?_ | refine ⟨_, rfl, rfl, ?_⟩ | refine ⟨_, rfl, ?_⟩ | refine ⟨rfl, ?_⟩ | intro hb | (refine altL ?_ ?_; omega) | refine altR ?_ | (refine side ?_ ?_; first | omega | exact True.intro | ((try simp only [List.length_append, List.length_cons, List.length_nil, List.length_map, List.length_replicate, List.length_set, and_true, true_and]); omega) | assumption | (and_intros <;> first | omega | assumption) | decide) | (refine decT ?_ ?_; first | with_reducible assumption | with_reducible rfl | (refine not_not_intro ?_; with_reducible first | assumption | rfl) | omega | decide) | (refine decF ?_ ?_; first | with_reducible assumption | with_reducible rfl | (refine not_not_intro ?_; with_reducible first | assumption | rfl) | omega | decide) | (refine decBT ?_ ?_; with_reducible first | assumption | rfl | exact Bool.not_false) | (refine decBF ?_ ?_; with_reducible first | assumption | rfl | exact Bool.not_true) | refine ⟨_, by assumption, ?_⟩ | refine ⟨_, _, _, rfl, ?_⟩ | refine WC.seq (fun K hK => ?_) | (refine hK _ _ _ ?_; clear hK K) | (refine hK _ _ _ _ rfl ?_; clear hK K) | (refine WX.thenExit (K := K) ?_; clear hK K) | (refine WX.thenExit (K := KL) ?_; clear hL KL)))
  refine WL.alloc rfl ?_; intro b2
  (repeat (first | refine vgo ?_ | refine ⟨_, rfl, rfl, ?_⟩ | refine ⟨_, rfl, ?_⟩ | refine ⟨rfl, ?_⟩ | intro hb | (refine altL ?_ ?_; omega) | refine altR ?_ | (refine side ?_ ?_; first | omega | exact True.intro | ((try simp only [List.length_append, List.length_cons, List.length_nil, List.length_map, List.length_replicate, List.length_set, and_true, true_and]); omega) | assumption | (and_intros <;> first | omega | assumption) | decide) | (refine decT ?_ ?_; first | with_reducible assumption | with_reducible rfl | (refine not_not_intro ?_; with_reducible first | assumption | rfl) | omega | decide) | (refine decF ?_ ?_; first | with_reducible assumption | with_reducible rfl | (refine not_not_intro ?_; with_reducible first | assumption | rfl) | omega | decide) | (refine decBT ?_ ?_; with_reducible first | assumption | rfl | exact Bool.not_false) | (refine decBF ?_ ?_; with_reducible first | assumption | rfl | exact Bool.not_true) | refine ⟨_, by assumption, ?_⟩ | refine ⟨_, _, _, rfl, ?_⟩ | refine WC.seq (fun K hK => ?_) | (refine hK _ _ _ ?_; clear hK K) | (refine hK _ _ _ _ rfl ?_; clear hK K) | (refine WX.thenExit (K := K) ?_; clear hK K) | (refine WX.thenExit (K := KL) ?_; clear hL KL)))
  refine CallV.by' (cset_fun q r [] ((0, 1), (0, 1)) ⟨(5, 1), 0, 0, []⟩) ?_; rintro _ _ _ ⟨rfl, rfl, rfl⟩; (try simp only [List.cons_append]); (try simp only [List.nil_append])
  rw [show setB [] ((0, 1), (0, 1)) ⟨(5, 1), 0, 0, []⟩ = true from rfl]
  rw [show setM [] ((0, 1), (0, 1)) ⟨(5, 1), 0, 0, []⟩ = [(((0, 1), (0, 1)), ⟨(5, 1), 0, 0, []⟩)] from rfl]
  (repeat (first | refine vgo ?_ | refine ⟨_, rfl, rfl, ?_⟩ | refine ⟨_, rfl, ?_⟩ | refine ⟨rfl, ?_⟩ | intro hb | (refine altL ?_ ?_; omega) | refine altR ?_ | (refine side ?_ ?_; first | omega | exact True.intro | ((try simp only [List.length_append, List.length_cons, List.length_nil, List.length_map, List.length_replicate, List.length_set, and_true, true_and]); omega) | assumption | (and_intros <;> first | omega | assumption) | decide) | (refine decT ?_ ?_; first | with_reducible assumption | with_reducible rfl | (refine not_not_intro ?_; with_reducible first | assumption | rfl) | omega | decide) | (refine decF ?_ ?_; first | with_reducible assumption | with_reducible rfl | (refine not_not_intro ?_; with_reducible first | assumption | rfl) | omega | decide) | (refine decBT ?_ ?_; with_reducible first | assumption | rfl | exact Bool.not_false) | (refine decBF ?_ ?_; with_reducible first | assumption | rfl | exact Bool.not_true) | refine ⟨_, by assumption, ?_⟩ | refine ⟨_, _, _, rfl, ?_⟩ | refine WC.seq (fun K hK => ?_) | (refine hK _ _ _ ?_; clear hK K) | (refine hK _ _ _ _ rfl ?_; clear hK K) | (refine WX.thenExit (K := K) ?_; clear hK K) | (refine WX.thenExit (K := KL) ?_; clear hL KL)))
  refine CallV.by' (cset_fun q r [(((0, 1), (0, 1)), ⟨(5, 1), 0, 0, []⟩)] ((0, 1), (0, 1)) ⟨(4, 2), 0, 0, []⟩) ?_; rintro _ _ _ ⟨rfl, rfl, rfl⟩; (try simp only [List.cons_append]); (try simp only [List.nil_append])
  rw [show setB [(((0, 1), (0, 1)), ⟨(5, 1), 0, 0, []⟩)] ((0, 1), (0, 1)) ⟨(4, 2), 0, 0, []⟩ = false from by decide +kernel]
  (repeat (first | refine vgo ?_ | refine ⟨_, rfl, rfl, ?_⟩ | refine ⟨_, rfl, ?_⟩ | refine ⟨rfl, ?_⟩ | intro hb | (refine altL ?_ ?_; omega) | refine altR ?_ | (refine side ?_ ?_; first | omega | exact True.intro | ((try simp only [List.length_append, List.length_cons, List.length_nil, List.length_map, List.length_replicate, List.length_set, and_true, true_and]); omega) | assumption | (and_intros <;> first | omega | assumption) | decide) | (refine decT ?_ ?_; first | with_reducible assumption | with_reducible rfl | (refine not_not_intro ?_; with_reducible first | assumption | rfl) | omega | decide) | (refine decF ?_ ?_; first | with_reducible assumption | with_reducible rfl | (refine not_not_intro ?_; with_reducible first | assumption | rfl) | omega | decide) | (refine decBT ?_ ?_; with_reducible first | assumption | rfl | exact Bool.not_false) | (refine decBF ?_ ?_; with_reducible first | assumption | rfl | exact Bool.not_true) | refine ⟨_, by assumption, ?_⟩ | refine ⟨_, _, _, rfl, ?_⟩ | refine WC.seq (fun K hK => ?_) | (refine hK _ _ _ ?_; clear hK K) | (refine hK _ _ _ _ rfl ?_; clear hK K) | (refine WX.thenExit (K := K) ?_; clear hK K) | (refine WX.thenExit (K := KL) ?_; clear hL KL)))
  exact WX.ret1 rfl rfl (fun w sw => ⟨[], [], ⟨rfl, rfl, rfl⟩, sw.to⟩)
instance awake20_pure {G : List Pers} : PureF Try.prog 28 [] G True (.bool true) := ⟨fun _ => PureF.of0 awake20_fun⟩
end
/-! ### Cells: what is set, in whichever order. -/
section
open Go Go.Proofs
abbrev keysC (M : List ClI) : List RfI := M.map (·.1)
theorem getM_put : ∀ (M : List ClI) (a : RfI) (b : EnD) (k : RfI), getM (putM M a b) k = if k = a then some b else getM M k
  | [], a, b, k => by
    rw [putM]
    by_cases h : a = k
    · rw [if_pos h.symm]; show (if a = k then some b else none) = _; rw [if_pos h]
    · rw [if_neg fun e => h e.symm]; show (if a = k then some b else none) = _; rw [if_neg h]; rfl
  | p :: M, a, b, k => by
    rw [putM]
    by_cases h : p.1 = a
    · rw [if_pos h, getM, getM]
      by_cases h2 : a = k
      · rw [if_pos h2, if_pos h2.symm]
      · rw [if_neg h2, if_neg fun e => h2 e.symm, if_neg fun e => h2 (h.symm.trans e)]
    · rw [if_neg h, getM, getM_put M a b k, getM]
      by_cases h2 : p.1 = k
      · rw [if_pos h2, if_pos h2, if_neg fun e => h (h2.trans e)]
      · rw [if_neg h2, if_neg h2]
theorem mem_put : ∀ (M : List ClI) (a : RfI) (b : EnD) (k : RfI), k ∈ keysC (putM M a b) → k = a ∨ k ∈ keysC M
  | [], a, b, k, h => by simp [putM] at h; exact .inl h
  | p :: M, a, b, k, h => by
    rw [putM] at h
    by_cases e : p.1 = a
    · rw [if_pos e] at h
      rcases List.mem_cons.1 h with h | h
      · exact .inl h
      · exact .inr (.tail _ h)
    · rw [if_neg e] at h
      rcases List.mem_cons.1 h with h | h
      · exact .inr (h ▸ .head _)
      · rcases mem_put M a b k h with h | h
        · exact .inl h
        · exact .inr (.tail _ h)
theorem nd_put : ∀ {M : List ClI} {a : RfI} {b : EnD}, (keysC M).Nodup → (keysC (putM M a b)).Nodup
  | [], a, b, _ => by simp [putM]
  | p :: M, a, b, h => by
    obtain ⟨h1, h2⟩ := List.nodup_cons.1 h
    rw [putM]
    by_cases e : p.1 = a
    · rw [if_pos e]
      exact List.nodup_cons.2 ⟨fun h3 => h1 (by show p.1 ∈ _; rw [e]; exact h3), h2⟩
    · rw [if_neg e]
      refine List.nodup_cons.2 ⟨fun h3 => ?_, nd_put h2⟩
      rcases mem_put M a b p.1 h3 with h | h
      · exact e h
      · exact h1 h
/-- What a set leaves. -/
def setF (f : RfI → Option EnD) (c : ClI) (k : RfI) : Option EnD := if k = c.1 then (match f k with | some x => if idLess x.i c.2.i then some c.2 else some x | none => some c.2) else f k
theorem setM_get (M : List ClI) (c : ClI) (k : RfI) : getM (setM M c.1 c.2) k = setF (getM M) c k := by
  unfold setM setF
  cases h : getM M c.1 with
  | none =>
    dsimp only
    rw [getM_put]
    by_cases e : k = c.1
    · subst e; rw [if_pos rfl, if_pos rfl, h]
    · rw [if_neg e, if_neg e]
  | some x =>
    dsimp only
    by_cases hl : idLess x.i c.2.i
    · rw [if_pos hl, getM_put]
      by_cases e : k = c.1
      · subst e; rw [if_pos rfl, if_pos rfl, h]; dsimp only; rw [if_pos hl]
      · rw [if_neg e, if_neg e]
    · rw [if_neg hl]
      by_cases e : k = c.1
      · subst e; rw [if_pos rfl, h]; dsimp only; rw [if_neg hl]
      · rw [if_neg e]
theorem setM_nd {M : List ClI} {k : RfI} {e : EnD} (h : (keysC M).Nodup) : (keysC (setM M k e)).Nodup := by
  unfold setM
  cases getM M k with
  | none => exact nd_put h
  | some x =>
    dsimp only
    by_cases hl : idLess x.i e.i
    · rw [if_pos hl]; exact nd_put h
    · rw [if_neg hl]; exact h
abbrev setLB (L : List ClI) (c : ClI) : List ClI := if setB L c.1 c.2 = true then setL L c else L
theorem getM_app : ∀ (A B : List ClI) (k : RfI), getM (A ++ B) k = (getM A k).or (getM B k)
  | [], B, k => by simp [getM]
  | p :: A, B, k => by
    rw [List.cons_append, getM, getM]
    by_cases h : p.1 = k
    · rw [if_pos h, if_pos h]; rfl
    · rw [if_neg h, if_neg h, getM_app A B k]
theorem getM_filter (p : RfI → Bool) : ∀ (L : List ClI) (k : RfI), getM (L.filter fun x => p x.1) k = if p k = true then getM L k else none
  | [], k => by simp [getM]
  | x :: L, k => by
    rw [List.filter_cons]
    by_cases hp : p x.1 = true
    · rw [if_pos hp, getM, getM, getM_filter p L k]
      by_cases h : x.1 = k
      · rw [if_pos h, if_pos (h ▸ hp), if_pos h]
      · rw [if_neg h, if_neg h]
    · rw [if_neg hp, getM, getM_filter p L k]
      by_cases h : x.1 = k
      · rw [if_neg (h ▸ hp), if_neg (h ▸ hp)]
      · rw [if_neg h]
theorem setL_get (L : List ClI) (c : ClI) (k : RfI) : getM (setL L c) k = if k = c.1 then some c.2 else getM L k := by
  unfold setL
  rw [getM_app, getM, getM_filter (fun x => decide (rfLess x c.1)) L k, getM_filter (fun x => decide (rfLess c.1 x)) L k]
  simp only [decide_eq_true_eq]
  by_cases e : k = c.1
  · subst e
    rw [if_pos rfl, if_pos rfl, if_neg (rfLess_irr _)]; rfl
  · rw [if_neg e, if_neg (show ¬ c.1 = k from fun h => e h.symm)]
    by_cases h : rfLess k c.1
    · rw [if_pos h, if_neg fun h2 => rfLess_irr _ (rfLess_trans h h2)]
      cases getM L k <;> rfl
    · rw [if_neg h, if_pos (rfLess_tri h e)]; rfl
theorem setLB_get (L : List ClI) (c : ClI) (k : RfI) : getM (setLB L c) k = setF (getM L) c k := by
  unfold setLB setB setF
  cases h : getM L c.1 with
  | none =>
    dsimp only
    rw [if_pos rfl, setL_get]
    by_cases e : k = c.1
    · subst e; rw [if_pos rfl, if_pos rfl, h]
    · rw [if_neg e, if_neg e]
  | some x =>
    dsimp only
    simp only [decide_eq_true_eq]
    by_cases hl : idLess x.i c.2.i
    · rw [if_pos hl, setL_get]
      by_cases e : k = c.1
      · subst e; rw [if_pos rfl, if_pos rfl, h]; dsimp only; rw [if_pos hl]
      · rw [if_neg e, if_neg e]
    · rw [if_neg hl]
      by_cases e : k = c.1
      · subst e; rw [if_pos rfl, h]; dsimp only; rw [if_neg hl]
      · rw [if_neg e]
abbrev SrtL (L : List ClI) : Prop := L.Pairwise fun a b => rfLess a.1 b.1
theorem setL_srt {L : List ClI} {c : ClI} (h : SrtL L) : SrtL (setL L c) := by
  unfold setL
  refine List.pairwise_append.2 ⟨h.filter _, List.pairwise_cons.2 ⟨fun x hx => of_decide_eq_true (List.mem_filter.1 hx).2, h.filter _⟩, fun a ha b hb => ?_⟩
  have h1 : rfLess a.1 c.1 := of_decide_eq_true (List.mem_filter.1 ha).2
  rcases List.mem_cons.1 hb with rfl | hb
  · exact h1
  · exact rfLess_trans h1 (of_decide_eq_true (List.mem_filter.1 hb).2)
theorem setLB_srt {L : List ClI} {c : ClI} (h : SrtL L) : SrtL (setLB L c) := by
  unfold setLB
  by_cases e : setB L c.1 c.2 = true
  · rw [if_pos e]; exact setL_srt h
  · rw [if_neg e]; exact h
theorem filter_two {α : Type} {p q : α → Bool} (h : ∀ x, p x = true → q x = true → False) : ∀ (l : List α), (l.filter p).length + (l.filter q).length ≤ l.length
  | [] => by simp
  | x :: l => by
    have ih := filter_two h l
    have hx := h x
    rw [List.filter_cons, List.filter_cons]
    cases hp : p x <;> cases hq : q x <;> simp_all <;> omega
theorem setLB_len (L : List ClI) (c : ClI) : (setLB L c).length ≤ L.length + 1 := by
  unfold setLB
  by_cases e : setB L c.1 c.2 = true
  · rw [if_pos e]
    unfold setL
    have := filter_two (p := fun x : ClI => decide (rfLess x.1 c.1)) (q := fun x : ClI => decide (rfLess c.1 x.1)) (fun x h1 h2 => rfLess_irr _ (rfLess_trans (of_decide_eq_true h1) (of_decide_eq_true h2))) L
    simp only [List.length_append, List.length_cons]; omega
  · rw [if_neg e]; omega
theorem srtL_keys {L : List ClI} (h : SrtL L) : (keysC L).Pairwise rfLess := List.pairwise_map.2 h
theorem srtL_nd {L : List ClI} (h : SrtL L) : (keysC L).Nodup := List.Pairwise.imp (R := rfLess) (S := fun a b => a ≠ b) (fun {a b} h e => rfLess_irr b (by rw [e] at h; exact h)) (srtL_keys h)
theorem mem_keys (M : List ClI) (k : RfI) : k ∈ keysC M ↔ ∃ x, getM M k = some x := by
  constructor
  · exact getM_mem
  · rintro ⟨x, hx⟩
    rcases getM_find M k with ⟨_, h2, _⟩ | ⟨i, y, _, h2, _⟩
    · rw [h2] at hx; cases hx
    · exact List.mem_map.2 ⟨_, List.mem_of_getElem? h2, rfl⟩
theorem getM_at {L : List ClI} (h : (keysC L).Nodup) {i : Nat} {x : ClI} (hx : L[i]? = some x) : getM L x.1 = some x.2 := by
  rcases getM_find L x.1 with ⟨_, _, h3⟩ | ⟨j, y, _, h2, h3⟩
  · exact absurd rfl (h3 x (List.mem_of_getElem? hx))
  · have e1 : (keysC L)[j]? = some x.1 := by rw [List.getElem?_map, h2]; rfl
    have e2 : (keysC L)[i]? = some x.1 := by rw [List.getElem?_map, hx]; rfl
    have := nd_ix h e1 e2
    subst this
    rw [h2] at hx
    have := Option.some.inj hx
    rw [h3, ← this]
theorem agree_of {M L : List ClI} (hM : (keysC M).Nodup) (hL : SrtL L) (h : ∀ k, getM M k = getM L k) : agreeC M L := by
  have hk : srtK M = keysC L := by
    obtain ⟨h1, h2⟩ := srt_facts _ hM
    refine srtR_uniq h1 (srtL_keys hL) fun x => (h2 x).trans ?_
    rw [mem_keys, mem_keys, h]
  have hlen : M.length = L.length := by rw [← srtK_len, hk, List.length_map]
  refine ⟨hlen, fun k x hx => ?_⟩
  have hkl : k < M.length := by rw [hlen]; exact (List.getElem?_eq_some_iff.1 hx).1
  obtain ⟨h1, h2⟩ := atC_get hM hkl
  rw [hk, List.getElem?_map, hx] at h1
  have e1 : (atC M k).1 = x.1 := (Option.some.inj h1).symm
  rw [e1, h, getM_at (srtL_nd hL) hx] at h2
  have e2 : (atC M k).2 = x.2 := (Option.some.inj h2).symm
  rw [e1, e2]
  exact ⟨rfl, rfl, rfl, rfl⟩
end
end Go.Qd
