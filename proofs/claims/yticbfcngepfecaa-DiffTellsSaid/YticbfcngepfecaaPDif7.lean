/-
  Grids that change: plain facts, copies of rows, and a row taken away.
-/
import Derived.Test.YticbfcngepfecaaPDif6
import Derived.Test.YticbfcngepfecaaPInsR
import Derived.Test.YticbfcngepfecaaQRows
namespace Go.Qd
open Go Go.Proofs
abbrev strW (l : List UInt8) : Value := .string (bs l)
/-- A row of the call's own. -/
abbrev rowO (r : Row) (v : Value) : Res := own 9 1 v r.length (flat (r.map strW))
theorem flat_sW : ∀ r : Row, flat (r.map strW) = r.map strW := flat_map_one (fun _ => rfl)
def padR (r : Row) (n : Nat) : Row := r ++ List.replicate (n - r.length) []
theorem padR_len (r : Row) (n : Nat) : (padR r n).length = max r.length n := by unfold padR; rw [List.length_append, List.length_replicate]; omega
theorem padR_tx (r : Row) (n k : Nat) : tx (padR r n) k = tx r k := by
  unfold tx padR
  rw [List.getD_eq_getElem?_getD, List.getD_eq_getElem?_getD, List.getElem?_append]
  split
  · rfl
  · rename_i h
    rw [List.getElem?_eq_none (show r.length ≤ k by omega), List.getElem?_replicate]
    split <;> rfl
def setR (r : Row) (col : Nat) (t : List UInt8) : Row := (padR r col).set (col - 1) t
theorem setR_len (r : Row) (col : Nat) (t : List UInt8) : (setR r col t).length = max r.length col := by unfold setR; rw [List.length_set, padR_len]
/-- One change; none: it can't be. -/
def stepD (g : List Row) (c : Chg) : Option (List Row) :=
  if c.1 = 2 ∧ 0 ≤ c.2.2.1 ∧ c.2.2.1 ≤ g.length then some (g.take c.2.2.1.toNat ++ [] :: g.drop c.2.2.1.toNat)
  else if c.1 = 3 ∧ 1 ≤ c.2.2.1 ∧ c.2.2.1 ≤ g.length then some (g.eraseIdx (c.2.2.1 - 1).toNat)
  else if c.1 = 1 ∧ 1 ≤ c.2.2.1 ∧ c.2.2.1 ≤ g.length ∧ 1 ≤ c.2.1 ∧ c.2.1 ≤ 702 then some (g.set (c.2.2.1 - 1).toNat (setR (g.getD (c.2.2.1 - 1).toNat []) c.2.1.toNat c.2.2.2))
  else none
def applyL (g : List Row) : List Chg → Option (List Row)
  | [] => some g
  | c :: l => match stepD g c with
    | some g' => applyL g' l
    | none => none
def wideR (r : Row) : Prop := r.length ≤ 702 ∧ ∀ t ∈ r, t.length ≤ 100
def wideG (n : Nat) (g : List Row) : Prop := g.length ≤ n ∧ ∀ r ∈ g, wideR r
theorem padR_wide {r : Row} {n : Nat} (h : ∀ t ∈ r, t.length ≤ 100) : ∀ t ∈ padR r n, t.length ≤ 100 := by
  intro t ht
  rcases List.mem_append.1 ht with ht | ht
  · exact h t ht
  · rw [(List.mem_replicate.1 ht).2]; exact Nat.zero_le _
theorem stepD_wide {n : Nat} {g g' : List Row} {c : Chg} (h : wideG n g) (ht : c.2.2.2.length ≤ 100) (hs : stepD g c = some g') : wideG (n + 1) g' := by
  unfold stepD at hs
  obtain ⟨h1, h2⟩ := h
  split at hs
  · cases hs
    refine ⟨by simp only [List.length_append, List.length_cons, List.length_take, List.length_drop]; omega, fun r hr => ?_⟩
    rcases List.mem_append.1 hr with hr | hr
    · exact h2 r (List.mem_of_mem_take hr)
    · rcases List.mem_cons.1 hr with hr | hr
      · subst hr; exact ⟨Nat.zero_le _, fun t ht => by cases ht⟩
      · exact h2 r (List.mem_of_mem_drop hr)
  · split at hs
    · cases hs
      exact ⟨by rw [List.length_eraseIdx]; split <;> omega, fun r hr => h2 r (List.mem_of_mem_eraseIdx hr)⟩
    · split at hs
      · rename_i hc
        cases hs
        refine ⟨by rw [List.length_set]; omega, fun r hr => ?_⟩
        rcases List.mem_or_eq_of_mem_set hr with hr | hr
        · exact h2 r hr
        · subst hr
          have hlt : (c.2.2.1 - 1).toNat < g.length := by omega
          have hm : g.getD (c.2.2.1 - 1).toNat [] ∈ g := by
            rw [List.getD_eq_getElem?_getD, List.getElem?_eq_getElem hlt]; exact List.getElem_mem _
          obtain ⟨w1, w2⟩ := h2 _ hm
          refine ⟨by rw [setR_len]; omega, fun t hmt => ?_⟩
          rcases List.mem_or_eq_of_mem_set hmt with hmt | hmt
          · exact padR_wide w2 t hmt
          · subst hmt; exact ht
      · cases hs
abbrev chgT : Ty Chg := Ty.pair Ty.i64 (Ty.pair Ty.i64 (Ty.pair Ty.i64 (Ty.rec1 Ty.str)))
abbrev okC (a : Chg) : Prop := (-9223372036854775808 ≤ a.1 ∧ a.1 ≤ 9223372036854775807) ∧ (-9223372036854775808 ≤ a.2.1 ∧ a.2.1 ≤ 9223372036854775807) ∧ (-9223372036854775808 ≤ a.2.2.1 ∧ a.2.2.1 ≤ 9223372036854775807) ∧ a.2.2.2.length ≤ maxLen
instance : Ty.Is chgT (fun a => chV a) okC := ⟨fun a v h => ⟨by
  rintro ⟨x1, y1, rfl, ⟨rfl, h1⟩, x2, y2, rfl, ⟨rfl, h2⟩, x3, y3, rfl, ⟨rfl, h3⟩, z, rfl, rfl, h4⟩
  exact ⟨rfl, h1, h2, h3, h4⟩, by
  rintro ⟨rfl, h1, h2, h3, h4⟩
  exact ⟨.int .i64 a.1, _, rfl, ⟨rfl, h1⟩, .int .i64 a.2.1, _, rfl, ⟨rfl, h2⟩, .int .i64 a.2.2.1, _, rfl, ⟨rfl, h3⟩, .string (bs a.2.2.2), rfl, rfl, h4⟩⟩⟩
set_option maxHeartbeats 1600000 in
theorem cloneS_fun (l : Row) (v : Value) (hl : l.length ≤ 100000) : Fun Try.prog 129 [v] [rd (Ty.sl Ty.str) l v] [] (fun r G S => G = [] ∧ S = [rowO l r]) := by
  refine Fun.enter Try.func129 (by kernel_rfl) rfl Try.ntmps129 rfl (fun B Gf Sf => ?_); (try simp only [List.cons_append]); (try simp only [List.nil_append]); simp only [argEnv]
  (repeat (first | refine vgo ?_ | refine ⟨_, rfl, rfl, ?_⟩ | refine ⟨_, rfl, ?_⟩ | refine ⟨rfl, ?_⟩ | intro hb | (refine altL ?_ ?_; omega) | refine altR ?_ | (refine side ?_ ?_; first | omega | exact True.intro | ((try simp only [List.length_append, List.length_cons, List.length_nil, List.length_map, List.length_replicate, List.length_set, and_true, true_and]); omega) | assumption | (and_intros <;> first | omega | assumption) | decide) | (refine decT ?_ ?_; first | with_reducible assumption | with_reducible rfl | (refine not_not_intro ?_; with_reducible first | assumption | rfl) | omega | decide) | (refine decF ?_ ?_; first | with_reducible assumption | with_reducible rfl | (refine not_not_intro ?_; with_reducible first | assumption | rfl) | omega | decide) | (refine decBT ?_ ?_; with_reducible first | assumption | rfl | exact Bool.not_false) | (refine decBF ?_ ?_; with_reducible first | assumption | rfl | exact Bool.not_true) | refine ⟨_, by assumption, ?_⟩ | refine ⟨_, _, _, rfl, ?_⟩ | refine WC.seq (fun K hK => ?_) | (refine hK _ _ _ ?_; clear hK K) | (refine WX.thenExit (K := K) ?_; clear hK K) | (refine WX.thenExit (K := KL) ?_; clear hL KL)))
  refine dcBB (fun hn => ?_) (fun hn => ?_)
  · (repeat (first | refine vgo ?_ | refine ⟨_, rfl, rfl, ?_⟩ | refine ⟨_, rfl, ?_⟩ | refine ⟨rfl, ?_⟩ | intro hb | (refine altL ?_ ?_; omega) | refine altR ?_ | (refine side ?_ ?_; first | omega | exact True.intro | ((try simp only [List.length_append, List.length_cons, List.length_nil, List.length_map, List.length_replicate, List.length_set, and_true, true_and]); omega) | assumption | (and_intros <;> first | omega | assumption) | decide) | (refine decT ?_ ?_; first | with_reducible assumption | with_reducible rfl | (refine not_not_intro ?_; with_reducible first | assumption | rfl) | omega | decide) | (refine decF ?_ ?_; first | with_reducible assumption | with_reducible rfl | (refine not_not_intro ?_; with_reducible first | assumption | rfl) | omega | decide) | (refine decBT ?_ ?_; with_reducible first | assumption | rfl | exact Bool.not_false) | (refine decBF ?_ ?_; with_reducible first | assumption | rfl | exact Bool.not_true) | refine ⟨_, by assumption, ?_⟩ | refine ⟨_, _, _, rfl, ?_⟩ | refine WC.seq (fun K hK => ?_) | (refine hK _ _ _ ?_; clear hK K) | (refine WX.thenExit (K := K) ?_; clear hK K) | (refine WX.thenExit (K := KL) ?_; clear hL KL)))
    obtain rfl := hb hn
    refine WX.sat (fun w sw => sw.ownNil 9 1) ?_
    exact WX.ret1 rfl rfl (fun w sw => ⟨[], [rowO [] (.slice none 0 0)], ⟨rfl, rfl⟩, (sw.to : Sat B ([] ++ rd (Ty.sl Ty.str) [] v :: Gf) ([own 9 1 (.slice none 0 0) 0 []] ++ Sf) w)⟩)
  · (repeat (first | refine vgo ?_ | refine ⟨_, rfl, rfl, ?_⟩ | refine ⟨_, rfl, ?_⟩ | refine ⟨rfl, ?_⟩ | intro hb | (refine altL ?_ ?_; omega) | refine altR ?_ | (refine side ?_ ?_; first | omega | exact True.intro | ((try simp only [List.length_append, List.length_cons, List.length_nil, List.length_map, List.length_replicate, List.length_set, and_true, true_and]); omega) | assumption | (and_intros <;> first | omega | assumption) | decide) | (refine decT ?_ ?_; first | with_reducible assumption | with_reducible rfl | (refine not_not_intro ?_; with_reducible first | assumption | rfl) | omega | decide) | (refine decF ?_ ?_; first | with_reducible assumption | with_reducible rfl | (refine not_not_intro ?_; with_reducible first | assumption | rfl) | omega | decide) | (refine decBT ?_ ?_; with_reducible first | assumption | rfl | exact Bool.not_false) | (refine decBF ?_ ?_; with_reducible first | assumption | rfl | exact Bool.not_true) | refine ⟨_, by assumption, ?_⟩ | refine ⟨_, _, _, rfl, ?_⟩ | refine WC.seq (fun K hK => ?_) | (refine hK _ _ _ ?_; clear hK K) | (refine WX.thenExit (K := K) ?_; clear hK K) | (refine WX.thenExit (K := KL) ?_; clear hL KL)))
    refine WX.ret1 rfl rfl (fun w sw => ⟨[], [_], ⟨rfl, rfl⟩, ?_⟩)
    rw [Nat.zero_add] at sw
    exact (sw.to : Sat B ([] ++ rd (Ty.sl Ty.str) l v :: Gf) ([own 9 1 hb l.length ([] ++ flat (l.map fun l => Value.string ⟨l.toArray⟩))] ++ Sf) w)
section
variable {n : Nat} {Q : Exit → Act → World → Prop} {B : World} {env : Env} {G : List Pers} {S S' S1 S2 : List Res} {L rest : List Oper} {d : Nat}
instance cloneS_v {l : Row} {v : Value} [i : RdSl v G Ty.str l] : V (CallV Try.prog n L Q rest B env G S (some d) 129 [v]) (Side (l.length ≤ 100000) (∀ u, WL Try.prog n L Q rest B ((d, u) :: env) G (rowO l u :: S))) := ⟨fun h => by
  refine .by (cloneS_fun l v h.c) (by simpa using i.h) .nil ?_
  rintro u _ _ ⟨rfl, rfl⟩
  exact h.p u⟩
end
set_option maxHeartbeats 1600000 in
theorem copied_fun (g : List Row) (vg : Value) (hg1 : g.length ≤ 100000) (hg2 : ∀ r ∈ g, r.length ≤ 100000) : Fun Try.prog 92 [vg] [rd (Ty.sl (Ty.sl Ty.str)) g vg] [] (fun r G S => ∃ vs, G = [] ∧ S = [own 93 1 r g.length vs, many rowO g vs]) := by
  refine Fun.enter Try.func92 (by kernel_rfl) rfl Try.ntmps92 rfl (fun B Gf Sf => ?_); (try simp only [List.cons_append]); (try simp only [List.nil_append]); simp only [argEnv]
  refine WC.sat (fun w sw => (sw.manyNil (f := rowO)).ownNil 93 1) ?_
  (repeat (first | refine vgo ?_ | refine ⟨_, rfl, rfl, ?_⟩ | refine ⟨_, rfl, ?_⟩ | refine ⟨rfl, ?_⟩ | intro hb | (refine altL ?_ ?_; omega) | refine altR ?_ | (refine side ?_ ?_; first | omega | exact True.intro | ((try simp only [List.length_append, List.length_cons, List.length_nil, List.length_map, List.length_replicate, List.length_set, and_true, true_and]); omega) | assumption | (and_intros <;> first | omega | assumption) | decide) | (refine decT ?_ ?_; first | with_reducible assumption | with_reducible rfl | (refine not_not_intro ?_; with_reducible first | assumption | rfl) | omega | decide) | (refine decF ?_ ?_; first | with_reducible assumption | with_reducible rfl | (refine not_not_intro ?_; with_reducible first | assumption | rfl) | omega | decide) | (refine decBT ?_ ?_; with_reducible first | assumption | rfl | exact Bool.not_false) | (refine decBF ?_ ?_; with_reducible first | assumption | rfl | exact Bool.not_true) | refine ⟨_, by assumption, ?_⟩ | refine ⟨_, _, _, rfl, ?_⟩ | refine WC.seq (fun K hK => ?_) | (refine hK _ _ _ ?_; clear hK K) | (refine WX.thenExit (K := K) ?_; clear hK K) | (refine WX.thenExit (K := KL) ?_; clear hL KL)))
  refine WC.loop (I := Nat × Value × List Value) (fun x => [(3, x.2.1), (6, vg), (7, .int .i64 (g.length : Nat)), (8, .int .i64 (x.1 : Nat))]) (fun _ => rd (Ty.sl (Ty.sl Ty.str)) g vg :: Gf) (fun x => own 93 1 x.2.1 x.1 x.2.2 :: many rowO (g.take x.1) x.2.2 :: Sf) (fun x => x.1 ≤ g.length) (fun x => g.length - x.1) (0, .slice none 0 0, []) (Nat.zero_le _) (.cons rfl (.cons rfl (.cons rfl (.cons rfl .nil)))) (fun w h => (h.to : Sat B (rd (Ty.sl (Ty.sl Ty.str)) g vg :: Gf) (own 93 1 (.slice none 0 0) 0 [] :: many rowO [] [] :: Sf) w)) ?_
  rintro ⟨k, ov, vs⟩ hk KL hL
  dsimp only at hk ⊢
  by_cases h : k < g.length
  · obtain ⟨r, hr⟩ : ∃ r, g[k]? = some r := ⟨_, List.getElem?_eq_getElem h⟩
    have hrl := hg2 r (List.mem_of_getElem? hr)
    (repeat (first | refine vgo ?_ | refine ⟨_, rfl, rfl, ?_⟩ | refine ⟨_, rfl, ?_⟩ | refine ⟨rfl, ?_⟩ | intro hb | (refine altL ?_ ?_; omega) | refine altR ?_ | (refine side ?_ ?_; first | omega | exact True.intro | ((try simp only [List.length_append, List.length_cons, List.length_nil, List.length_map, List.length_replicate, List.length_set, and_true, true_and]); omega) | assumption | (and_intros <;> first | omega | assumption) | decide) | (refine decT ?_ ?_; first | with_reducible assumption | with_reducible rfl | (refine not_not_intro ?_; with_reducible first | assumption | rfl) | omega | decide) | (refine decF ?_ ?_; first | with_reducible assumption | with_reducible rfl | (refine not_not_intro ?_; with_reducible first | assumption | rfl) | omega | decide) | (refine decBT ?_ ?_; with_reducible first | assumption | rfl | exact Bool.not_false) | (refine decBF ?_ ?_; with_reducible first | assumption | rfl | exact Bool.not_true) | refine ⟨_, by assumption, ?_⟩ | refine ⟨_, _, _, rfl, ?_⟩ | refine WC.seq (fun K hK => ?_) | (refine hK _ _ _ ?_; clear hK K) | (refine WX.thenExit (K := K) ?_; clear hK K) | (refine WX.thenExit (K := KL) ?_; clear hL KL)))
    rename_i cl bs1
    refine (hL (k + 1, hb, vs ++ [cl]) h (by dsimp only; omega)).conv (.cons rfl (.cons rfl (.cons rfl (.cons rfl .nil)))) (fun w h => ?_)
    have h2 : Sat B _ (rowO r cl :: many rowO (g.take k) vs :: own 93 1 hb (k + 1) (vs ++ [cl]) :: Sf) w := Sat.ssub (show Sat B _ (own 93 1 hb (k + 1) (vs ++ [cl]) :: rowO r cl :: many rowO (g.take k) vs :: Sf) w from h) SS.h
    have h3 := h2.manySnoc
    rw [show g.take k ++ [r] = g.take (k + 1) from by rw [List.take_add_one, hr]; rfl] at h3
    exact h3.to
  · obtain rfl : k = g.length := by omega
    rw [List.take_of_length_le (Nat.le_refl _)]
    (repeat (first | refine vgo ?_ | refine ⟨_, rfl, rfl, ?_⟩ | refine ⟨_, rfl, ?_⟩ | refine ⟨rfl, ?_⟩ | intro hb | (refine altL ?_ ?_; omega) | refine altR ?_ | (refine side ?_ ?_; first | omega | exact True.intro | ((try simp only [List.length_append, List.length_cons, List.length_nil, List.length_map, List.length_replicate, List.length_set, and_true, true_and]); omega) | assumption | (and_intros <;> first | omega | assumption) | decide) | (refine decT ?_ ?_; first | with_reducible assumption | with_reducible rfl | (refine not_not_intro ?_; with_reducible first | assumption | rfl) | omega | decide) | (refine decF ?_ ?_; first | with_reducible assumption | with_reducible rfl | (refine not_not_intro ?_; with_reducible first | assumption | rfl) | omega | decide) | (refine decBT ?_ ?_; with_reducible first | assumption | rfl | exact Bool.not_false) | (refine decBF ?_ ?_; with_reducible first | assumption | rfl | exact Bool.not_true) | refine ⟨_, by assumption, ?_⟩ | refine ⟨_, _, _, rfl, ?_⟩ | refine WC.seq (fun K hK => ?_) | (refine hK _ _ _ ?_; clear hK K) | (refine WX.thenExit (K := K) ?_; clear hK K) | (refine WX.thenExit (K := KL) ?_; clear hL KL)))
    exact WX.ret1 rfl rfl (fun w sw => ⟨[], _, ⟨vs, rfl, rfl⟩, sw.to⟩)
theorem del_cells1 {xs cs : List Value} {i j m cp s : Nat} (hij : i ≤ j) (hj : j ≤ m) (hmc : m ≤ cp) (hcl : cs.length = cp * s) (hct : cs.take (m * s) = xs) {cs' : List Value}
    (h : cs'.take ((i + (m - j)) * s) = (cs.take (i * s) ++ (cs.drop (j * s)).take ((m - j) * s) ++ cs.drop ((i + (m - j)) * s)).take ((i + (m - j)) * s)) : cs'.take ((m - (j - i)) * s) = xs.take (i * s) ++ xs.drop (j * s) := by
  have h1 : i * s ≤ m * s := Nat.mul_le_mul_right _ (by omega)
  have h2 : m * s ≤ cp * s := Nat.mul_le_mul_right _ hmc
  have h3 : j * s ≤ m * s := Nat.mul_le_mul_right _ hj
  have h4 : (m - j) * s = m * s - j * s := Nat.sub_mul ..
  have h5 : (i + (m - j)) * s = i * s + (m - j) * s := Nat.add_mul ..
  rw [show m - (j - i) = i + (m - j) from by omega, h, List.take_left' (by rw [List.length_append, List.length_take, List.length_take, List.length_drop, hcl]; omega), ← hct, List.take_take, Nat.min_eq_left h1, List.drop_take, h4]
set_option maxHeartbeats 1600000 in
theorem deleteR_fun (v : Value) (m i j : Nat) (xs : List Value) (h1 : ∀ u ∈ xs, u.oneCell' = true) (hm : m ≤ 100000) (hij2 : i < j) (hj : j ≤ m) : Fun Try.prog 94 [v, .int .i64 i, .int .i64 j] [] [own 93 1 v m xs]
    (fun r G S => G = [] ∧ S = [own 93 1 r (m - (j - i)) (xs.take (i * 1) ++ xs.drop (j * 1))]) := by
  refine Fun.enter Try.func94 (by kernel_rfl) rfl Try.ntmps94 rfl (fun B Gf Sf => ?_); (try simp only [List.cons_append]); (try simp only [List.nil_append]); simp only [argEnv]
  refine WC.ex (fun w sw => sw.own_cases.1) (fun hxl => ?_)
  refine WC.openOwn (v := v) (fun e m0 => absurd m0 (by omega)) (fun b cp cs e hmc hcp hcl hct => ?_)
  subst e
  have hij : i ≤ j := by omega
  (repeat (first | refine vgo ?_ | refine ⟨_, rfl, rfl, ?_⟩ | refine ⟨_, rfl, ?_⟩ | refine ⟨rfl, ?_⟩ | intro hb | (refine altL ?_ ?_; omega) | refine altR ?_ | (refine side ?_ ?_; first | omega | exact True.intro | ((try simp only [List.length_append, List.length_cons, List.length_nil, List.length_map, List.length_replicate, List.length_set, and_true, true_and]); omega) | assumption | (and_intros <;> first | omega | assumption) | decide) | (refine decT ?_ ?_; first | with_reducible assumption | with_reducible rfl | (refine not_not_intro ?_; with_reducible first | assumption | rfl) | omega | decide) | (refine decF ?_ ?_; first | with_reducible assumption | with_reducible rfl | (refine not_not_intro ?_; with_reducible first | assumption | rfl) | omega | decide) | (refine decBT ?_ ?_; with_reducible first | assumption | rfl | exact Bool.not_false) | (refine decBF ?_ ?_; with_reducible first | assumption | rfl | exact Bool.not_true) | refine ⟨_, by assumption, ?_⟩ | refine ⟨_, _, _, rfl, ?_⟩ | refine WC.seq (fun K hK => ?_) | (refine hK _ _ _ ?_; clear hK K) | (refine WX.thenExit (K := K) ?_; clear hK K) | (refine WX.thenExit (K := KL) ?_; clear hL KL)))
  refine WC.drawVL2 (j := 0) (j2 := 3) (S := (Sf)) ([[box b 93 cs]]) rfl rfl rfl rfl rfl rfl rfl (by repeat (first | exact Wo.nil | (apply Wo.keep; exact rfl) | (apply Wo.drop; exact rfl))) (fun w sw => by (try simp only [List.flatten_cons, List.flatten_nil, List.append_nil, List.cons_append, List.nil_append]); exact sw.to) ?_; (try dsimp only [chunks])
  (repeat (apply ObP3.cons0; focus ((repeat (intro _)); (conv => whnf); (try dsimp only [envO, List.cons_append, List.nil_append]); (repeat (first | refine vgo ?_ | refine ⟨_, rfl, rfl, ?_⟩ | refine ⟨_, rfl, ?_⟩ | refine ⟨rfl, ?_⟩ | intro hb | (refine altL ?_ ?_; omega) | refine altR ?_ | (refine side ?_ ?_; first | omega | exact True.intro | ((try simp only [List.length_append, List.length_cons, List.length_nil, List.length_map, List.length_replicate, List.length_set, and_true, true_and]); omega) | assumption | (and_intros <;> first | omega | assumption) | decide) | (refine decT ?_ ?_; first | with_reducible assumption | with_reducible rfl | (refine not_not_intro ?_; with_reducible first | assumption | rfl) | omega | decide) | (refine decF ?_ ?_; first | with_reducible assumption | with_reducible rfl | (refine not_not_intro ?_; with_reducible first | assumption | rfl) | omega | decide) | (refine decBT ?_ ?_; with_reducible first | assumption | rfl | exact Bool.not_false) | (refine decBF ?_ ?_; with_reducible first | assumption | rfl | exact Bool.not_true) | refine ⟨_, by assumption, ?_⟩ | refine ⟨_, _, _, rfl, ?_⟩ | refine WC.seq (fun K hK => ?_) | (refine hK _ _ _ ?_; clear hK K) | (refine WX.thenExit (K := K) ?_; clear hK K) | (refine WX.thenExit (K := KL) ?_; clear hL KL))); first | exact WX.pgIs rfl | exact WX.pgRd rfl | exact WX.pgCell rfl | exact WX.pgNone | exact WX.pgOwn rfl))); try (refine ObP3.nil ?_; (repeat (intro _)); (conv => whnf); (try dsimp only [envO, List.cons_append, List.nil_append]))
  have hmx : m * 1 ≤ cp * 1 := Nat.mul_le_mul_right _ hmc
  have hjx : j * 1 ≤ m * 1 := Nat.mul_le_mul_right _ hj
  have hix : i * 1 ≤ m * 1 := Nat.mul_le_mul_right _ (by omega)
  have hmj : (m - j) * 1 = m * 1 - j * 1 := Nat.sub_mul ..
  have h1' : ∀ u ∈ (cs.drop (j * 1)).take ((m - j) * 1), u.oneCell' = true := by
    rw [hmj, ← List.drop_take, hct]
    exact fun u hu => h1 u (List.mem_of_mem_drop hu)
  have hadr2 : m - j = 0 ∨ adr b j cp 1 = ⟨b, j * 1, none⟩ := (adr_or b j cp 1).imp (fun h => by omega) id
  have hadr3 : adr b (i + (m - j)) cp 1 = ⟨b, (i + (m - j)) * 1, none⟩ := (adr_or b (i + (m - j)) cp 1).resolve_left (by omega)
  refine ObP3.cons1 [] [1000] (.ex Unit (fun _ => .slice (some ⟨b, 0, none⟩) (i + (m - j)) cp) (fun _ => []) (fun _ => [box b 93 (cs.take (i * 1) ++ (cs.drop (j * 1)).take ((m - j) * 1) ++ cs.drop ((i + (m - j)) * 1))])) ?_ rfl ?_
  · (repeat (intro _)); (conv => whnf); (try dsimp only [envO, List.cons_append, List.nil_append])
    (repeat (first | refine vgo ?_ | refine ⟨_, rfl, rfl, ?_⟩ | refine ⟨_, rfl, ?_⟩ | refine ⟨rfl, ?_⟩ | intro hb | (refine altL ?_ ?_; omega) | refine altR ?_ | (refine side ?_ ?_; first | omega | exact True.intro | ((try simp only [List.length_append, List.length_cons, List.length_nil, List.length_map, List.length_replicate, List.length_set, and_true, true_and]); omega) | assumption | (and_intros <;> first | omega | assumption) | decide) | (refine decT ?_ ?_; first | with_reducible assumption | with_reducible rfl | (refine not_not_intro ?_; with_reducible first | assumption | rfl) | omega | decide) | (refine decF ?_ ?_; first | with_reducible assumption | with_reducible rfl | (refine not_not_intro ?_; with_reducible first | assumption | rfl) | omega | decide) | (refine decBT ?_ ?_; with_reducible first | assumption | rfl | exact Bool.not_false) | (refine decBF ?_ ?_; with_reducible first | assumption | rfl | exact Bool.not_true) | refine ⟨_, by assumption, ?_⟩ | refine ⟨_, _, _, rfl, ?_⟩ | refine WC.seq (fun K hK => ?_) | (refine hK _ _ _ ?_; clear hK K) | (refine WX.thenExit (K := K) ?_; clear hK K) | (refine WX.thenExit (K := KL) ?_; clear hL KL)))
    refine AppV.inBox (o := j * 1) (b := b) (sz := 1) (E := 93) (cs := cs) hadr2 (by omega) (by omega) (by omega) h1' ?_
    (repeat (first | refine vgo ?_ | refine ⟨_, rfl, rfl, ?_⟩ | refine ⟨_, rfl, ?_⟩ | refine ⟨rfl, ?_⟩ | intro hb | (refine altL ?_ ?_; omega) | refine altR ?_ | (refine side ?_ ?_; first | omega | exact True.intro | ((try simp only [List.length_append, List.length_cons, List.length_nil, List.length_map, List.length_replicate, List.length_set, and_true, true_and]); omega) | assumption | (and_intros <;> first | omega | assumption) | decide) | (refine decT ?_ ?_; first | with_reducible assumption | with_reducible rfl | (refine not_not_intro ?_; with_reducible first | assumption | rfl) | omega | decide) | (refine decF ?_ ?_; first | with_reducible assumption | with_reducible rfl | (refine not_not_intro ?_; with_reducible first | assumption | rfl) | omega | decide) | (refine decBT ?_ ?_; with_reducible first | assumption | rfl | exact Bool.not_false) | (refine decBF ?_ ?_; with_reducible first | assumption | rfl | exact Bool.not_true) | refine ⟨_, by assumption, ?_⟩ | refine ⟨_, _, _, rfl, ?_⟩ | refine WC.seq (fun K hK => ?_) | (refine hK _ _ _ ?_; clear hK K) | (refine WX.thenExit (K := K) ?_; clear hK K) | (refine WX.thenExit (K := KL) ?_; clear hL KL)))
    exact WX.pgEx () rfl (fun w sw => sw.to)
  (repeat (apply ObP3.cons0; focus ((repeat (intro _)); (conv => whnf); (try dsimp only [envO, List.cons_append, List.nil_append]); (repeat (first | refine vgo ?_ | refine ⟨_, rfl, rfl, ?_⟩ | refine ⟨_, rfl, ?_⟩ | refine ⟨rfl, ?_⟩ | intro hb | (refine altL ?_ ?_; omega) | refine altR ?_ | (refine side ?_ ?_; first | omega | exact True.intro | ((try simp only [List.length_append, List.length_cons, List.length_nil, List.length_map, List.length_replicate, List.length_set, and_true, true_and]); omega) | assumption | (and_intros <;> first | omega | assumption) | decide) | (refine decT ?_ ?_; first | with_reducible assumption | with_reducible rfl | (refine not_not_intro ?_; with_reducible first | assumption | rfl) | omega | decide) | (refine decF ?_ ?_; first | with_reducible assumption | with_reducible rfl | (refine not_not_intro ?_; with_reducible first | assumption | rfl) | omega | decide) | (refine decBT ?_ ?_; with_reducible first | assumption | rfl | exact Bool.not_false) | (refine decBF ?_ ?_; with_reducible first | assumption | rfl | exact Bool.not_true) | refine ⟨_, by assumption, ?_⟩ | refine ⟨_, _, _, rfl, ?_⟩ | refine WC.seq (fun K hK => ?_) | (refine hK _ _ _ ?_; clear hK K) | (refine WX.thenExit (K := K) ?_; clear hK K) | (refine WX.thenExit (K := KL) ?_; clear hL KL))); first | exact WX.pgIs rfl | exact WX.pgRd rfl | exact WX.pgCell rfl | exact WX.pgNone | exact WX.pgOwn rfl))); try (refine ObP3.nil ?_; (repeat (intro _)); (conv => whnf); (try dsimp only [envO, List.cons_append, List.nil_append]))
  (repeat (first | refine vgo ?_ | refine ⟨_, rfl, rfl, ?_⟩ | refine ⟨_, rfl, ?_⟩ | refine ⟨rfl, ?_⟩ | intro hb | (refine altL ?_ ?_; omega) | refine altR ?_ | (refine side ?_ ?_; first | omega | exact True.intro | ((try simp only [List.length_append, List.length_cons, List.length_nil, List.length_map, List.length_replicate, List.length_set, and_true, true_and]); omega) | assumption | (and_intros <;> first | omega | assumption) | decide) | (refine decT ?_ ?_; first | with_reducible assumption | with_reducible rfl | (refine not_not_intro ?_; with_reducible first | assumption | rfl) | omega | decide) | (refine decF ?_ ?_; first | with_reducible assumption | with_reducible rfl | (refine not_not_intro ?_; with_reducible first | assumption | rfl) | omega | decide) | (refine decBT ?_ ?_; with_reducible first | assumption | rfl | exact Bool.not_false) | (refine decBF ?_ ?_; with_reducible first | assumption | rfl | exact Bool.not_true) | refine ⟨_, by assumption, ?_⟩ | refine ⟨_, _, _, rfl, ?_⟩ | refine WC.seq (fun K hK => ?_) | (refine hK _ _ _ ?_; clear hK K) | (refine WX.thenExit (K := K) ?_; clear hK K) | (refine WX.thenExit (K := KL) ?_; clear hL KL)))
  have hn1 : (cs.take (i * 1) ++ (cs.drop (j * 1)).take ((m - j) * 1) ++ cs.drop ((i + (m - j)) * 1)).length = cp * 1 := by
    simp only [List.length_append, List.length_take, List.length_drop, hcl]; omega
  rw [hadr3]
  refine WL.clear (b := b) (E := 93) (sz := 1) rfl rfl (by decide) (by rw [hn1]; omega) (fun cs' hl' ht' => ?_)
  (repeat (first | refine vgo ?_ | refine ⟨_, rfl, rfl, ?_⟩ | refine ⟨_, rfl, ?_⟩ | refine ⟨rfl, ?_⟩ | intro hb | (refine altL ?_ ?_; omega) | refine altR ?_ | (refine side ?_ ?_; first | omega | exact True.intro | ((try simp only [List.length_append, List.length_cons, List.length_nil, List.length_map, List.length_replicate, List.length_set, and_true, true_and]); omega) | assumption | (and_intros <;> first | omega | assumption) | decide) | (refine decT ?_ ?_; first | with_reducible assumption | with_reducible rfl | (refine not_not_intro ?_; with_reducible first | assumption | rfl) | omega | decide) | (refine decF ?_ ?_; first | with_reducible assumption | with_reducible rfl | (refine not_not_intro ?_; with_reducible first | assumption | rfl) | omega | decide) | (refine decBT ?_ ?_; with_reducible first | assumption | rfl | exact Bool.not_false) | (refine decBF ?_ ?_; with_reducible first | assumption | rfl | exact Bool.not_true) | refine ⟨_, by assumption, ?_⟩ | refine ⟨_, _, _, rfl, ?_⟩ | refine WC.seq (fun K hK => ?_) | (refine hK _ _ _ ?_; clear hK K) | (refine WX.thenExit (K := K) ?_; clear hK K) | (refine WX.thenExit (K := KL) ?_; clear hL KL)))
  refine WX.ret1 rfl rfl (fun w sw => ⟨_, _, ⟨rfl, rfl⟩, ?_⟩)
  have sw2 := sw.closeOwn (b := b) (cp := cp) 1 (m - (j - i)) (by rw [hl', hn1]) (by omega) hcp
  rw [del_cells1 (cs' := cs') hij hj hmc hcl hct ht'] at sw2
  rw [show i + (m - j) = m - (j - i) from by omega]
  exact sw2.to
end Go.Qd
