/-
  Clocks as bytes: what clock.Put and the document's Put compute.
-/
import Derived.Test.YthkeakecckiokaaGreatPClockR
import Derived.Test.YthkeakecckiokaaGreatPWv
namespace Go.Qd
open Go Go.Proofs

def numsB (l : List Nat) : List UInt8 := l.flatMap numB
def putB (l : List Nat) : List UInt8 := numB l.length ++ numsB l
theorem numsB_take {l : List Nat} {k x : Nat} (h : l[k]? = some x) : numsB (l.take (k + 1)) = numsB (l.take k) ++ numB x := by
  rw [List.take_add_one, h, numsB, List.flatMap_append]; simp [numsB]
theorem numsB_le : ∀ {l : List Nat}, (∀ x ∈ l, x < 18446744073709551616) → (numsB l).length ≤ 11 * l.length
  | [], _ => by simp [numsB]
  | x :: r, h => by
    have h1 := numB_le (h x (.head _))
    have h2 := numsB_le (l := r) fun y hy => h y (.tail _ hy)
    simp only [numsB, List.flatMap_cons, List.length_append, List.length_cons] at h2 ⊢
    omega
theorem trimL_mem : ∀ (n : Nat) (l : List Nat), l.length = n → ∀ x ∈ trimL l, x ∈ l
  | 0, l, h, x, hx => by
    have := trimL_length l
    rw [List.eq_nil_of_length_eq_zero (show (trimL l).length = 0 by omega)] at hx; cases hx
  | n + 1, l, h, x, hx => by
    by_cases h0 : l.getLast? = some 0
    · rw [trimL_zero h0] at hx
      exact List.dropLast_subset l (trimL_mem n l.dropLast (by simp; omega) x hx)
    · rw [trimL_done h0] at hx; exact hx
set_option maxHeartbeats 1600000 in
theorem cput_fun (b : Nat) (v0 : Value) (l : List Nat) (v : Value) (w0 : List UInt8) (hl : l.length ≤ 1000) (hw0 : w0.length ≤ 800000) (hok : ∀ x ∈ l, x < 18446744073709551616) : Fun Tryz.prog 28 [.pointer (some ⟨b, 0, none⟩), v] [rd (Ty.sl Ty.u64) l v] [wrB b v0, wrO v0 w0]
    (fun _ G S => G = [] ∧ ∃ v', S = [wrB b v', wrO v' (w0 ++ putB (trimL l))]) := by
  have htl := trimL_length l
  have hx : ∀ x ∈ trimL l, x < 18446744073709551616 := fun x h => hok x (trimL_mem _ l rfl x h)
  have hL0 := numB_le (n := (trimL l).length) (by omega)
  refine Fun.enter Tryz.func28 (by kernel_rfl) rfl Tryz.ntmps28 rfl (fun B Gf Sf => ?_); (try simp only [List.cons_append]); (try simp only [List.nil_append]); simp only [argEnv]
  (repeat (first | refine vgo ?_ | refine ⟨_, rfl, rfl, ?_⟩ | refine ⟨_, rfl, ?_⟩ | refine ⟨rfl, ?_⟩ | intro hb | refine go2 ?_ | refine WC.seq (fun K hK => ?_) | ((first | refine hK _ _ _ ?_ | refine hK _ _ _ _ rfl ?_ | refine WX.thenExit (K := K) ?_); clear hK K) | (refine WX.thenExit (K := KL) ?_; clear hL KL)))
  rename_i u
  have hl2 : (w0 ++ numB (trimL l).length).length ≤ 800011 := by rw [List.length_append]; omega
  refine WC.loop (I := Nat × Value) (fun i => [(0, .pointer (some ⟨b, 0, none⟩)), (13, u), (14, .int .i64 (trimL l).length), (15, .int .i64 (i.1 : Nat))]) (fun _ => rd (Ty.sl Ty.u64) (trimL l) u :: rd (Ty.sl Ty.u64) l v :: Gf) (fun i => wrB b i.2 :: wrO i.2 (w0 ++ numB (trimL l).length ++ numsB ((trimL l).take i.1)) :: Sf) (fun i => i.1 ≤ (trimL l).length) (fun i => (trimL l).length - i.1) (0, hb) (Nat.zero_le _) (.cons rfl (.cons rfl (.cons rfl (.cons rfl .nil)))) (fun w h => by simp only [List.take_zero, numsB, List.flatMap_nil, List.append_nil]; exact h.to) ?_
  rintro ⟨k, ov⟩ hk KL hL
  dsimp only at hk ⊢
  (repeat (first | refine vgo ?_ | refine ⟨_, rfl, rfl, ?_⟩ | refine ⟨_, rfl, ?_⟩ | refine ⟨rfl, ?_⟩ | intro hb | refine go2 ?_ | refine WC.seq (fun K hK => ?_) | ((first | refine hK _ _ _ ?_ | refine hK _ _ _ _ rfl ?_ | refine WX.thenExit (K := K) ?_); clear hK K) | (refine WX.thenExit (K := KL) ?_; clear hL KL)))
  refine dcB (fun g1 => ?_) (fun g1 => ?_)
  · obtain ⟨x, hxk, hts⟩ := get_ex (l := trimL l) (k := k) (by omega)
    have hx1 := hx x (List.mem_of_getElem? hxk)
    have hsub := numsB_le (l := (trimL l).take k) (fun y hy => hx y (List.mem_of_mem_take hy))
    rw [List.length_take] at hsub
    have hlen : (w0 ++ numB (trimL l).length ++ numsB ((trimL l).take k)).length ≤ 900000 := by rw [List.length_append]; omega
    have hne := numsB_take hxk
    (repeat (first | refine vgo ?_ | refine ⟨_, rfl, rfl, ?_⟩ | refine ⟨_, rfl, ?_⟩ | refine ⟨rfl, ?_⟩ | intro hb | refine go2 ?_ | refine WC.seq (fun K hK => ?_) | ((first | refine hK _ _ _ ?_ | refine hK _ _ _ _ rfl ?_ | refine WX.thenExit (K := K) ?_); clear hK K) | (refine WX.thenExit (K := KL) ?_; clear hL KL)))
    refine (hL (k + 1, hb) (by dsimp only; omega) (by dsimp only; omega)).conv (.cons rfl (.cons rfl (.cons rfl (.cons rfl .nil)))) (fun _ h => ?_)
    dsimp only
    rw [hne, ← List.append_assoc]
    exact h.to
  · rw [List.take_of_length_le (by omega)]
    (repeat (first | refine vgo ?_ | refine ⟨_, rfl, rfl, ?_⟩ | refine ⟨_, rfl, ?_⟩ | refine ⟨rfl, ?_⟩ | intro hb | refine go2 ?_ | refine WC.seq (fun K hK => ?_) | ((first | refine hK _ _ _ ?_ | refine hK _ _ _ _ rfl ?_ | refine WX.thenExit (K := K) ?_); clear hK K) | (refine WX.thenExit (K := KL) ?_; clear hL KL)))
    exact WX.end0 rfl (fun w sw => ⟨[], _, ⟨rfl, ov, by rw [putB, ← List.append_assoc]⟩, sw.to⟩)
section
variable {n : Nat} {Q : Exit → Act → World → Prop} {B : Base} {env : Env} {G : List Pers} {S S' S1 S2 : List Res} {L rest : List Oper}
variable {d b : Nat} {v : Value} {w0 : List UInt8} {l : List Nat} {bad : Bool}
instance cput_v {u : Value} [hm : SelBox b S 87 [v] S1] [ho : SelOwn v S1 5 1 w0.length (u8s w0) S2] [hr : RdSl u G Ty.u64 l] : V (CallV Tryz.prog n L Q rest B env G S (some d) 28 [.pointer (some ⟨b, 0, none⟩), u]) (Side (l.length ≤ 1000 ∧ w0.length ≤ 800000 ∧ ∀ x ∈ l, x < 18446744073709551616) (∀ (r : Value) v', WL Tryz.prog n L Q rest B ((d, r) :: env) G (wrB b v' :: wrO v' (w0 ++ putB (trimL l)) :: S2))) := ⟨fun h => by
  refine .by (cput_fun b v l u w0 h.c.1 h.c.2.1 h.c.2.2) (fun g hg => by simp only [List.mem_singleton] at hg; subst hg; exact hr.h) (.cons hm.h (.cons ho.h .nil)) ?_
  rintro r _ _ ⟨rfl, v', rfl⟩
  exact h.p r v'⟩
end
/-! Taken again -/
def numsR : Nat → List UInt8 → Bool → List Nat × List UInt8 × Bool
  | 0, l, bad => ([], l, bad)
  | k + 1, l, bad => ((numR l bad).1 :: (numsR k (numR l bad).2.1 (numR l bad).2.2).1, (numsR k (numR l bad).2.1 (numR l bad).2.2).2)
def clockR (l : List UInt8) (bad : Bool) : (Bool × List Nat) × List UInt8 × Bool :=
  let a := intR 64 l bad
  let b := numsR a.1 a.2.1 a.2.2
  if b.2.2 = true ∨ (0 < a.1 ∧ b.1.getLast? = some 0) then ((false, []), b.2) else ((true, b.1), b.2)
set_option maxHeartbeats 1600000 in
theorem ctake_fun (b : Nat) (v : Value) (l : List UInt8) (bad : Bool) : Fun Tryz.prog 13 [.pointer (some ⟨b, 0, none⟩)] [rd (Ty.sl Ty.u8) l v] [rdrBox b v bad]
    (fun r G S => ∃ u v', r = .tuple #[u, .bool (clockR l bad).1.1] ∧ G = [rd (Ty.sl Ty.u64) (clockR l bad).1.2 u, rd (Ty.sl Ty.u8) (clockR l bad).2.1 v'] ∧ S = [rdrBox b v' (clockR l bad).2.2]) := by
  have hi := intR_le 64 l bad (by decide)
  refine Fun.enter Tryz.func13 (by kernel_rfl) rfl Tryz.ntmps13 rfl (fun B Gf Sf => ?_); (try simp only [List.cons_append]); (try simp only [List.nil_append]); simp only [argEnv]
  obtain ⟨m, hm⟩ : ∃ m, (intR 64 l bad).1 = m := ⟨_, rfl⟩
  (repeat (first | refine vgo ?_ | refine ⟨_, rfl, rfl, ?_⟩ | refine ⟨_, rfl, ?_⟩ | refine ⟨rfl, ?_⟩ | intro hb | refine go2 ?_ | refine WC.seq (fun K hK => ?_) | ((first | refine hK _ _ _ ?_ | refine hK _ _ _ _ rfl ?_ | refine WX.thenExit (K := K) ?_); clear hK K) | (refine WX.thenExit (K := KL) ?_; clear hL KL)))
  rw [hm] at hi ⊢
  refine WL.makeB (m) rfl rfl (by omega) (by omega) (by simp only [maxLen]; omega) rfl ?_; intro bx
  (repeat (first | refine vgo ?_ | refine ⟨_, rfl, rfl, ?_⟩ | refine ⟨_, rfl, ?_⟩ | refine ⟨rfl, ?_⟩ | intro hb | refine go2 ?_ | refine WC.seq (fun K hK => ?_) | ((first | refine hK _ _ _ ?_ | refine hK _ _ _ _ rfl ?_ | refine WX.thenExit (K := K) ?_); clear hK K) | (refine WX.thenExit (K := KL) ?_; clear hL KL)))
  refine WC.loop (I := List Nat × List UInt8 × Bool × Value) (fun x => [(0, .pointer (some ⟨b, 0, none⟩)), (4, .int .i64 m), (5, .slice (some ⟨bx, 0, none⟩) m m), (12, .int .i64 m), (13, .int .i64 (x.1.length : Nat)), (2, .slice none 0 0), (3, .bool false)]) (fun x => rd (Ty.sl Ty.u8) x.2.1 x.2.2.2 :: rd (Ty.sl Ty.u8) l v :: Gf) (fun x => box bx 32 ((x.1 ++ List.replicate (m - x.1.length) 0).map uV) :: rdrBox b x.2.2.2 x.2.2.1 :: Sf)
    (fun x => x.1.length ≤ m ∧ (∀ y ∈ x.1, y < 18446744073709551616) ∧ numsR m (intR 64 l bad).2.1 (intR 64 l bad).2.2 = (x.1 ++ (numsR (m - x.1.length) x.2.1 x.2.2.1).1, (numsR (m - x.1.length) x.2.1 x.2.2.1).2)) (fun x => m - x.1.length)
    ([], (intR 64 l bad).2.1, (intR 64 l bad).2.2, hb) ⟨Nat.zero_le _, by simp, rfl⟩ (.cons rfl (.cons rfl (.cons rfl (.cons rfl (.cons rfl (.cons rfl (.cons rfl .nil))))))) (fun w h => by
      have e : (([] : List Nat) ++ List.replicate (m - ([] : List Nat).length) 0).map uV = List.replicate m (uV 0) := by simp
      dsimp only
      rw [e]; exact h.to) ?_
  rintro ⟨ds, r, bd, vr⟩ ⟨hd, hok, hq⟩ KL hL
  dsimp only at hd hok hq ⊢
  have hlen : (ds ++ List.replicate (m - ds.length) 0).length = m := by simp; omega
  (repeat (first | refine vgo ?_ | refine ⟨_, rfl, rfl, ?_⟩ | refine ⟨_, rfl, ?_⟩ | refine ⟨rfl, ?_⟩ | intro hb | refine go2 ?_ | refine WC.seq (fun K hK => ?_) | ((first | refine hK _ _ _ ?_ | refine hK _ _ _ _ rfl ?_ | refine WX.thenExit (K := K) ?_); clear hK K) | (refine WX.thenExit (K := KL) ?_; clear hL KL)))
  refine dcB (fun g1 => ?_) (fun g1 => ?_)
  · have hst : ∀ x, (ds ++ List.replicate (m - ds.length) 0).set ds.length x = (ds ++ [x]) ++ List.replicate (m - (ds ++ [x]).length) 0 := by
      intro x
      rw [List.set_append_right _ _ (Nat.le_refl _), Nat.sub_self, show m - ds.length = (m - (ds.length + 1)) + 1 from by omega, List.replicate_succ, List.set_cons_zero]
      simp
    obtain ⟨q, hq1⟩ : ∃ q, m - ds.length = q + 1 := ⟨m - ds.length - 1, by omega⟩
    have hq2 : m - (ds ++ [(numR r bd).1]).length = q := by simp; omega
    have hnr := numR_lt r bd
    rw [hq1, numsR] at hq
    (repeat (first | refine vgo ?_ | refine ⟨_, rfl, rfl, ?_⟩ | refine ⟨_, rfl, ?_⟩ | refine ⟨rfl, ?_⟩ | intro hb | refine go2 ?_ | refine WC.seq (fun K hK => ?_) | ((first | refine hK _ _ _ ?_ | refine hK _ _ _ _ rfl ?_ | refine WX.thenExit (K := K) ?_); clear hK K) | (refine WX.thenExit (K := KL) ?_; clear hL KL)))
    refine (hL (ds ++ [(numR r bd).1], (numR r bd).2.1, (numR r bd).2.2, hb) ⟨by dsimp only; simp; omega, ?_, ?_⟩ (by dsimp only; simp; omega)).conv (.cons rfl (.cons rfl (.cons rfl (.cons rfl (.cons (by simp [Env.get]) (.cons rfl (.cons rfl .nil))))))) (fun _ h => ?_)
    · intro y hy
      rcases List.mem_append.1 hy with hy | hy
      · exact hok y hy
      · rw [List.mem_singleton] at hy; subst hy; exact hnr
    · dsimp only; rw [hq2, hq]; simp
    · dsimp only; rw [← hst]; exact h.to
  · have hdm : ds.length = m := by omega
    subst hdm
    rw [Nat.sub_self, numsR, List.append_nil] at hq
    rw [Nat.sub_self, List.replicate_zero, List.append_nil]
    have hpub : ∀ {G : List Pers} {S : List Res} {w : World}, Sat B G (box bx 32 (ds.map uV) :: S) w → Sat B (rd (Ty.sl Ty.u64) ds (.slice (some ⟨bx, 0, none⟩) ds.length ds.length) :: G) S w := fun sw => sw.pubBox (R := Ty.u64) (l := ds) (b := bx) rfl inferInstance rfl (by simp only [maxLen]; omega) hok
    cases bd with
    | true =>
      have nn : (!!true) = true := rfl
      have hc : clockR l bad = ((false, []), r, true) := by rw [clockR]; (try dsimp only); rw [hm, hq, if_pos (.inl rfl)]
      (repeat (first | refine vgo ?_ | refine ⟨_, rfl, rfl, ?_⟩ | refine ⟨_, rfl, ?_⟩ | refine ⟨rfl, ?_⟩ | intro hb | refine go2 ?_ | refine WC.seq (fun K hK => ?_) | ((first | refine hK _ _ _ ?_ | refine hK _ _ _ _ rfl ?_ | refine WX.thenExit (K := K) ?_); clear hK K) | (refine WX.thenExit (K := KL) ?_; clear hL KL)))
      refine WX.sat (fun w sw => sw.rdNil (Ty.u64)) ?_
      rw [hc]
      exact WX.ret2 rfl rfl rfl (fun w sw => ⟨_, _, ⟨_, vr, rfl, rfl, rfl⟩, sw.to⟩)
    | false =>
      have nn : (!!false) = false := rfl
      by_cases h0 : 0 < ds.length
      · obtain ⟨x, hx⟩ : ∃ x, ds[ds.length - 1]? = some x := ⟨_, List.getElem?_eq_getElem (by omega)⟩
        have hx2 : ds[((ds.length : Int) - 1).toNat]? = some x := by rw [show ((ds.length : Int) - 1).toNat = ds.length - 1 from by omega]; exact hx
        have hlast : ds.getLast? = some x := by rw [List.getLast?_eq_getElem?]; exact hx
        by_cases hx0 : x = 0
        · have hc : clockR l bad = ((false, []), r, false) := by rw [clockR]; (try dsimp only); rw [hm, hq, if_pos (.inr ⟨h0, by rw [hlast, hx0]⟩)]
          (repeat (first | refine vgo ?_ | refine ⟨_, rfl, rfl, ?_⟩ | refine ⟨_, rfl, ?_⟩ | refine ⟨rfl, ?_⟩ | intro hb | refine go2 ?_ | refine WC.seq (fun K hK => ?_) | ((first | refine hK _ _ _ ?_ | refine hK _ _ _ _ rfl ?_ | refine WX.thenExit (K := K) ?_); clear hK K) | (refine WX.thenExit (K := KL) ?_; clear hL KL)))
          refine WX.sat (fun w sw => sw.rdNil (Ty.u64)) ?_
          rw [hc]
          exact WX.ret2 rfl rfl rfl (fun w sw => ⟨_, _, ⟨_, vr, rfl, rfl, rfl⟩, sw.to⟩)
        · have hc : clockR l bad = ((true, ds), r, false) := by
            rw [clockR]; (try dsimp only); rw [hm, hq, if_neg]
            rintro (h | ⟨_, h⟩)
            · cases h
            · rw [hlast] at h; exact hx0 (Option.some.inj h)
          (repeat (first | refine vgo ?_ | refine ⟨_, rfl, rfl, ?_⟩ | refine ⟨_, rfl, ?_⟩ | refine ⟨rfl, ?_⟩ | intro hb | refine go2 ?_ | refine WC.seq (fun K hK => ?_) | ((first | refine hK _ _ _ ?_ | refine hK _ _ _ _ rfl ?_ | refine WX.thenExit (K := K) ?_); clear hK K) | (refine WX.thenExit (K := KL) ?_; clear hL KL)))
          refine WX.sat (S' := rdrBox b vr false :: Sf) (fun w sw => hpub (sw.perm (.swap _ _ _))) ?_
          rw [hc]
          exact WX.ret2 rfl rfl rfl (fun w sw => ⟨_, _, ⟨_, vr, rfl, rfl, rfl⟩, sw.to⟩)
      · have hc : clockR l bad = ((true, ds), r, false) := by
          rw [clockR]; (try dsimp only); rw [hm, hq, if_neg]
          rintro (h | ⟨h, _⟩)
          · cases h
          · exact h0 h
        (repeat (first | refine vgo ?_ | refine ⟨_, rfl, rfl, ?_⟩ | refine ⟨_, rfl, ?_⟩ | refine ⟨rfl, ?_⟩ | intro hb | refine go2 ?_ | refine WC.seq (fun K hK => ?_) | ((first | refine hK _ _ _ ?_ | refine hK _ _ _ _ rfl ?_ | refine WX.thenExit (K := K) ?_); clear hK K) | (refine WX.thenExit (K := KL) ?_; clear hL KL)))
        refine WX.sat (S' := rdrBox b vr false :: Sf) (fun w sw => hpub (sw.perm (.swap _ _ _))) ?_
        rw [hc]
        exact WX.ret2 rfl rfl rfl (fun w sw => ⟨_, _, ⟨_, vr, rfl, rfl, rfl⟩, sw.to⟩)
section
variable {n : Nat} {Q : Exit → Act → World → Prop} {B : Base} {env : Env} {G : List Pers} {S S' S1 S2 : List Res} {L rest : List Oper}
variable {d b : Nat} {v : Value} {l : List UInt8} {bad : Bool}
instance ctake_v [hm : SelBox b S 95 [v, .bool bad] S'] [hr : RdSl v G Ty.u8 l] : V (CallV Tryz.prog n L Q rest B env G S (some d) 13 [.pointer (some ⟨b, 0, none⟩)]) (∀ u v', WL Tryz.prog n L Q rest B ((d, .tuple #[u, .bool (clockR l bad).1.1]) :: env) (rd (Ty.sl Ty.u64) (clockR l bad).1.2 u :: rd (Ty.sl Ty.u8) (clockR l bad).2.1 v' :: G) (rdrBox b v' (clockR l bad).2.2 :: S')) := ⟨fun h => by
  refine .by (ctake_fun b v l bad) (fun g hg => by simp only [List.mem_singleton] at hg; subst hg; exact hr.h) (.cons hm.h .nil) ?_
  rintro _ _ _ ⟨u, v', rfl, rfl, rfl⟩
  exact h u v'⟩
end
/-! The document's clocks taken -/
def numsT : Nat → List UInt8 → Option (List Nat × Nat)
  | 0, _ => some ([], 0)
  | k + 1, l => if (takeR l).2 = 0 then none else (numsT k (l.drop (takeR l).2)).map fun p => ((takeR l).1 :: p.1, (takeR l).2 + p.2)
def rclockR (l : List UInt8) : List Nat × Nat :=
  if (takeR l).2 = 0 ∨ 64 < (takeR l).1 then (List.replicate 64 0, 0) else
  match numsT (takeR l).1 (l.drop (takeR l).2) with
  | none => (List.replicate 64 0, 0)
  | some (ns, m) => if ns.getLast? = some 0 then (List.replicate 64 0, 0) else (ns ++ List.replicate (64 - ns.length) 0, (takeR l).2 + m)
theorem numsT_some : ∀ (k : Nat) (l : List UInt8) (ns : List Nat) (m : Nat), numsT k l = some (ns, m) → ns.length = k ∧ m ≤ l.length ∧ ∀ x ∈ ns, x < 18446744073709551616
  | 0, l, ns, m, h => by cases h; simp
  | k + 1, l, ns, m, h => by
    rw [numsT] at h
    by_cases h0 : (takeR l).2 = 0
    · rw [if_pos h0] at h; cases h
    · rw [if_neg h0, Option.map_eq_some_iff] at h
      obtain ⟨⟨ns', m'⟩, h1, h2⟩ := h
      cases h2
      obtain ⟨i1, i2, i3⟩ := numsT_some k _ ns' m' h1
      have := takeR_le l
      rw [List.length_drop] at i2
      refine ⟨by simp [i1], by dsimp only; omega, fun x hx => ?_⟩
      rcases List.mem_cons.1 hx with rfl | hx
      · exact takeR_lt l
      · exact i3 x hx
theorem numR_bad (l : List UInt8) : (numR l true).2.2 = true := by
  unfold numR; cases rdNum 0 0 l <;> rfl
theorem numsR_bad : ∀ (k : Nat) (l : List UInt8), (numsR k l true).2.2 = true
  | 0, _ => rfl
  | k + 1, l => by rw [numsR]; dsimp only; rw [numR_bad]; exact numsR_bad k _
theorem numsR_T : ∀ (k : Nat) (l : List UInt8), (numsT k l = none → (numsR k l false).2.2 = true) ∧ ∀ ns m, numsT k l = some (ns, m) → numsR k l false = (ns, l.drop m, false)
  | 0, l => ⟨fun h => by simp [numsT] at h, fun ns m h => by simp only [numsT, Option.some.injEq, Prod.mk.injEq] at h; obtain ⟨rfl, rfl⟩ := h; rfl⟩
  | k + 1, l => by
    obtain ⟨i1, i2⟩ := numsR_T k (l.drop (takeR l).2)
    have ht := takeR_numR l false
    rw [numsT, numsR]
    by_cases h0 : (takeR l).2 = 0
    · rw [if_pos h0] at ht ⊢
      refine ⟨fun _ => ?_, fun _ _ h => by cases h⟩
      rw [ht]; exact numsR_bad k _
    · rw [if_neg h0] at ht ⊢
      rw [ht]
      refine ⟨fun h => i1 (by simpa using h), fun ns m h => ?_⟩
      rw [Option.map_eq_some_iff] at h
      obtain ⟨⟨ns', m'⟩, h1, h2⟩ := h
      cases h2
      rw [i2 ns' m' h1, List.drop_drop]
theorem clockR_no {l l1 l2 : List UInt8} {bad b1 b2 : Bool} {n : Nat} {ns : List Nat} (h : intR 64 l bad = (n, l1, b1)) (h2 : numsR n l1 b1 = (ns, l2, b2)) (hc : b2 = true ∨ (0 < n ∧ ns.getLast? = some 0)) : clockR l bad = ((false, []), l2, b2) := by
  rw [clockR]; (try dsimp only); rw [h]; (try dsimp only); rw [h2, if_pos hc]
theorem clockR_yes {l l1 l2 : List UInt8} {bad b1 b2 : Bool} {n : Nat} {ns : List Nat} (h : intR 64 l bad = (n, l1, b1)) (h2 : numsR n l1 b1 = (ns, l2, b2)) (hc : b2 = false) (hl : ¬ ns.getLast? = some 0) : clockR l bad = ((true, ns), l2, b2) := by
  rw [clockR]; (try dsimp only); rw [h]; (try dsimp only); rw [h2, if_neg (by rintro (h | ⟨_, h⟩); rw [hc] at h; cases h; exact hl h)]
theorem clock_R (l : List UInt8) : (clockR l false).1.1 = decide (0 < (rclockR l).2) ∧ trimL (rclockR l).1 = (clockR l false).1.2 ∧ ((clockR l false).1.1 = true → (clockR l false).2.1 = l.drop (rclockR l).2 ∧ (rclockR l).2 ≤ l.length) := by
  have hz : trimL (List.replicate 64 0) = [] := by
    have : trimL (List.replicate 64 0) = trimL [] := trimL_ext fun i => by
      rw [List.getD_eq_getElem?_getD, List.getElem?_replicate]; split <;> rfl
    rw [this, trimL_done (by simp)]
  have ht := takeR_numR l false
  have hle := takeR_le l
  by_cases h0 : (takeR l).2 = 0
  · have hi : intR 64 l false = (0, [], true) := by
      rw [intR, ht, if_pos h0]; split <;> rfl
    rw [clockR_no hi rfl (.inl rfl), show rclockR l = (List.replicate 64 0, 0) from by rw [rclockR, if_pos (.inl h0)]]
    exact ⟨rfl, hz, fun h => by cases h⟩
  · rw [if_neg h0] at ht
    by_cases h64 : 64 < (takeR l).1
    · have hi : intR 64 l false = (0, [], true) := by rw [intR, ht, if_pos (.inr (by show (64 : Int) < ((takeR l).1 : Int); omega))]
      rw [clockR_no hi rfl (.inl rfl), show rclockR l = (List.replicate 64 0, 0) from by rw [rclockR, if_pos (.inr h64)]]
      exact ⟨rfl, hz, fun h => by cases h⟩
    · have hi : intR 64 l false = ((takeR l).1, l.drop (takeR l).2, false) := by
        rw [intR, ht, if_neg]
        rintro (h | h)
        · cases h
        · have : (64 : Int) < ((takeR l).1 : Int) := h
          omega
      have hr : rclockR l = match numsT (takeR l).1 (l.drop (takeR l).2) with
        | none => (List.replicate 64 0, 0)
        | some (ns, m) => if ns.getLast? = some 0 then (List.replicate 64 0, 0) else (ns ++ List.replicate (64 - ns.length) 0, (takeR l).2 + m) := by
        rw [rclockR, if_neg (fun h => h.elim h0 h64)]
      obtain ⟨i1, i2⟩ := numsR_T (takeR l).1 (l.drop (takeR l).2)
      cases hn : numsT (takeR l).1 (l.drop (takeR l).2) with
      | none =>
        rw [hn] at hr
        dsimp only at hr
        rw [hr, clockR_no hi rfl (.inl (i1 hn))]
        exact ⟨rfl, hz, fun h => by cases h⟩
      | some p =>
        obtain ⟨ns, m⟩ := p
        obtain ⟨j1, j2, j3⟩ := numsT_some _ _ _ _ hn
        rw [hn] at hr
        dsimp only at hr
        by_cases hlast : ns.getLast? = some 0
        · have : 0 < (takeR l).1 := by
            cases ns with
            | nil => simp at hlast
            | cons a r => rw [← j1]; simp
          rw [if_pos hlast] at hr
          rw [hr, clockR_no hi (i2 ns m hn) (.inr ⟨this, hlast⟩)]
          exact ⟨rfl, hz, fun h => by cases h⟩
        · rw [if_neg hlast] at hr
          rw [hr, clockR_yes hi (i2 ns m hn) rfl hlast]
          refine ⟨by simp; omega, ?_, fun _ => ⟨by dsimp only; rw [List.drop_drop], by rw [List.length_drop] at j2; dsimp only; omega⟩⟩
          have : trimL (ns ++ List.replicate (64 - ns.length) 0) = trimL ns := trimL_ext fun i => by
            simp only [List.getD_eq_getElem?_getD, List.getElem?_append, List.getElem?_replicate]
            split
            · rfl
            · rw [List.getElem?_eq_none (by omega)]; split <;> rfl
          dsimp only
          rw [this, trimL_done hlast]
end Go.Qd
