/-
  Clocks as bytes: the document's Take, and the statement's function.
-/
import Derived.Test.YthkeakecckiokaaGreatPCB
namespace Go.Qd
open Go Go.Proofs
theorem rep_set {ns : List Nat} {x : Nat} (h : ns.length < 64) : (ns ++ List.replicate (64 - ns.length) 0).set ns.length x = (ns ++ [x]) ++ List.replicate (64 - (ns ++ [x]).length) 0 := by
  rw [List.set_append_right _ _ (Nat.le_refl _), Nat.sub_self, show 64 - ns.length = (64 - (ns.length + 1)) + 1 from by omega, List.replicate_succ, List.set_cons_zero]
  simp
set_option maxHeartbeats 3200000 in
theorem rctake_fun (l : List UInt8) (v : Value) : Fun Tryz.prog 19 [v] [rd (Ty.sl Ty.u8) l v] [] (fun r G S => r = .tuple #[fV (rclockR l).1, .int .i64 (rclockR l).2] ∧ G = [] ∧ S = []) := by
  refine Fun.enter Tryz.func19 (by kernel_rfl) rfl Tryz.ntmps19 rfl (fun B Gf Sf => ?_); (try simp only [List.cons_append]); (try simp only [List.nil_append]); simp only [argEnv]
  refine WC.ex (fun w sw => sw.len_le (RdSl.h (v := v))) (fun hll => ?_)
  have hT := takeR_le l
  have hlt := takeR_lt l
  have hz : (List.replicate 64 0 : List Nat).length = 64 := by simp
  (repeat (first | refine vgo ?_ | refine ⟨_, rfl, rfl, ?_⟩ | refine ⟨_, rfl, ?_⟩ | refine ⟨rfl, ?_⟩ | intro hb | refine go2 ?_ | refine WC.seq (fun K hK => ?_) | ((first | refine hK _ _ _ ?_ | refine hK _ _ _ _ rfl ?_ | refine WX.thenExit (K := K) ?_); clear hK K) | (refine WX.thenExit (K := KL) ?_; clear hL KL)))
  refine WL.allocA (List.replicate 64 0) (uV) rfl rfl ?_; intro b2
  (repeat (first | refine vgo ?_ | refine ⟨_, rfl, rfl, ?_⟩ | refine ⟨_, rfl, ?_⟩ | refine ⟨rfl, ?_⟩ | intro hb | refine go2 ?_ | refine WC.seq (fun K hK => ?_) | ((first | refine hK _ _ _ ?_ | refine hK _ _ _ _ rfl ?_ | refine WX.thenExit (K := K) ?_); clear hK K) | (refine WX.thenExit (K := KL) ?_; clear hL KL)))
  refine WL.allocA (List.replicate 64 0) (uV) rfl rfl ?_; intro b4
  (repeat (first | refine vgo ?_ | refine ⟨_, rfl, rfl, ?_⟩ | refine ⟨_, rfl, ?_⟩ | refine ⟨rfl, ?_⟩ | intro hb | refine go2 ?_ | refine WC.seq (fun K hK => ?_) | ((first | refine hK _ _ _ ?_ | refine hK _ _ _ _ rfl ?_ | refine WX.thenExit (K := K) ?_); clear hK K) | (refine WX.thenExit (K := KL) ?_; clear hL KL)))
  by_cases h0 : (takeR l).2 = 0
  · have hr : rclockR l = (List.replicate 64 0, 0) := by rw [rclockR, if_pos (.inl h0)]
    (repeat (first | refine vgo ?_ | refine ⟨_, rfl, rfl, ?_⟩ | refine ⟨_, rfl, ?_⟩ | refine ⟨rfl, ?_⟩ | intro hb | refine go2 ?_ | refine WC.seq (fun K hK => ?_) | ((first | refine hK _ _ _ ?_ | refine hK _ _ _ _ rfl ?_ | refine WX.thenExit (K := K) ?_); clear hK K) | (refine WX.thenExit (K := KL) ?_; clear hL KL)))
    refine WX.retA2 (b := b2) rfl rfl rfl hz (fun w sw => ⟨[], [], ⟨by rw [hr]; rfl, rfl, rfl⟩, sw.to⟩)
  by_cases h64 : 64 < (takeR l).1
  · have hr : rclockR l = (List.replicate 64 0, 0) := by rw [rclockR, if_pos (.inr h64)]
    (repeat (first | refine vgo ?_ | refine ⟨_, rfl, rfl, ?_⟩ | refine ⟨_, rfl, ?_⟩ | refine ⟨rfl, ?_⟩ | intro hb | refine go2 ?_ | refine WC.seq (fun K hK => ?_) | ((first | refine hK _ _ _ ?_ | refine hK _ _ _ _ rfl ?_ | refine WX.thenExit (K := K) ?_); clear hK K) | (refine WX.thenExit (K := KL) ?_; clear hL KL)))
    refine WX.retA2 (b := b2) rfl rfl rfl hz (fun w sw => ⟨[], [], ⟨by rw [hr]; rfl, rfl, rfl⟩, sw.to⟩)
  have hr : rclockR l = match numsT (takeR l).1 (l.drop (takeR l).2) with
    | none => (List.replicate 64 0, 0)
    | some (ns, m) => if ns.getLast? = some 0 then (List.replicate 64 0, 0) else (ns ++ List.replicate (64 - ns.length) 0, (takeR l).2 + m) := by
    rw [rclockR, if_neg (fun h => h.elim h0 h64)]
    rfl
  generalize hN : (takeR l).1 = N at *
  generalize ha0 : (takeR l).2 = a0 at *
  (repeat (first | refine vgo ?_ | refine ⟨_, rfl, rfl, ?_⟩ | refine ⟨_, rfl, ?_⟩ | refine ⟨rfl, ?_⟩ | intro hb | refine go2 ?_ | refine WC.seq (fun K hK => ?_) | ((first | refine hK _ _ _ ?_ | refine hK _ _ _ _ rfl ?_ | refine WX.thenExit (K := K) ?_); clear hK K) | (refine WX.thenExit (K := KL) ?_; clear hL KL)))
  refine WC.loop (I := List Nat × Nat) (fun x => [(0, v), (4, .pointer (some ⟨b4, 0, none⟩)), (2, .pointer (some ⟨b2, 0, none⟩)), (5, .int .u64 N), (6, .int .i64 (x.2 : Nat)), (7, .int .i64 (x.1.length : Nat))]) (fun x => rd (Ty.sl Ty.u8) l v :: Gf) (fun x => box b4 34 ((x.1 ++ List.replicate (64 - x.1.length) 0).map uV) :: box b2 34 ((List.replicate 64 0).map uV) :: Sf)
    (fun x => x.1.length ≤ N ∧ a0 ≤ x.2 ∧ x.2 ≤ l.length ∧ numsT N (l.drop a0) = (numsT (N - x.1.length) (l.drop x.2)).map (fun p => (x.1 ++ p.1, (x.2 - a0) + p.2))) (fun x => N - x.1.length)
    ([], a0) ⟨Nat.zero_le _, Nat.le_refl _, hT, by cases numsT N (l.drop a0) <;> simp⟩ (.cons rfl (.cons rfl (.cons rfl (.cons rfl (.cons rfl (.cons rfl .nil)))))) (fun w h => (h.to : Sat B (rd (Ty.sl Ty.u8) l v :: Gf) (box b4 34 ((List.replicate 64 0).map uV) :: box b2 34 ((List.replicate 64 0).map uV) :: Sf) w)) ?_
  rintro ⟨ns, at_⟩ ⟨hd, ha1, ha2, hq⟩ KL hL
  dsimp only at hd ha1 ha2 hq ⊢
  have hlen : (ns ++ List.replicate (64 - ns.length) 0).length = 64 := by simp; omega
  by_cases g1 : ns.length < N
  · obtain ⟨q, hq1⟩ : ∃ q, N - ns.length = q + 1 := ⟨N - ns.length - 1, by omega⟩
    rw [hq1, numsT] at hq
    (repeat (first | refine vgo ?_ | refine ⟨_, rfl, rfl, ?_⟩ | refine ⟨_, rfl, ?_⟩ | refine ⟨rfl, ?_⟩ | intro hb | refine go2 ?_ | refine WC.seq (fun K hK => ?_) | ((first | refine hK _ _ _ ?_ | refine hK _ _ _ _ rfl ?_ | refine WX.thenExit (K := K) ?_); clear hK K) | (refine WX.thenExit (K := KL) ?_; clear hL KL)))
    refine WL.slc rfl rfl rfl rfl rfl ?_; refine SliceV.low rfl (at_) (by omega) (by omega) ?_; intro rv
    (repeat (first | refine vgo ?_ | refine ⟨_, rfl, rfl, ?_⟩ | refine ⟨_, rfl, ?_⟩ | refine ⟨rfl, ?_⟩ | intro hb | refine go2 ?_ | refine WC.seq (fun K hK => ?_) | ((first | refine hK _ _ _ ?_ | refine hK _ _ _ _ rfl ?_ | refine WX.thenExit (K := K) ?_); clear hK K) | (refine WX.thenExit (K := KL) ?_; clear hL KL)))
    by_cases hk : (takeR (l.drop at_)).2 = 0
    · have hr2 : rclockR l = (List.replicate 64 0, 0) := by rw [hr, hq, if_pos hk]; rfl
      (repeat (first | refine vgo ?_ | refine ⟨_, rfl, rfl, ?_⟩ | refine ⟨_, rfl, ?_⟩ | refine ⟨rfl, ?_⟩ | intro hb | refine go2 ?_ | refine WC.seq (fun K hK => ?_) | ((first | refine hK _ _ _ ?_ | refine hK _ _ _ _ rfl ?_ | refine WX.thenExit (K := K) ?_); clear hK K) | (refine WX.thenExit (K := KL) ?_; clear hL KL)))
      refine WX.retA2 (b := b2) rfl rfl rfl hz (fun w sw => ⟨[], [], ⟨by rw [hr2]; rfl, rfl, rfl⟩, sw.to⟩)
    · rw [if_neg hk] at hq
      have hle := takeR_le (l.drop at_)
      rw [List.length_drop] at hle
      have hx := takeR_lt (l.drop at_)
      (repeat (first | refine vgo ?_ | refine ⟨_, rfl, rfl, ?_⟩ | refine ⟨_, rfl, ?_⟩ | refine ⟨rfl, ?_⟩ | intro hb | refine go2 ?_ | refine WC.seq (fun K hK => ?_) | ((first | refine hK _ _ _ ?_ | refine hK _ _ _ _ rfl ?_ | refine WX.thenExit (K := K) ?_); clear hK K) | (refine WX.thenExit (K := KL) ?_; clear hL KL)))
      have hq2 : N - (ns ++ [(takeR (l.drop at_)).1]).length = q := by simp; omega
      refine (hL (ns ++ [(takeR (l.drop at_)).1], at_ + (takeR (l.drop at_)).2) ⟨by simp; omega, by dsimp only; omega, by dsimp only; omega, ?_⟩ (by simp; omega)).conv (.cons rfl (.cons rfl (.cons rfl (.cons rfl (.cons rfl (.cons (by simp [Env.get]) .nil)))))) (fun _ h => by dsimp only; rw [← rep_set (by omega)]; exact h.to)
      dsimp only
      rw [hq2, hq, List.drop_drop]
      cases numsT q (l.drop (at_ + (takeR (l.drop at_)).2)) with
      | none => rfl
      | some p => simp; omega
  · have hdm : ns.length = N := by omega
    rw [hdm, Nat.sub_self, numsT] at hq
    simp only [Option.map_some, List.append_nil, Nat.add_zero] at hq
    rw [hq] at hr
    dsimp only at hr
    rw [show a0 + (at_ - a0) = at_ from by omega] at hr
    by_cases hn0 : 0 < N
    · obtain ⟨x, hx⟩ : ∃ x, ns[N - 1]? = some x := ⟨_, List.getElem?_eq_getElem (by omega)⟩
      have hx2 : (ns ++ List.replicate (64 - ns.length) 0)[((N : Int) - 1).toNat]? = some x := by rw [show ((N : Int) - 1).toNat = N - 1 from by omega, List.getElem?_append_left (by omega)]; exact hx
      have hlast : ns.getLast? = some x := by rw [List.getLast?_eq_getElem?, hdm]; exact hx
      by_cases hx0 : x = 0
      · rw [if_pos (by rw [hlast, hx0])] at hr
        (repeat (first | refine vgo ?_ | refine ⟨_, rfl, rfl, ?_⟩ | refine ⟨_, rfl, ?_⟩ | refine ⟨rfl, ?_⟩ | intro hb | refine go2 ?_ | refine WC.seq (fun K hK => ?_) | ((first | refine hK _ _ _ ?_ | refine hK _ _ _ _ rfl ?_ | refine WX.thenExit (K := K) ?_); clear hK K) | (refine WX.thenExit (K := KL) ?_; clear hL KL)))
        refine WX.retA2 (b := b2) rfl rfl rfl hz (fun w sw => ⟨[], [], ⟨by rw [hr]; rfl, rfl, rfl⟩, sw.to⟩)
      · rw [if_neg (by rw [hlast]; exact fun h => hx0 (Option.some.inj h))] at hr
        (repeat (first | refine vgo ?_ | refine ⟨_, rfl, rfl, ?_⟩ | refine ⟨_, rfl, ?_⟩ | refine ⟨rfl, ?_⟩ | intro hb | refine go2 ?_ | refine WC.seq (fun K hK => ?_) | ((first | refine hK _ _ _ ?_ | refine hK _ _ _ _ rfl ?_ | refine WX.thenExit (K := K) ?_); clear hK K) | (refine WX.thenExit (K := KL) ?_; clear hL KL)))
        refine WX.retA2 (b := b2) rfl rfl rfl hlen (fun w sw => ⟨[], [], ⟨by rw [hr], rfl, rfl⟩, sw.to⟩)
    · have : ns = [] := List.eq_nil_of_length_eq_zero (by omega)
      rw [if_neg (by rw [this]; simp)] at hr
      (repeat (first | refine vgo ?_ | refine ⟨_, rfl, rfl, ?_⟩ | refine ⟨_, rfl, ?_⟩ | refine ⟨rfl, ?_⟩ | intro hb | refine go2 ?_ | refine WC.seq (fun K hK => ?_) | ((first | refine hK _ _ _ ?_ | refine hK _ _ _ _ rfl ?_ | refine WX.thenExit (K := K) ?_); clear hK K) | (refine WX.thenExit (K := KL) ?_; clear hL KL)))
      refine WX.retA2 (b := b2) rfl rfl rfl hlen (fun w sw => ⟨[], [], ⟨by rw [hr], rfl, rfl⟩, sw.to⟩)
instance rctake_pure {G : List Pers} {l : List UInt8} {v : Value} [i : RdSl v G Ty.u8 l] : PureF Tryz.prog 19 [v] G True (.tuple #[fV (rclockR l).1, .int .i64 (rclockR l).2]) := ⟨fun _ => ⟨[rd (Ty.sl Ty.u8) l v], by simpa using i.h, rctake_fun l v⟩⟩
end Go.Qd
