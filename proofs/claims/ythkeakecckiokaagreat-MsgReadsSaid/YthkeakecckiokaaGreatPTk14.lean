/-
  Operations taken from bytes: the program's own.
-/
import Derived.Test.YthkeakecckiokaaGreatPTk9
import Derived.Test.YthkeakecckiokaaGreatPCB2
namespace Go.Qd
/-! ### Operations taken from bytes: the program's own. -/
section
open Go Go.Proofs
def clP (l : List UInt8) : Option (List Nat × List UInt8) := if 0 < (rclockR l).2 then some ((rclockR l).1, l.drop (rclockR l).2) else none
theorem clockR_fine {l : List UInt8} {bad : Bool} (h : (clockR l bad).1.1 = true) : (clockR l bad).2.2 = false := by
  unfold clockR at h ⊢
  dsimp only at h ⊢
  split at h
  · cases h
  · rename_i g
    rw [if_neg g]
    dsimp only
    cases hb : (numsR (intR 64 l bad).1 (intR 64 l bad).2.1 (intR 64 l bad).2.2).2.2 with
    | true => exact absurd (.inl hb) g
    | false => rfl
theorem clockR_nil : clockR [] true = ((false, []), [], true) := clockR_no (intR_nil (by omega)) rfl (.inl rfl)
theorem clP_none {l : List UInt8} (h : clP l = none) : (clockR l false).1.1 = false := by
  unfold clP at h
  split at h
  · cases h
  · rename_i g
    rw [(clock_R l).1]; exact decide_eq_false g
theorem clP_some {l r : List UInt8} {f : List Nat} (h : clP l = some (f, r)) : clockR l false = ((true, trimL f), r, false) := by
  unfold clP at h
  split at h
  · rename_i g
    cases h
    obtain ⟨h1, h2, h3⟩ := clock_R l
    have h1 : (clockR l false).1.1 = true := by rw [h1]; exact decide_eq_true g
    exact Prod.ext (Prod.ext h1 h2.symm) (Prod.ext (h3 h1).1 (clockR_fine h1))
  · cases h
theorem rclockR_okF (l : List UInt8) : okF (rclockR l).1 := by
  have hz : okF (List.replicate 64 0) := ⟨by rw [List.length_replicate], fun x hx => by rw [List.eq_of_mem_replicate hx]; decide⟩
  unfold rclockR
  split
  · exact hz
  · rename_i g
    split
    · exact hz
    · rename_i ns m hn
      split
      · exact hz
      · obtain ⟨i1, _, i3⟩ := numsT_some _ _ _ _ hn
        refine ⟨by dsimp only; rw [List.length_append, List.length_replicate]; omega, fun x hx => ?_⟩
        rcases List.mem_append.1 hx with hx | hx
        · exact i3 x hx
        · rw [List.eq_of_mem_replicate hx]; decide
theorem clP_ok {l r : List UInt8} {f : List Nat} (h : clP l = some (f, r)) : okF f := by
  unfold clP at h
  split at h
  · cases h; exact rclockR_okF l
  · cases h
noncomputable def pOp (l : List UInt8) : Option (OpD × List UInt8) := (intP 64 l).bind fun o => (numP o.2).bind fun n => (numP n.2).bind fun t => (clP t.2).bind fun c => (intP 5 c.2).bind fun k => (stP k.2).bind fun r => (stP r.2).bind fun q => (pCt q.2).bind fun x => some (⟨(o.1 : Int), n.1, t.1, c.1, (k.1 : Int), r.1, q.1, x.1.1, x.1.2.1, x.1.2.2.1, x.1.2.2.2⟩, x.2)
noncomputable def opQ (l : List UInt8) : Option (OpD × List UInt8) := (pOp l).bind fun p => if opP p.1 then some p else none
def ToR (l : List UInt8) (b : Nat) (z : Value) (G : List Pers) (S : List Res) : Prop := ∃ (x : OpD) (d u : Value) (bad : Bool) (l' : List UInt8) (v' : Value), z = .tuple #[popV x d u, .bool (opQ l).isSome] ∧ G = [rd (Ty.sl nodeT) x.F.ar u, rd (Ty.sl Ty.u64) (trimL x.f) d, rd (Ty.sl Ty.u8) l' v'] ∧ S = [rdrBox b v' bad] ∧ (opQ l = none → x = zOd) ∧ (∀ x0 r0, opQ l = some (x0, r0) → x = x0 ∧ l' = r0 ∧ bad = false)
abbrev mkO (o n t : Nat) (f : List Nat) (k r1 r2 q1 q2 : Nat) (c : Ctt) : OpD := ⟨(o : Int), n, t, f, (k : Int), (r1, (r2 : Int)), (q1, (q2 : Int)), c.1, c.2.1, c.2.2.1, c.2.2.2⟩
theorem trimL_nil : trimL [] = [] := trimL_done (by simp)
theorem ToR.no {l l' : List UInt8} {b : Nat} {v' : Value} {bad : Bool} (h : opQ l = none) : ToR l b (.tuple #[popV zOd nlS nlS, .bool false]) [rd (Ty.sl nodeT) [] nlS, rd (Ty.sl Ty.u64) [] nlS, rd (Ty.sl Ty.u8) l' v'] [rdrBox b v' bad] :=
  ⟨zOd, nlS, nlS, bad, l', v', by rw [h]; rfl, (by rw [trimL_nil]; rfl), rfl, fun _ => rfl, fun c0 r0 q => by rw [h] at q; cases q⟩
theorem ToR.yes {l l' : List UInt8} {b : Nat} {d u v' : Value} {x : OpD} (h : opQ l = some (x, l')) : ToR l b (.tuple #[popV x d u, .bool true]) [rd (Ty.sl nodeT) x.F.ar u, rd (Ty.sl Ty.u64) (trimL x.f) d, rd (Ty.sl Ty.u8) l' v'] [rdrBox b v' false] :=
  ⟨x, d, u, false, l', v', by rw [h]; rfl, rfl, rfl, fun q => (by rw [h] at q; cases q), fun c0 r0 q => (by rw [h] at q; cases q; exact ⟨rfl, rfl, rfl⟩)⟩
theorem pCt_sm {l r : List UInt8} {c : Ctt} (h : pCt l = some (c, r)) : smN 16 64 c.2.2.2 := by
  obtain ⟨k, h1, h2⟩ := bind_some2 h
  split at h2
  · cases h2; exact sm_zNt
  split at h2
  · obtain ⟨p, _, h3⟩ := bind_some2 h2
    cases h3; exact sm_zNt
  split at h2
  · obtain ⟨p, _, h3⟩ := bind_some2 h2
    split at h3
    · cases h3; exact sm_zNt
    · cases h3
  · obtain ⟨p, h4, h3⟩ := bind_some2 h2
    cases h3; exact (bkP_sm h4).1
theorem chain3 (l : List UInt8) : ∃ (o : Nat) (l1 : List UInt8) (b1 : Bool) (n : Nat) (l2 : List UInt8) (b2 : Bool) (t : Nat) (l3 : List UInt8) (b3 : Bool), intR 64 l false = (o, l1, b1) ∧ numR l1 b1 = (n, l2, b2) ∧ numR l2 b2 = (t, l3, b3) ∧ ((b3 = true ∧ l3 = [] ∧ pOp l = none) ∨ (b3 = false ∧ intP 64 l = some (o, l1) ∧ numP l1 = some (n, l2) ∧ numP l2 = some (t, l3))) := by
  cases h1 : intP 64 l with
  | none => exact ⟨0, [], true, 0, [], true, 0, [], true, intR_none h1, numR_nil, numR_nil, .inl ⟨rfl, rfl, by rw [pOp, h1]; rfl⟩⟩
  | some p =>
    obtain ⟨o, l1⟩ := p
    have e1 := (intR_some h1).1
    cases h2 : numP l1 with
    | none => exact ⟨o, l1, false, 0, [], true, 0, [], true, e1, numR_none h2, numR_nil, .inl ⟨rfl, rfl, by rw [pOp, h1, Option.bind_some]; dsimp only; rw [h2]; rfl⟩⟩
    | some p =>
      obtain ⟨n, l2⟩ := p
      cases h3 : numP l2 with
      | none => exact ⟨o, l1, false, n, l2, false, 0, [], true, e1, numR_some h2, numR_none h3, .inl ⟨rfl, rfl, by rw [pOp, h1, Option.bind_some]; dsimp only; rw [h2, Option.bind_some]; dsimp only; rw [h3]; rfl⟩⟩
      | some p => exact ⟨o, l1, false, n, l2, false, p.1, p.2, false, e1, numR_some h2, numR_some h3, .inr ⟨rfl, rfl, h2, h3⟩⟩
theorem chain5 (l : List UInt8) : ∃ (k : Nat) (l1 : List UInt8) (b1 : Bool) (r1 : Nat) (l2 : List UInt8) (b2 : Bool) (r2 : Nat) (l3 : List UInt8) (b3 : Bool) (q1 : Nat) (l4 : List UInt8) (b4 : Bool) (q2 : Nat) (l5 : List UInt8) (b5 : Bool), intR 5 l false = (k, l1, b1) ∧ numR l1 b1 = (r1, l2, b2) ∧ intR 64 l2 b2 = (r2, l3, b3) ∧ numR l3 b3 = (q1, l4, b4) ∧ intR 64 l4 b4 = (q2, l5, b5) ∧ ((b5 = true ∧ l5 = [] ∧ ∀ (F : Nat × List UInt8 → (Nat × Int) × List UInt8 → (Nat × Int) × List UInt8 → Option (OpD × List UInt8)), ((intP 5 l).bind fun k => (stP k.2).bind fun r => (stP r.2).bind fun q => F k r q) = none) ∨ (b5 = false ∧ intP 5 l = some (k, l1) ∧ stP l1 = some ((r1, (r2 : Int)), l3) ∧ stP l3 = some ((q1, (q2 : Int)), l5))) := by
  cases h1 : intP 5 l with
  | none => exact ⟨0, [], true, 0, [], true, 0, [], true, 0, [], true, 0, [], true, intR_none h1, numR_nil, intR_nil (by omega), numR_nil, intR_nil (by omega), .inl ⟨rfl, rfl, fun _ => rfl⟩⟩
  | some p =>
    obtain ⟨k, l1⟩ := p
    have e1 := (intR_some h1).1
    cases h2 : stP l1 with
    | none => exact ⟨k, l1, false, _, _, _, (intR 64 (numR l1 false).2.1 (numR l1 false).2.2).1, [], true, 0, [], true, 0, [], true, e1, rfl, Prod.ext rfl (stS_none h2), numR_nil, intR_nil (by omega), .inl ⟨rfl, rfl, fun _ => by rw [Option.bind_some]; dsimp only; rw [h2]; rfl⟩⟩
    | some p =>
      obtain ⟨⟨r1, i1⟩, l3⟩ := p
      obtain ⟨r2, rfl, hr2, e2⟩ := stS_some h2
      have e2a : (numR l1 false).1 = r1 := congrArg (fun x => x.1.1) e2
      have e2b : intR 64 (numR l1 false).2.1 (numR l1 false).2.2 = (r2, l3, false) := Prod.ext (congrArg (fun x => x.1.2) e2) (congrArg (fun x => x.2) e2)
      cases h3 : stP l3 with
      | none => exact ⟨k, l1, false, r1, _, _, r2, l3, false, _, _, _, (intR 64 (numR l3 false).2.1 (numR l3 false).2.2).1, [], true, e1, Prod.ext e2a rfl, e2b, rfl, Prod.ext rfl (stS_none h3), .inl ⟨rfl, rfl, fun _ => by rw [Option.bind_some]; dsimp only; rw [h2, Option.bind_some]; dsimp only; rw [h3]; rfl⟩⟩
      | some p =>
        obtain ⟨⟨q1, i2⟩, l5⟩ := p
        obtain ⟨q2, rfl, hq2, e3⟩ := stS_some h3
        have e3a : (numR l3 false).1 = q1 := congrArg (fun x => x.1.1) e3
        have e3b : intR 64 (numR l3 false).2.1 (numR l3 false).2.2 = (q2, l5, false) := Prod.ext (congrArg (fun x => x.1.2) e3) (congrArg (fun x => x.2) e3)
        exact ⟨k, l1, false, r1, _, _, r2, l3, false, q1, _, _, q2, l5, false, e1, Prod.ext e2a rfl, e2b, Prod.ext e3a rfl, e3b, .inr ⟨rfl, rfl, h2, h3⟩⟩
set_option maxRecDepth 100000 in
set_option maxHeartbeats 3200000 in
theorem oTake_fun (b : Nat) (l : List UInt8) (v : Value) : Fun Tryz.prog 14 [.pointer (some ⟨b, 0, none⟩)] [rd (Ty.sl Ty.u8) l v] [rdrBox b v false] (ToR l b) := by
  refine Fun.enter Tryz.func14 (by kernel_rfl) rfl Tryz.ntmps14 rfl (fun B Gf Sf => ?_); (try simp only [List.cons_append]); (try simp only [List.nil_append]); simp only [argEnv]
  refine WC.sat (fun w sw => sw.rdNil (nodeT)) ?_
  refine WC.sat (fun w sw => sw.rdNil (Ty.u64)) ?_
  (repeat (first | refine vgo ?_ | refine ⟨_, rfl, rfl, ?_⟩ | refine ⟨_, rfl, ?_⟩ | refine ⟨rfl, ?_⟩ | intro hb | refine go2 ?_ | refine WC.seq (fun K hK => ?_) | ((first | refine hK _ _ _ ?_ | refine hK _ _ _ _ rfl ?_ | refine WX.thenExit (K := K) ?_); clear hK K) | (refine WX.thenExit (K := KL) ?_; clear hL KL)))
  refine WL.alloc rfl ?_; intro b2
  (repeat (first | refine vgo ?_ | refine ⟨_, rfl, rfl, ?_⟩ | refine ⟨_, rfl, ?_⟩ | refine ⟨rfl, ?_⟩ | intro hb | refine go2 ?_ | refine WC.seq (fun K hK => ?_) | ((first | refine hK _ _ _ ?_ | refine hK _ _ _ _ rfl ?_ | refine WX.thenExit (K := K) ?_); clear hK K) | (refine WX.thenExit (K := KL) ?_; clear hL KL)))
  obtain ⟨o, l1, b1, n, l2, bb, t, l3, b3, e1, e2, e3, hch⟩ := chain3 l
  rw [e1]
  dsimp only
  rw [e2]
  dsimp only
  rw [e3]
  dsimp only
  refine WL.alloc rfl ?_; intro b4
  rcases hch with ⟨rfl, rfl, hno⟩ | ⟨rfl, h1, h2, h3⟩
  · have hc : (!(clockR [] true).1.1) = true := by rw [clockR_nil]; rfl
    have hq : opQ l = none := by rw [opQ, hno]; rfl
    (repeat (first | refine vgo ?_ | refine ⟨_, rfl, rfl, ?_⟩ | refine ⟨_, rfl, ?_⟩ | refine ⟨rfl, ?_⟩ | intro hb | refine go2 ?_ | refine WC.seq (fun K hK => ?_) | ((first | refine hK _ _ _ ?_ | refine hK _ _ _ _ rfl ?_ | refine WX.thenExit (K := K) ?_); clear hK K) | (refine WX.thenExit (K := KL) ?_; clear hL KL)))
    exact WX.retC2K (b := b2) rfl rfl rfl rfl (fun w sw => ⟨[rd (Ty.sl nodeT) [] nlS, rd (Ty.sl Ty.u64) [] nlS, rd (Ty.sl Ty.u8) (clockR [] true).2.1 hb], [rdrBox b hb (clockR [] true).2.2], ToR.no hq, sw.to⟩)
  have hstep : pOp l = (clP l3).bind fun c => (intP 5 c.2).bind fun k => (stP k.2).bind fun r => (stP r.2).bind fun q => (pCt q.2).bind fun x => some (⟨(o : Int), n, t, c.1, (k.1 : Int), r.1, q.1, x.1.1, x.1.2.1, x.1.2.2.1, x.1.2.2.2⟩, x.2) := by
    rw [pOp, h1, Option.bind_some]; dsimp only; rw [h2, Option.bind_some]; dsimp only; rw [h3, Option.bind_some]
  cases hcl : clP l3 with
  | none =>
    have hc : (!(clockR l3 false).1.1) = true := by rw [clP_none hcl]; rfl
    have hq : opQ l = none := by rw [opQ, hstep, hcl]; rfl
    (repeat (first | refine vgo ?_ | refine ⟨_, rfl, rfl, ?_⟩ | refine ⟨_, rfl, ?_⟩ | refine ⟨rfl, ?_⟩ | intro hb | refine go2 ?_ | refine WC.seq (fun K hK => ?_) | ((first | refine hK _ _ _ ?_ | refine hK _ _ _ _ rfl ?_ | refine WX.thenExit (K := K) ?_); clear hK K) | (refine WX.thenExit (K := KL) ?_; clear hL KL)))
    exact WX.retC2K (b := b2) rfl rfl rfl rfl (fun w sw => ⟨[rd (Ty.sl nodeT) [] nlS, rd (Ty.sl Ty.u64) [] nlS, rd (Ty.sl Ty.u8) (clockR l3 false).2.1 hb], [rdrBox b hb (clockR l3 false).2.2], ToR.no hq, sw.to⟩)
  | some cp =>
    obtain ⟨f, lc⟩ := cp
    have hc0 := clP_some hcl
    have hc : (!(clockR l3 false).1.1) = false := by rw [hc0]; rfl
    (repeat (first | refine vgo ?_ | refine ⟨_, rfl, rfl, ?_⟩ | refine ⟨_, rfl, ?_⟩ | refine ⟨rfl, ?_⟩ | intro hb | refine go2 ?_ | refine WC.seq (fun K hK => ?_) | ((first | refine hK _ _ _ ?_ | refine hK _ _ _ _ rfl ?_ | refine WX.thenExit (K := K) ?_); clear hK K) | (refine WX.thenExit (K := KL) ?_; clear hL KL)))
    rw [hc0]
    dsimp only
    obtain ⟨k, m1, a1, r1, m2, a2, r2, m3, a3, q1, m4, a4, q2, m5, a5, g1, g2, g3, g4, g5, gch⟩ := chain5 lc
    rw [g1]
    dsimp only
    rw [g2]
    dsimp only
    rw [g3]
    dsimp only
    rw [g4]
    dsimp only
    rw [g5]
    dsimp only
    rename_i d0 _ _ _
    have h5 : a5 = true → m5 = [] := fun h => by
      rcases gch with ⟨_, g, _⟩ | ⟨g, _⟩
      · exact g
      · rw [g] at h; cases h
    refine CallV.by' (cTake_fun b m5 hb a5 h5) ?_; rintro _ _ _ ⟨c, u, bad1, l8, v8, rfl, rfl, rfl, x1, x2⟩; (try simp only [List.cons_append]); (try simp only [List.nil_append])
    (repeat (first | refine vgo ?_ | refine ⟨_, rfl, rfl, ?_⟩ | refine ⟨_, rfl, ?_⟩ | refine ⟨rfl, ?_⟩ | intro hb | refine go2 ?_ | refine WC.seq (fun K hK => ?_) | ((first | refine hK _ _ _ ?_ | refine hK _ _ _ _ rfl ?_ | refine WX.thenExit (K := K) ?_); clear hK K) | (refine WX.thenExit (K := KL) ?_; clear hL KL)))
    refine WL.alloc rfl ?_; intro b7
    cases hp : pCt m5 with
    | none =>
      obtain rfl := x1 hp
      have hs : (!(none : Option (Ctt × List UInt8)).isSome) = true := rfl
      have hq : opQ l = none := by
        rw [opQ, hstep, hcl, Option.bind_some]
        rcases gch with ⟨_, _, g⟩ | ⟨_, w1, w2, w3⟩
        · dsimp only; rw [g]; rfl
        · dsimp only; rw [w1, Option.bind_some]; dsimp only; rw [w2, Option.bind_some]; dsimp only; rw [w3, Option.bind_some]; dsimp only; rw [hp]; rfl
      (repeat (first | refine vgo ?_ | refine ⟨_, rfl, rfl, ?_⟩ | refine ⟨_, rfl, ?_⟩ | refine ⟨rfl, ?_⟩ | intro hb | refine go2 ?_ | refine WC.seq (fun K hK => ?_) | ((first | refine hK _ _ _ ?_ | refine hK _ _ _ _ rfl ?_ | refine WX.thenExit (K := K) ?_); clear hK K) | (refine WX.thenExit (K := KL) ?_; clear hL KL)))
      exact WX.retC2K (b := b2) rfl rfl rfl rfl (fun w sw => ⟨[rd (Ty.sl nodeT) [] nlS, rd (Ty.sl Ty.u64) [] nlS, rd (Ty.sl Ty.u8) l8 v8], [rdrBox b v8 bad1], ToR.no hq, sw.to⟩)
    | some cp =>
      obtain ⟨c0, r0⟩ := cp
      obtain ⟨rfl, rfl, rfl⟩ := x2 c0 r0 hp
      have hs : (!(some (c, l8)).isSome) = false := rfl
      have hpO : pOp l = some (mkO o n t f k r1 r2 q1 q2 c, l8) := by
        rw [hstep, hcl, Option.bind_some]
        rcases gch with ⟨_, g, _⟩ | ⟨_, w1, w2, w3⟩
        · rw [g, pCt_nil] at hp; cases hp
        · dsimp only; rw [w1, Option.bind_some]; dsimp only; rw [w2, Option.bind_some]; dsimp only; rw [w3, Option.bind_some]; dsimp only; rw [hp]; rfl
      have hlen : (trimL f).length ≤ 64 := by
        have e1 := trimL_length f
        have e2 := (clP_ok hcl).1
        omega
      (repeat (first | refine vgo ?_ | refine ⟨_, rfl, rfl, ?_⟩ | refine ⟨_, rfl, ?_⟩ | refine ⟨rfl, ?_⟩ | intro hb | refine go2 ?_ | refine WC.seq (fun K hK => ?_) | ((first | refine hK _ _ _ ?_ | refine hK _ _ _ _ rfl ?_ | refine WX.thenExit (K := K) ?_); clear hK K) | (refine WX.thenExit (K := KL) ?_; clear hL KL)))
      refine CallV.by' (opright_fun (M := 16) (mkO o n t f k r1 r2 q1 q2 c) d0 u (trimL f) hlen (by unfold getC; rw [trimL_getD]) (numP_lt h2) (pCt_sm hp)) ?_; rintro _ _ _ ⟨rfl, rfl, rfl⟩; (try simp only [List.cons_append]); (try simp only [List.nil_append])
      by_cases g : opP (mkO o n t f k r1 r2 q1 q2 c)
      · have hq : opQ l = some (mkO o n t f k r1 r2 q1 q2 c, l8) := by rw [opQ, hpO, Option.bind_some, if_pos g]
        have hd : decide (opP (mkO o n t f k r1 r2 q1 q2 c)) = true := decide_eq_true g
        have hd2 : (!decide (opP (mkO o n t f k r1 r2 q1 q2 c))) = false := by rw [hd]; rfl
        (repeat (first | refine vgo ?_ | refine ⟨_, rfl, rfl, ?_⟩ | refine ⟨_, rfl, ?_⟩ | refine ⟨rfl, ?_⟩ | intro hb | refine go2 ?_ | refine WC.seq (fun K hK => ?_) | ((first | refine hK _ _ _ ?_ | refine hK _ _ _ _ rfl ?_ | refine WX.thenExit (K := K) ?_); clear hK K) | (refine WX.thenExit (K := KL) ?_; clear hL KL)))
        exact WX.retC2K (b := b2) rfl rfl rfl rfl (fun w sw => ⟨[rd (Ty.sl nodeT) c.2.2.2.ar u, rd (Ty.sl Ty.u64) (trimL f) d0, rd (Ty.sl Ty.u8) l8 v8], [rdrBox b v8 false], ToR.yes hq, sw.to⟩)
      · have hq : opQ l = none := by rw [opQ, hpO, Option.bind_some, if_neg g]
        have hd : decide (opP (mkO o n t f k r1 r2 q1 q2 c)) = false := decide_eq_false g
        have hd2 : (!decide (opP (mkO o n t f k r1 r2 q1 q2 c))) = true := by rw [hd]; rfl
        (repeat (first | refine vgo ?_ | refine ⟨_, rfl, rfl, ?_⟩ | refine ⟨_, rfl, ?_⟩ | refine ⟨rfl, ?_⟩ | intro hb | refine go2 ?_ | refine WC.seq (fun K hK => ?_) | ((first | refine hK _ _ _ ?_ | refine hK _ _ _ _ rfl ?_ | refine WX.thenExit (K := K) ?_); clear hK K) | (refine WX.thenExit (K := KL) ?_; clear hL KL)))
        exact WX.retC2K (b := b2) rfl rfl rfl rfl (fun w sw => ⟨[rd (Ty.sl nodeT) [] nlS, rd (Ty.sl Ty.u64) [] nlS, rd (Ty.sl Ty.u8) l8 v8], [rdrBox b v8 false], ToR.no hq, sw.to⟩)
end
/-! ### The document's reader: numbers and pairs of stamps. -/
section
open Go Go.Proofs
abbrev rBox (b : Nat) (v : Value) (bad : Bool) : Res := box b 142 [v, .bool bad]
def rnR (m : Nat) (l : List UInt8) (bad : Bool) : Nat × List UInt8 × Bool := if bad = true then (0, l, true) else match intP m l with
  | some p => (p.1, p.2, false)
  | none => (0, l, true)
theorem rnR_bad (m : Nat) (l : List UInt8) : rnR m l true = (0, l, true) := if_pos rfl
theorem rnR_some {m n : Nat} {l r : List UInt8} (h : intP m l = some (n, r)) : rnR m l false = (n, r, false) := by
  rw [rnR, if_neg (by decide), h]
theorem rnR_none {m : Nat} {l : List UInt8} (h : intP m l = none) : rnR m l false = (0, l, true) := by
  rw [rnR, if_neg (by decide), h]
theorem intP_max (l : List UInt8) : intP 18446744073709551615 l = numP l := by
  unfold intP
  cases h : numP l with
  | none => rfl
  | some p =>
    have := numP_lt (n := p.1) (r := p.2) h
    rw [Option.bind_some, if_pos (by omega)]
set_option maxHeartbeats 1600000 in
theorem r11num_fun (b : Nat) (v : Value) (l : List UInt8) (bad : Bool) (m : Nat) : Fun Tryz.prog 89 [.pointer (some ⟨b, 0, none⟩), .int .u64 (m : Nat)] [rd (Ty.sl Ty.u8) l v] [rBox b v bad]
    (fun z G S => z = .int .u64 ((rnR m l bad).1 : Nat) ∧ ∃ v', G = [rd (Ty.sl Ty.u8) (rnR m l bad).2.1 v'] ∧ S = [rBox b v' (rnR m l bad).2.2]) := by
  refine Fun.enter Tryz.func89 (by kernel_rfl) rfl Tryz.ntmps89 rfl (fun B Gf Sf => ?_); (try simp only [List.cons_append]); (try simp only [List.nil_append]); simp only [argEnv]
  refine WC.ex (fun w sw => sw.len_le (RdSl.h (v := v))) (fun hl => ?_)
  have hle := takeR_le l
  have hlt := takeR_lt l
  cases bad with
  | true =>
    rw [rnR_bad]
    (repeat (first | refine vgo ?_ | refine ⟨_, rfl, rfl, ?_⟩ | refine ⟨_, rfl, ?_⟩ | refine ⟨rfl, ?_⟩ | intro hb | refine go2 ?_ | refine WC.seq (fun K hK => ?_) | ((first | refine hK _ _ _ ?_ | refine hK _ _ _ _ rfl ?_ | refine WX.thenExit (K := K) ?_); clear hK K) | (refine WX.thenExit (K := KL) ?_; clear hL KL)))
    exact WX.ret1 rfl rfl (fun w sw => ⟨[rd (Ty.sl Ty.u8) l v], [rBox b v true], ⟨rfl, v, rfl, rfl⟩, sw.to⟩)
  | false =>
    by_cases g : (takeR l).2 = 0
    · have hn : intP m l = none := by rw [intP, numP, if_pos g]; rfl
      have hg : (((takeR l).2 : Nat) : Int) = 0 := by omega
      rw [rnR_none hn]
      (repeat (first | refine vgo ?_ | refine ⟨_, rfl, rfl, ?_⟩ | refine ⟨_, rfl, ?_⟩ | refine ⟨rfl, ?_⟩ | intro hb | refine go2 ?_ | refine WC.seq (fun K hK => ?_) | ((first | refine hK _ _ _ ?_ | refine hK _ _ _ _ rfl ?_ | refine WX.thenExit (K := K) ?_); clear hK K) | (refine WX.thenExit (K := KL) ?_; clear hL KL)))
      exact WX.ret1 rfl rfl (fun w sw => ⟨[rd (Ty.sl Ty.u8) l v], [rBox b v true], ⟨rfl, v, rfl, rfl⟩, sw.to⟩)
    · have hg : ¬ (((takeR l).2 : Nat) : Int) = 0 := by omega
      by_cases q : (takeR l).1 ≤ m
      · have hn : intP m l = some ((takeR l).1, l.drop (takeR l).2) := by rw [intP, numP, if_neg g, Option.bind_some, if_pos q]
        have hq : ¬ ((m : Nat) : Int) < (((takeR l).1 : Nat) : Int) := by omega
        rw [rnR_some hn]
        (repeat (first | refine vgo ?_ | refine ⟨_, rfl, rfl, ?_⟩ | refine ⟨_, rfl, ?_⟩ | refine ⟨rfl, ?_⟩ | intro hb | refine go2 ?_ | refine WC.seq (fun K hK => ?_) | ((first | refine hK _ _ _ ?_ | refine hK _ _ _ _ rfl ?_ | refine WX.thenExit (K := K) ?_); clear hK K) | (refine WX.thenExit (K := KL) ?_; clear hL KL)))
        exact WX.ret1 rfl rfl (fun w sw => ⟨[rd (Ty.sl Ty.u8) (l.drop (takeR l).2) hb], [rBox b hb false], ⟨rfl, hb, rfl, rfl⟩, sw.to⟩)
      · have hn : intP m l = none := by rw [intP, numP, if_neg g, Option.bind_some, if_neg q]
        have hq : ((m : Nat) : Int) < (((takeR l).1 : Nat) : Int) := by omega
        rw [rnR_none hn]
        (repeat (first | refine vgo ?_ | refine ⟨_, rfl, rfl, ?_⟩ | refine ⟨_, rfl, ?_⟩ | refine ⟨rfl, ?_⟩ | intro hb | refine go2 ?_ | refine WC.seq (fun K hK => ?_) | ((first | refine hK _ _ _ ?_ | refine hK _ _ _ _ rfl ?_ | refine WX.thenExit (K := K) ?_); clear hK K) | (refine WX.thenExit (K := KL) ?_; clear hL KL)))
        exact WX.ret1 rfl rfl (fun w sw => ⟨[rd (Ty.sl Ty.u8) l v], [rBox b v true], ⟨rfl, v, rfl, rfl⟩, sw.to⟩)
/-- A stamp of the document's reader. -/
def rsS (l : List UInt8) (bad : Bool) : (Nat × Nat) × List UInt8 × Bool := (((rnR 18446744073709551615 l bad).1, (rnR 64 (rnR 18446744073709551615 l bad).2.1 (rnR 18446744073709551615 l bad).2.2).1), (rnR 64 (rnR 18446744073709551615 l bad).2.1 (rnR 18446744073709551615 l bad).2.2).2)
theorem rsS_some {l r : List UInt8} {x : Nat × Int} (h : stP l = some (x, r)) : ∃ n : Nat, x.2 = (n : Int) ∧ n ≤ 64 ∧ rsS l false = ((x.1, n), r, false) := by
  unfold stP at h
  obtain ⟨p, h1, h2⟩ := bind_some2 h
  obtain ⟨q, h3, h4⟩ := bind_some2 h2
  cases h4
  refine ⟨q.1, rfl, intP_le h3, ?_⟩
  unfold rsS
  rw [rnR_some (r := p.2) (n := p.1) (by rw [intP_max]; exact h1)]
  dsimp only
  rw [rnR_some (r := q.2) (n := q.1) h3]
theorem rsS_none {l : List UInt8} (h : stP l = none) : (rsS l false).2.2 = true := by
  unfold stP at h
  unfold rsS
  cases hn : numP l with
  | none =>
    rw [rnR_none (by rw [intP_max]; exact hn)]
    dsimp only
    rw [rnR_bad]
  | some p =>
    rw [hn, Option.bind_some] at h
    rw [rnR_some (r := p.2) (n := p.1) (by rw [intP_max]; exact hn)]
    dsimp only
    cases hi : intP 64 p.2 with
    | none => rw [rnR_none hi]
    | some q => rw [hi] at h; cases h
theorem rnR_le (m : Nat) (l : List UInt8) (bad : Bool) : (rnR m l bad).1 ≤ m := by
  unfold rnR
  split
  · exact Nat.zero_le _
  · split
    · rename_i p h; exact intP_le (r := p.2) h
    · exact Nat.zero_le _
abbrev prC (t1 : Nat) (r1 : Nat) (t2 : Nat) (r2 : Nat) : List Value := [.int .u64 (t1 : Int), .int .i64 (r1 : Int), .int .u64 (t2 : Int), .int .i64 (r2 : Int)]
def prS (t1 r1 t2 r2 : Nat) (l lb ld : List UInt8) (bad bb bd : Bool) : Nat → List Value × List UInt8 × Bool
  | 0 => (prC 0 0 0 0, l, bad)
  | 1 => (prC t1 r1 0 0, lb, bb)
  | _ => (prC t1 r1 t2 r2, ld, bd)
set_option maxHeartbeats 3200000 in
set_option maxRecDepth 100000 in
theorem pair_fun (b : Nat) (v : Value) (l la lb lc ld : List UInt8) (bad ba bb bc bd : Bool) (t1 r1 t2 r2 : Nat) (h1 : rnR 18446744073709551615 l bad = (t1, la, ba)) (h2 : rnR 64 la ba = (r1, lb, bb)) (h3 : rnR 18446744073709551615 lb bb = (t2, lc, bc)) (h4 : rnR 64 lc bc = (r2, ld, bd)) : Fun Tryz.prog 90 [.pointer (some ⟨b, 0, none⟩)] [rd (Ty.sl Ty.u8) l v] [rBox b v bad]
    (fun z G S => z = rfV t1 r1 t2 r2 ∧ ∃ v', G = [rd (Ty.sl Ty.u8) ld v'] ∧ S = [rBox b v' bd]) := by
  have k1 : r1 ≤ 64 := by have := rnR_le 64 la ba; rw [h2] at this; exact this
  have k2 : r2 ≤ 64 := by have := rnR_le 64 lc bc; rw [h4] at this; exact this
  have w1 : IntKind.i64.wrap (r1 : Int) = (r1 : Int) := wrap_i64 (by omega)
  have w2 : IntKind.i64.wrap (r2 : Int) = (r2 : Int) := wrap_i64 (by omega)
  refine Fun.enter Tryz.func90 (by kernel_rfl) rfl Tryz.ntmps90 rfl (fun B Gf Sf => ?_); (try simp only [List.cons_append]); (try simp only [List.nil_append]); simp only [argEnv]
  (repeat (first | refine vgo ?_ | refine ⟨_, rfl, rfl, ?_⟩ | refine ⟨_, rfl, ?_⟩ | refine ⟨rfl, ?_⟩ | intro hb | refine go2 ?_ | refine WC.seq (fun K hK => ?_) | ((first | refine hK _ _ _ ?_ | refine hK _ _ _ _ rfl ?_ | refine WX.thenExit (K := K) ?_); clear hK K) | (refine WX.thenExit (K := KL) ?_; clear hL KL)))
  refine WL.alloc rfl ?_; intro b2
  (repeat (first | refine vgo ?_ | refine ⟨_, rfl, rfl, ?_⟩ | refine ⟨_, rfl, ?_⟩ | refine ⟨rfl, ?_⟩ | intro hb | refine go2 ?_ | refine WC.seq (fun K hK => ?_) | ((first | refine hK _ _ _ ?_ | refine hK _ _ _ _ rfl ?_ | refine WX.thenExit (K := K) ?_); clear hK K) | (refine WX.thenExit (K := KL) ?_; clear hL KL)))
  refine WL.alloc rfl ?_; intro b3
  (repeat (first | refine vgo ?_ | refine ⟨_, rfl, rfl, ?_⟩ | refine ⟨_, rfl, ?_⟩ | refine ⟨rfl, ?_⟩ | intro hb | refine go2 ?_ | refine WC.seq (fun K hK => ?_) | ((first | refine hK _ _ _ ?_ | refine hK _ _ _ _ rfl ?_ | refine WX.thenExit (K := K) ?_); clear hK K) | (refine WX.thenExit (K := KL) ?_; clear hL KL)))
  refine WC.loop (I := Nat × Value) (fun i => [(0, .pointer (some ⟨b, 0, none⟩)), (2, .pointer (some ⟨b2, 0, none⟩)), (3, .pointer (some ⟨b3, 0, none⟩)), (4, .int .i64 (i.1 : Nat))]) (fun i => rd (Ty.sl Ty.u8) (prS t1 r1 t2 r2 l lb ld bad bb bd i.1).2.1 i.2 :: rd (Ty.sl Ty.u8) l v :: Gf) (fun i => box b3 70 (prS t1 r1 t2 r2 l lb ld bad bb bd i.1).1 :: box b2 70 (prC 0 0 0 0) :: rBox b i.2 (prS t1 r1 t2 r2 l lb ld bad bb bd i.1).2.2 :: Sf) (fun i => i.1 ≤ 2) (fun i => 2 - i.1) (0, v) (Nat.zero_le _) (.cons rfl (.cons rfl (.cons rfl (.cons rfl .nil)))) (fun w h => by
    have h2 : Sat B (rd (Ty.sl Ty.u8) l v :: Gf) (box b3 70 (prC 0 0 0 0) :: box b2 70 (prC 0 0 0 0) :: rBox b v bad :: Sf) w := h
    have h3 : Sat B (rd (Ty.sl Ty.u8) l v :: rd (Ty.sl Ty.u8) l v :: Gf) (box b3 70 (prC 0 0 0 0) :: box b2 70 (prC 0 0 0 0) :: rBox b v bad :: Sf) w := h2.to
    exact h3) ?_
  rintro ⟨i, v1⟩ hi KL hL
  dsimp only at hi
  have hi : i = 0 ∨ i = 1 ∨ i = 2 := by omega
  rcases hi with rfl | rfl | rfl
  · simp only [prS]
    (repeat (first | refine vgo ?_ | refine ⟨_, rfl, rfl, ?_⟩ | refine ⟨_, rfl, ?_⟩ | refine ⟨rfl, ?_⟩ | intro hb | refine go2 ?_ | refine WC.seq (fun K hK => ?_) | ((first | refine hK _ _ _ ?_ | refine hK _ _ _ _ rfl ?_ | refine WX.thenExit (K := K) ?_); clear hK K) | (refine WX.thenExit (K := KL) ?_; clear hL KL)))
    refine CallV.by' (r11num_fun b v1 l bad 18446744073709551615) ?_; rintro _ _ _ ⟨rfl, v2, rfl, rfl⟩; (try simp only [List.cons_append]); (try simp only [List.nil_append])
    rw [h1]
    dsimp only
    (repeat (first | refine vgo ?_ | refine ⟨_, rfl, rfl, ?_⟩ | refine ⟨_, rfl, ?_⟩ | refine ⟨rfl, ?_⟩ | intro hb | refine go2 ?_ | refine WC.seq (fun K hK => ?_) | ((first | refine hK _ _ _ ?_ | refine hK _ _ _ _ rfl ?_ | refine WX.thenExit (K := K) ?_); clear hK K) | (refine WX.thenExit (K := KL) ?_; clear hL KL)))
    refine CallV.by' (r11num_fun b v2 la ba 64) ?_; rintro _ _ _ ⟨rfl, v3, rfl, rfl⟩; (try simp only [List.cons_append]); (try simp only [List.nil_append])
    rw [h2]
    dsimp only
    (repeat (first | refine vgo ?_ | refine ⟨_, rfl, rfl, ?_⟩ | refine ⟨_, rfl, ?_⟩ | refine ⟨rfl, ?_⟩ | intro hb | refine go2 ?_ | refine WC.seq (fun K hK => ?_) | ((first | refine hK _ _ _ ?_ | refine hK _ _ _ _ rfl ?_ | refine WX.thenExit (K := K) ?_); clear hK K) | (refine WX.thenExit (K := KL) ?_; clear hL KL)))
    refine (hL (1, v3) (by dsimp only; omega) (by dsimp only; omega)).conv (.cons rfl (.cons rfl (.cons rfl (.cons rfl .nil)))) (fun w h => ?_)
    have h5 : Sat B (rd (Ty.sl Ty.u8) lb v3 :: _ :: _ :: rd (Ty.sl Ty.u8) l v :: Gf) (box b3 70 (prC t1 r1 0 0) :: rBox b v3 bb :: box b2 70 (prC 0 0 0 0) :: Sf) w := h
    have h6 : Sat B (rd (Ty.sl Ty.u8) lb v3 :: rd (Ty.sl Ty.u8) l v :: Gf) (box b3 70 (prC t1 r1 0 0) :: box b2 70 (prC 0 0 0 0) :: rBox b v3 bb :: Sf) w := h5.to
    exact h6
  · simp only [prS]
    (repeat (first | refine vgo ?_ | refine ⟨_, rfl, rfl, ?_⟩ | refine ⟨_, rfl, ?_⟩ | refine ⟨rfl, ?_⟩ | intro hb | refine go2 ?_ | refine WC.seq (fun K hK => ?_) | ((first | refine hK _ _ _ ?_ | refine hK _ _ _ _ rfl ?_ | refine WX.thenExit (K := K) ?_); clear hK K) | (refine WX.thenExit (K := KL) ?_; clear hL KL)))
    refine CallV.by' (r11num_fun b v1 lb bb 18446744073709551615) ?_; rintro _ _ _ ⟨rfl, v2, rfl, rfl⟩; (try simp only [List.cons_append]); (try simp only [List.nil_append])
    rw [h3]
    dsimp only
    (repeat (first | refine vgo ?_ | refine ⟨_, rfl, rfl, ?_⟩ | refine ⟨_, rfl, ?_⟩ | refine ⟨rfl, ?_⟩ | intro hb | refine go2 ?_ | refine WC.seq (fun K hK => ?_) | ((first | refine hK _ _ _ ?_ | refine hK _ _ _ _ rfl ?_ | refine WX.thenExit (K := K) ?_); clear hK K) | (refine WX.thenExit (K := KL) ?_; clear hL KL)))
    refine CallV.by' (r11num_fun b v2 lc bc 64) ?_; rintro _ _ _ ⟨rfl, v3, rfl, rfl⟩; (try simp only [List.cons_append]); (try simp only [List.nil_append])
    rw [h4]
    dsimp only
    (repeat (first | refine vgo ?_ | refine ⟨_, rfl, rfl, ?_⟩ | refine ⟨_, rfl, ?_⟩ | refine ⟨rfl, ?_⟩ | intro hb | refine go2 ?_ | refine WC.seq (fun K hK => ?_) | ((first | refine hK _ _ _ ?_ | refine hK _ _ _ _ rfl ?_ | refine WX.thenExit (K := K) ?_); clear hK K) | (refine WX.thenExit (K := KL) ?_; clear hL KL)))
    refine (hL (2, v3) (by dsimp only; omega) (by dsimp only; omega)).conv (.cons rfl (.cons rfl (.cons rfl (.cons rfl .nil)))) (fun w h => ?_)
    have h5 : Sat B (rd (Ty.sl Ty.u8) ld v3 :: _ :: _ :: rd (Ty.sl Ty.u8) l v :: Gf) (box b3 70 (prC t1 r1 t2 r2) :: rBox b v3 bd :: box b2 70 (prC 0 0 0 0) :: Sf) w := h
    have h6 : Sat B (rd (Ty.sl Ty.u8) ld v3 :: rd (Ty.sl Ty.u8) l v :: Gf) (box b3 70 (prC t1 r1 t2 r2) :: box b2 70 (prC 0 0 0 0) :: rBox b v3 bd :: Sf) w := h5.to
    exact h6
  · simp only [prS]
    (repeat (first | refine vgo ?_ | refine ⟨_, rfl, rfl, ?_⟩ | refine ⟨_, rfl, ?_⟩ | refine ⟨rfl, ?_⟩ | intro hb | refine go2 ?_ | refine WC.seq (fun K hK => ?_) | ((first | refine hK _ _ _ ?_ | refine hK _ _ _ _ rfl ?_ | refine WX.thenExit (K := K) ?_); clear hK K) | (refine WX.thenExit (K := KL) ?_; clear hL KL)))
    refine WX.retCell rfl rfl (SelBox.h (b := b2)) rfl (fun w sw => ⟨[rd (Ty.sl Ty.u8) ld v1], [rBox b v1 bd], ⟨rfl, v1, rfl, rfl⟩, sw.to⟩)
theorem pair2_fun (b : Nat) (v : Value) (l : List UInt8) : Fun Tryz.prog 90 [.pointer (some ⟨b, 0, none⟩)] [rd (Ty.sl Ty.u8) l v] [rBox b v false]
    (fun z G S => ∃ (x : Ref2) (l' : List UInt8) (v' : Value) (bad : Bool), z = rfV x.1.1 x.1.2 x.2.1 x.2.2 ∧ G = [rd (Ty.sl Ty.u8) l' v'] ∧ S = [rBox b v' bad] ∧ (okId x.1 ∧ okId x.2) ∧ (bad = true → rfP l = none) ∧ (bad = false → rfP l = some (x, l'))) := by
  have ho : ∀ (t r : Nat), t < 18446744073709551616 → r ≤ 64 → okId (t, (r : Int)) := fun t r h1 h2 => ⟨h1, by dsimp only; omega, by dsimp only; omega⟩
  have hm : ∀ (l : List UInt8) (bad : Bool), (rnR 18446744073709551615 l bad).1 < 18446744073709551616 := fun l bad => Nat.lt_succ_of_le (rnR_le _ _ _)
  cases hs : stP l with
  | none =>
    have e2 := rsS_none hs
    have e3 : rnR 64 (rnR 18446744073709551615 l false).2.1 (rnR 18446744073709551615 l false).2.2 = ((rsS l false).1.2, (rsS l false).2.1, true) := Prod.ext rfl (Prod.ext rfl e2)
    refine (pair_fun b v l _ (rsS l false).2.1 (rsS l false).2.1 (rsS l false).2.1 false _ true true true (rnR 18446744073709551615 l false).1 (rsS l false).1.2 0 0 rfl e3 (rnR_bad _ _) (rnR_bad _ _)).imp ?_
    rintro z G S ⟨rfl, v', rfl, rfl⟩
    exact ⟨(((rnR 18446744073709551615 l false).1, ((rsS l false).1.2 : Int)), (0, 0)), _, v', true, rfl, rfl, rfl, ⟨ho _ _ (hm _ _) (rnR_le 64 _ _), ho 0 0 (by omega) (by omega)⟩, fun _ => by rw [rfP, hs]; rfl, fun h => (by cases h)⟩
  | some p =>
    obtain ⟨⟨t1, i1⟩, l2⟩ := p
    obtain ⟨r1, rfl, hr1, e2⟩ := rsS_some hs
    have e2a : (rnR 18446744073709551615 l false).1 = t1 := congrArg (fun x => x.1.1) e2
    have e2b : rnR 64 (rnR 18446744073709551615 l false).2.1 (rnR 18446744073709551615 l false).2.2 = (r1, l2, false) := Prod.ext (congrArg (fun x => x.1.2) e2) (congrArg (fun x => x.2) e2)
    have ht1 : t1 < 18446744073709551616 := e2a ▸ hm l false
    cases hs2 : stP l2 with
    | none =>
      have e3 := rsS_none hs2
      have e4 : rnR 64 (rnR 18446744073709551615 l2 false).2.1 (rnR 18446744073709551615 l2 false).2.2 = ((rsS l2 false).1.2, (rsS l2 false).2.1, true) := Prod.ext rfl (Prod.ext rfl e3)
      refine (pair_fun b v l _ l2 _ (rsS l2 false).2.1 false _ false _ true t1 r1 (rnR 18446744073709551615 l2 false).1 (rsS l2 false).1.2 (Prod.ext e2a rfl) e2b rfl e4).imp ?_
      rintro z G S ⟨rfl, v', rfl, rfl⟩
      exact ⟨((t1, (r1 : Int)), ((rnR 18446744073709551615 l2 false).1, ((rsS l2 false).1.2 : Int))), _, v', true, rfl, rfl, rfl, ⟨ho _ _ ht1 hr1, ho _ _ (hm _ _) (rnR_le 64 _ _)⟩, fun _ => by rw [rfP, hs, Option.bind_some]; dsimp only; rw [hs2]; rfl, fun h => (by cases h)⟩
    | some q =>
      obtain ⟨⟨t2, i2⟩, l4⟩ := q
      obtain ⟨r2, rfl, hr2, e3⟩ := rsS_some hs2
      have e3a : (rnR 18446744073709551615 l2 false).1 = t2 := congrArg (fun x => x.1.1) e3
      have e3b : rnR 64 (rnR 18446744073709551615 l2 false).2.1 (rnR 18446744073709551615 l2 false).2.2 = (r2, l4, false) := Prod.ext (congrArg (fun x => x.1.2) e3) (congrArg (fun x => x.2) e3)
      have ht2 : t2 < 18446744073709551616 := e3a ▸ hm l2 false
      refine (pair_fun b v l _ l2 _ l4 false _ false _ false t1 r1 t2 r2 (Prod.ext e2a rfl) e2b (Prod.ext e3a rfl) e3b).imp ?_
      rintro z G S ⟨rfl, v', rfl, rfl⟩
      exact ⟨((t1, (r1 : Int)), (t2, (r2 : Int))), l4, v', false, rfl, rfl, rfl, ⟨ho _ _ ht1 hr1, ho _ _ ht2 hr2⟩, fun h => (by cases h), fun _ => by rw [rfP, hs, Option.bind_some]; dsimp only; rw [hs2]; rfl⟩
end
/-! ### The document's reader: nodes. -/
section
open Go Go.Proofs
theorem pair3_fun (b : Nat) (v : Value) (l : List UInt8) (bad0 : Bool) : Fun Tryz.prog 90 [.pointer (some ⟨b, 0, none⟩)] [rd (Ty.sl Ty.u8) l v] [rBox b v bad0]
    (fun z G S => ∃ (x : Ref2) (l' : List UInt8) (v' : Value) (bad : Bool), z = rfV x.1.1 x.1.2 x.2.1 x.2.2 ∧ G = [rd (Ty.sl Ty.u8) l' v'] ∧ S = [rBox b v' bad] ∧ (okId x.1 ∧ okId x.2) ∧ (bad = true → bad0 = true ∨ rfP l = none) ∧ (bad = false → bad0 = false ∧ rfP l = some (x, l'))) := by
  cases bad0 with
  | false =>
    refine (pair2_fun b v l).imp ?_
    rintro z G S ⟨x, l', v', bad, e1, e2, e3, e4, e5, e6⟩
    exact ⟨x, l', v', bad, e1, e2, e3, e4, fun h => .inr (e5 h), fun h => ⟨rfl, e6 h⟩⟩
  | true =>
    refine (pair_fun b v l l l l l true true true true true 0 0 0 0 (rnR_bad _ _) (rnR_bad _ _) (rnR_bad _ _) (rnR_bad _ _)).imp ?_
    rintro z G S ⟨rfl, v', rfl, rfl⟩
    exact ⟨z2, l, v', true, rfl, rfl, rfl, okz2, fun _ => .inl rfl, fun h => (by cases h)⟩
def RnR (d : Nat) (l : List UInt8) (b : Nat) (z : Value) (G : List Pers) (S : List Res) : Prop := ∃ (a : Nd) (u : Value) (bad : Bool) (l' : List UInt8) (v' : Value), z = ndV a.k a.n a.s a.f a.t u ∧ G = [rd (Ty.sl nodeT) a.ar u, rd (Ty.sl Ty.u8) l' v'] ∧ S = [rBox b v' bad] ∧ okNd a ∧ (bad = false → pN d l = some (a, l')) ∧ (bad = true → pN d l = none)
theorem okzNt : okNd zNt := ⟨okI0, okI0, Nat.zero_le _, okz2.1, okz2.1, okz2.1, okz2.1⟩
theorem runR_len (l : List UInt8) : (runR l).1.length ≤ 65536 := by
  unfold runR
  split
  · exact Nat.zero_le _
  · rename_i h1
    dsimp only
    rw [List.length_take]
    omega
theorem AdrV.sat {P : Program} {n : Nat} {L : List Oper} {Q : Exit → Act → World → Prop} {rest : List Oper} {B : Base} {env : Env} {G G' : List Pers} {S S' : List Res} {d : Nat} {T : TypeId} {u v : Value} (hs : ∀ w, Sat B.w G S w → Sat B.w G' S' w) (h : AdrV P n L Q rest B env G' S' d T u v) : AdrV P n L Q rest B env G S d T u v := ⟨fun x y ty pos af e1 e2 e3 => WL.sat hs (h.go x y ty pos af e1 e2 e3)⟩
abbrev tbl9 : List Int := [0, 0, 0, 0, 0, 1, 2, 0, 0]
theorem tbl9_at : ∀ k, k ≤ 8 → tbl9[k]? = some ((cntK k : Nat) : Int) := by decide
abbrev RX (d : Nat) (l : List UInt8) : Type := {p : Nd × Value × Bool × List UInt8 × Value // okNd p.1 ∧ (p.2.2.1 = false → pN d l = some (p.1, p.2.2.2.1)) ∧ (p.2.2.1 = true → pN d l = none)}
abbrev rxA {d : Nat} {l : List UInt8} (p : RX d l) : Nd := p.1.1
abbrev rxU {d : Nat} {l : List UInt8} (p : RX d l) : Value := p.1.2.1
abbrev rxB {d : Nat} {l : List UInt8} (p : RX d l) : Bool := p.1.2.2.1
abbrev rxL {d : Nat} {l : List UInt8} (p : RX d l) : List UInt8 := p.1.2.2.2.1
abbrev rxW {d : Nat} {l : List UInt8} (p : RX d l) : Value := p.1.2.2.2.2
abbrev rxV {d : Nat} {l : List UInt8} (p : RX d l) : Value := ndV (rxA p).k (rxA p).n (rxA p).s (rxA p).f (rxA p).t (rxU p)
abbrev rxC {d : Nat} {l : List UInt8} (p : RX d l) : List Value := ndC (rxA p).k (rxA p).n (rxA p).s (rxA p).f (rxA p).t (rxU p)
theorem RX.get {d : Nat} {l : List UInt8} (p q : RX d l) : (rxB p = false → pN d l = some (rxA q, rxL p)) ∧ (rxB p = true → pN d l = none) := by
  refine ⟨fun h => ?_, p.2.2.2⟩
  have h1 := p.2.2.1 h
  have h2 : rxB q = false := by
    cases hq : rxB q with
    | false => rfl
    | true => have := q.2.2.2 hq; rw [h1] at this; cases this
  have h3 := q.2.2.1 h2
  have h5 : rxA p = rxA q := by
    have h4 := h1.symm.trans h3
    simp only [Option.some.injEq, Prod.mk.injEq] at h4
    exact h4.1
  exact h1.trans (congrArg (fun x => some (x, rxL p)) h5)
set_option maxRecDepth 100000 in
set_option maxHeartbeats 6400000 in
theorem rnode2_fun (d : Nat) (hd : d ≤ 64) (b : Nat) (l : List UInt8) (v : Value) : Fun Tryz.prog 77 [.pointer (some ⟨b, 0, none⟩), .int .i64 (d : Nat)] [rd (Ty.sl Ty.u8) l v] [rBox b v false] (RnR d l b) := by
  refine Fun.enter Tryz.func77 (by kernel_rfl) rfl Tryz.ntmps77 rfl (fun B Gf Sf => ?_); (try simp only [List.cons_append]); (try simp only [List.nil_append]); simp only [argEnv]
  refine WC.sat (fun w sw => sw.rdNil (nodeT)) ?_
  (repeat (first | refine vgo ?_ | refine ⟨_, rfl, rfl, ?_⟩ | refine ⟨_, rfl, ?_⟩ | refine ⟨rfl, ?_⟩ | intro hb | refine go2 ?_ | refine WC.seq (fun K hK => ?_) | ((first | refine hK _ _ _ ?_ | refine hK _ _ _ _ rfl ?_ | refine WX.thenExit (K := K) ?_); clear hK K) | (refine WX.thenExit (K := KL) ?_; clear hL KL)))
  refine WL.alloc rfl ?_; intro b4
  cases d with
  | zero =>
    (repeat (first | refine vgo ?_ | refine ⟨_, rfl, rfl, ?_⟩ | refine ⟨_, rfl, ?_⟩ | refine ⟨rfl, ?_⟩ | intro hb | refine go2 ?_ | refine WC.seq (fun K hK => ?_) | ((first | refine hK _ _ _ ?_ | refine hK _ _ _ _ rfl ?_ | refine WX.thenExit (K := K) ?_); clear hK K) | (refine WX.thenExit (K := KL) ?_; clear hL KL)))
    refine WX.retCell rfl rfl (SelBox.h (b := b4)) rfl (fun w sw => ⟨[rd (Ty.sl nodeT) [] nlS, rd (Ty.sl Ty.u8) l v], [rBox b v true], ⟨zNt, nlS, true, l, v, rfl, rfl, rfl, okzNt, fun h => (by cases h), fun _ => rfl⟩, sw.to⟩)
  | succ d =>
    have ih := fun (lx : List UInt8) (vx : Value) => rnode2_fun d (by omega) b lx vx
    (repeat (first | refine vgo ?_ | refine ⟨_, rfl, rfl, ?_⟩ | refine ⟨_, rfl, ?_⟩ | refine ⟨rfl, ?_⟩ | intro hb | refine go2 ?_ | refine WC.seq (fun K hK => ?_) | ((first | refine hK _ _ _ ?_ | refine hK _ _ _ _ rfl ?_ | refine WX.thenExit (K := K) ?_); clear hK K) | (refine WX.thenExit (K := KL) ?_; clear hL KL)))
    refine CallV.by' (r11num_fun b v l false 8) ?_; rintro _ _ _ ⟨rfl, v1, rfl, rfl⟩; (try simp only [List.cons_append]); (try simp only [List.nil_append])
    obtain ⟨k, r, bad0, e0, hk8, c1, c2⟩ : ∃ k r bad0, rnR 8 l false = (k, r, bad0) ∧ k ≤ 8 ∧ (bad0 = true → k = 0 ∧ intP 8 l = none) ∧ (bad0 = false → intP 8 l = some (k, r)) := by
      cases hk : intP 8 l with
      | none => exact ⟨0, l, true, rnR_none hk, by omega, fun _ => ⟨rfl, rfl⟩, fun h => (by cases h)⟩
      | some p => exact ⟨p.1, p.2, false, rnR_some hk, (intR_some hk).2, fun h => (by cases h), fun _ => rfl⟩
    rw [e0]
    dsimp only
    (repeat (first | refine vgo ?_ | refine ⟨_, rfl, rfl, ?_⟩ | refine ⟨_, rfl, ?_⟩ | refine ⟨rfl, ?_⟩ | intro hb | refine go2 ?_ | refine WC.seq (fun K hK => ?_) | ((first | refine hK _ _ _ ?_ | refine hK _ _ _ _ rfl ?_ | refine WX.thenExit (K := K) ?_); clear hK K) | (refine WX.thenExit (K := KL) ?_; clear hL KL)))
    refine WL.alloc rfl ?_; intro b6
    (repeat (first | refine vgo ?_ | refine ⟨_, rfl, rfl, ?_⟩ | refine ⟨_, rfl, ?_⟩ | refine ⟨rfl, ?_⟩ | intro hb | refine go2 ?_ | refine WC.seq (fun K hK => ?_) | ((first | refine hK _ _ _ ?_ | refine hK _ _ _ _ rfl ?_ | refine WX.thenExit (K := K) ?_); clear hK K) | (refine WX.thenExit (K := KL) ?_; clear hL KL)))
    refine AdrV.sat (fun w sw => sw.pub (R := Ty.i64) (l := tbl9) (v := hb) SelOwn.h rfl rfl rfl (by decide)) ?_
    have ha := tbl9_at k hk8
    (repeat (first | refine vgo ?_ | refine ⟨_, rfl, rfl, ?_⟩ | refine ⟨_, rfl, ?_⟩ | refine ⟨rfl, ?_⟩ | intro hb | refine go2 ?_ | refine WC.seq (fun K hK => ?_) | ((first | refine hK _ _ _ ?_ | refine hK _ _ _ _ rfl ?_ | refine WX.thenExit (K := K) ?_); clear hK K) | (refine WX.thenExit (K := KL) ?_; clear hL KL)))
    have hR : ∀ (n : Int) (s : List UInt8) (f t : Ref2) (bad : Bool) (l1 : List UInt8) (v1 : Value), okNd (.mk (k : Int) n s f t []) → (bad = false → intP 8 l = some (k, r) ∧ pB k r = some ((n, s, f, t), l1)) → (bad = true → pN (d + 1) l = none) → WK 120 K { w := B, r := none, ds := [] } [(0, .pointer (some ⟨b, 0, none⟩)), (1, .int .i64 ((d + 1 : Nat) : Int)), (4, .pointer (some ⟨b4, 0, none⟩)), (5, .pointer (some ⟨b6, 0, none⟩)), (6, .int .i64 (cntK k : Nat))] (rd (Ty.sl Ty.u8) l1 v1 :: rd (Ty.sl nodeT) [] nlS :: rd (Ty.sl Ty.u8) l v :: Gf) (rBox b v1 bad :: box b6 73 (ndC (k : Int) n s f t nlS) :: box b4 73 ndZ :: Sf) := fun n s f t bad l1 v1 hok f2 f3 => hK _ _ _ (by
      clear hK
      (repeat (first | refine vgo ?_ | refine ⟨_, rfl, rfl, ?_⟩ | refine ⟨_, rfl, ?_⟩ | refine ⟨rfl, ?_⟩ | intro hb | refine go2 ?_ | refine WC.seq (fun K hK => ?_) | ((first | refine hK _ _ _ ?_ | refine hK _ _ _ _ rfl ?_ | refine WX.thenExit (K := K) ?_); clear hK K) | (refine WX.thenExit (K := KL) ?_; clear hL KL)))
      have hR2 : ∀ (cnt : Nat) (bad2 : Bool) (l2 : List UInt8) (v2 : Value), cnt ≤ 16 → (bad2 = false → intP 8 l = some (k, r) ∧ pB k r = some ((n, s, f, t), l1) ∧ pC k l1 = some (cnt, l2)) → (bad2 = true → pN (d + 1) l = none) → WK 120 K { w := B, r := none, ds := [] } [(0, .pointer (some ⟨b, 0, none⟩)), (1, .int .i64 ((d + 1 : Nat) : Int)), (4, .pointer (some ⟨b4, 0, none⟩)), (5, .pointer (some ⟨b6, 0, none⟩)), (6, .int .i64 (cnt : Nat))] (rd (Ty.sl Ty.u8) l2 v2 :: rd (Ty.sl nodeT) [] nlS :: rd (Ty.sl Ty.u8) l v :: Gf) (rBox b v2 bad2 :: box b6 73 (ndC (k : Int) n s f t nlS) :: box b4 73 ndZ :: Sf) := fun cnt bad2 l2 v2 hc16 g2 g3 => hK _ _ _ (by
        clear hK
        (repeat (first | refine vgo ?_ | refine ⟨_, rfl, rfl, ?_⟩ | refine ⟨_, rfl, ?_⟩ | refine ⟨rfl, ?_⟩ | intro hb | refine go2 ?_ | refine WC.seq (fun K hK => ?_) | ((first | refine hK _ _ _ ?_ | refine hK _ _ _ _ rfl ?_ | refine WX.thenExit (K := K) ?_); clear hK K) | (refine WX.thenExit (K := KL) ?_; clear hL KL)))
        refine WC.loop (I := BT) (fun x => [(0, .pointer (some ⟨b, 0, none⟩)), (1, .int .i64 ((d + 1 : Nat) : Int)), (4, .pointer (some ⟨b4, 0, none⟩)), (5, .pointer (some ⟨b6, 0, none⟩)), (6, .int .i64 (cnt : Nat)), (9, .int .i64 (x.i : Nat))]) (fun x => rdAll nodeT x.ns x.vs :: rd (Ty.sl Ty.u8) x.l x.v :: rd (Ty.sl nodeT) [] nlS :: rd (Ty.sl Ty.u8) l v :: Gf) (fun x => own 73 12 x.sv x.i (flat x.vs) :: box b6 73 (ndC (k : Int) n s f t x.sv) :: rBox b x.v x.bad :: box b4 73 ndZ :: Sf) (fun x => x.i ≤ cnt ∧ x.ns.length = x.i ∧ (x.bad = false → pL (pN d) x.i l2 = some (x.ns, x.l) ∧ intP 8 l = some (k, r) ∧ pB k r = some ((n, s, f, t), l1) ∧ pC k l1 = some (cnt, l2)) ∧ (x.bad = true → pN (d + 1) l = none)) (fun x => cnt - x.i) ⟨0, true, [], [], nlS, l2, v2, bad2⟩ ⟨Nat.zero_le _, rfl, fun q1 => ⟨rfl, g2 q1⟩, g3⟩ (.cons rfl (.cons rfl (.cons rfl (.cons rfl (.cons rfl (.cons rfl .nil)))))) (fun w h => by
          have h2 := Sat.rdAllNil nodeT (h.ownNil 73 12)
          dsimp only [flat_nil]
          exact h2.to) ?_
        rintro ⟨i, ok3, ns, vs, sv, l3, v3, bad3⟩ ⟨hi, hns, q2, q3⟩ KL hL
        dsimp only at hi hns q2 q3 ⊢
        by_cases g : i < cnt
        · cases bad3 with
          | true =>
            have nt : (!true) = false := rfl
            subst hns
            (repeat (first | refine vgo ?_ | refine ⟨_, rfl, rfl, ?_⟩ | refine ⟨_, rfl, ?_⟩ | refine ⟨rfl, ?_⟩ | intro hb | refine go2 ?_ | refine WC.seq (fun K hK => ?_) | ((first | refine hK _ _ _ ?_ | refine hK _ _ _ _ rfl ?_ | refine WX.thenExit (K := K) ?_); clear hK K) | (refine WX.thenExit (K := KL) ?_; clear hL KL)))
            exact WX.retCell rfl rfl (SelBox.h (b := b4)) rfl (fun w sw => ⟨[rd (Ty.sl nodeT) ns sv, rd (Ty.sl Ty.u8) l3 v3], [rBox b v3 true], ⟨.mk (k : Int) n s f t ns, sv, true, l3, v3, rfl, rfl, rfl, hok, fun h => (by cases h), q3⟩, (sw.pubR (R := nodeT) (l := ns) (v := sv) (vs := vs) SelOwn.h rfl rfl rfl (fun mm hm => hm (rdAll nodeT ns vs) InG.h)).to⟩)
          | false =>
            have nt : (!false) = true := rfl
            have hd1 : ((d + 1 : Nat) : Int) - 1 = ((d : Nat) : Int) := by omega
            (repeat (first | refine vgo ?_ | refine ⟨_, rfl, rfl, ?_⟩ | refine ⟨_, rfl, ?_⟩ | refine ⟨rfl, ?_⟩ | intro hb | refine go2 ?_ | refine WC.seq (fun K hK => ?_) | ((first | refine hK _ _ _ ?_ | refine hK _ _ _ _ rfl ?_ | refine WX.thenExit (K := K) ?_); clear hK K) | (refine WX.thenExit (K := KL) ?_; clear hL KL)))
            refine WC.drawV (S := (box b4 73 ndZ :: Sf)) ([[box b6 73 (ndC (k : Int) n s f t sv)], [own 73 12 sv i (flat vs)], [rBox b v3 false]]) rfl (by repeat (first | exact Wo.nil | (apply Wo.keep; exact rfl) | (apply Wo.drop; exact rfl))) (fun w sw => by (try simp only [List.flatten_cons, List.flatten_nil, List.append_nil, List.cons_append, List.nil_append]); exact sw.to) ?_; (try dsimp only [chunks])
            (repeat (first | refine ObP3.c0A ?_ | (apply ObP3.cons1 [1000] []; (focus ((repeat (intro _)); (conv => whnf); (try dsimp only [envO, List.cons_append, List.nil_append]); (repeat (first | refine vgo ?_ | refine ⟨_, rfl, rfl, ?_⟩ | refine ⟨_, rfl, ?_⟩ | refine ⟨rfl, ?_⟩ | intro hb | refine go2 ?_ | refine WC.seq (fun K hK => ?_) | ((first | refine hK _ _ _ ?_ | refine hK _ _ _ _ rfl ?_ | refine WX.thenExit (K := K) ?_); clear hK K) | (refine WX.thenExit (K := KL) ?_; clear hL KL))); first | exact WX.pgIs rfl | exact WX.pgRd rfl | exact WX.pgCell rfl | exact WX.pgNone | exact WX.pgOwn rfl)); exact rfl))); try (refine ObP3.nil ?_; (repeat (intro _)); (conv => whnf); (try dsimp only [envO, List.cons_append, List.nil_append]))
            refine ObP3.cons1 [] [1002] (.ex (RX d l3) (fun p => rxV p) (fun p => [rd (Ty.sl nodeT) (rxA p).ar (rxU p), rd (Ty.sl Ty.u8) (rxL p) (rxW p)]) (fun p => [rBox b (rxW p) (rxB p)])) ?_ rfl ?_
            · (repeat (intro _)); (conv => whnf); (try dsimp only [envO, List.cons_append, List.nil_append])
              (repeat (first | refine vgo ?_ | refine ⟨_, rfl, rfl, ?_⟩ | refine ⟨_, rfl, ?_⟩ | refine ⟨rfl, ?_⟩ | intro hb | refine go2 ?_ | refine WC.seq (fun K hK => ?_) | ((first | refine hK _ _ _ ?_ | refine hK _ _ _ _ rfl ?_ | refine WX.thenExit (K := K) ?_); clear hK K) | (refine WX.thenExit (K := KL) ?_; clear hL KL)))
              rw [hd1]
              refine CallV.by' (ih l3 v3) ?_; rintro _ _ _ ⟨a, u, bad4, l4, v4, rfl, rfl, rfl, hoa, t1, t2⟩; (try simp only [List.cons_append]); (try simp only [List.nil_append])
              (repeat (first | refine vgo ?_ | refine ⟨_, rfl, rfl, ?_⟩ | refine ⟨_, rfl, ?_⟩ | refine ⟨rfl, ?_⟩ | intro hb | refine go2 ?_ | refine WC.seq (fun K hK => ?_) | ((first | refine hK _ _ _ ?_ | refine hK _ _ _ _ rfl ?_ | refine WX.thenExit (K := K) ?_); clear hK K) | (refine WX.thenExit (K := KL) ?_; clear hL KL)))
              exact WX.pgEx (fv := fun p : RX d l3 => rxV p) ⟨(a, u, bad4, l4, v4), hoa, t1, t2⟩ rfl (fun w sw => sw.to)
            refine ObP3.cons1 [] [] (.ex (Value × RX d l3) (fun p => p.1) (fun p => [rd (Ty.sl nodeT) (rxA p.2).ar (rxU p.2)]) (fun p => [own 73 12 p.1 1 (rxC p.2)])) ?_ rfl ?_
            · (repeat (intro _)); (conv => whnf); (try dsimp only [envO, List.cons_append, List.nil_append])
              (repeat (first | refine vgo ?_ | refine ⟨_, rfl, rfl, ?_⟩ | refine ⟨_, rfl, ?_⟩ | refine ⟨rfl, ?_⟩ | intro hb | refine go2 ?_ | refine WC.seq (fun K hK => ?_) | ((first | refine hK _ _ _ ?_ | refine hK _ _ _ _ rfl ?_ | refine WX.thenExit (K := K) ?_); clear hK K) | (refine WX.thenExit (K := KL) ?_; clear hL KL)))
              simp only [List.append_nil]
              exact WX.pgEx (fv := fun p : Value × RX d l3 => p.1) (hb, (‹RX d l3› : RX d l3)) rfl (fun w sw => sw.to)
            refine ObP3.cons1 [] [6, 1001] (.ex (Value × RX d l3) (fun p => p.1) (fun p => [rd (Ty.sl nodeT) (rxA p.2).ar (rxU p.2)]) (fun p => [own 73 12 p.1 (i + 1) (flat vs ++ rxC p.2)])) ?_ rfl ?_
            · (repeat (intro _)); (conv => whnf); (try dsimp only [envO, List.cons_append, List.nil_append])
              (repeat (first | refine vgo ?_ | refine ⟨_, rfl, rfl, ?_⟩ | refine ⟨_, rfl, ?_⟩ | refine ⟨rfl, ?_⟩ | intro hb | refine go2 ?_ | refine WC.seq (fun K hK => ?_) | ((first | refine hK _ _ _ ?_ | refine hK _ _ _ _ rfl ?_ | refine WX.thenExit (K := K) ?_); clear hK K) | (refine WX.thenExit (K := KL) ?_; clear hL KL)))
              exact WX.pgEx (fv := fun p : Value × RX d l3 => p.1) (hb, (‹Value × RX d l3› : Value × RX d l3).2) rfl (fun w sw => sw.to)
            (repeat refine ObP3.c0B ?_); try (refine ObP3.nil ?_; (repeat (intro _)); (conv => whnf); (try dsimp only [envO, List.cons_append, List.nil_append]))
            refine ObP3.cons1 [] [7, 1000] (.ex (Value × RX d l3) (fun _ => undef) (fun p => [rd (Ty.sl nodeT) (rxA p.2).ar (rxU p.2)]) (fun p => [own 73 12 p.1 (i + 1) (flat vs ++ rxC p.2), box b6 73 (ndC (k : Int) n s f t p.1)])) ?_ rfl ?_
            · (repeat (intro _)); (conv => whnf); (try dsimp only [envO, List.cons_append, List.nil_append])
              (repeat (first | refine vgo ?_ | refine ⟨_, rfl, rfl, ?_⟩ | refine ⟨_, rfl, ?_⟩ | refine ⟨rfl, ?_⟩ | intro hb | refine go2 ?_ | refine WC.seq (fun K hK => ?_) | ((first | refine hK _ _ _ ?_ | refine hK _ _ _ _ rfl ?_ | refine WX.thenExit (K := K) ?_); clear hK K) | (refine WX.thenExit (K := KL) ?_; clear hL KL)))
              rename_i p9 _ _ _ _ _
              exact WX.pgEx0 p9 (fun w sw => sw.to)
            (repeat refine ObP3.c0B ?_); try (refine ObP3.nil ?_; (repeat (intro _)); (conv => whnf); (try dsimp only [envO, List.cons_append, List.nil_append]))
            (repeat (first | refine vgo ?_ | refine ⟨_, rfl, rfl, ?_⟩ | refine ⟨_, rfl, ?_⟩ | refine ⟨rfl, ?_⟩ | intro hb | refine go2 ?_ | refine WC.seq (fun K hK => ?_) | ((first | refine hK _ _ _ ?_ | refine hK _ _ _ _ rfl ?_ | refine WX.thenExit (K := K) ?_); clear hK K) | (refine WX.thenExit (K := KL) ?_; clear hL KL)))
            rename_i q _ _ p _ _ _
            obtain ⟨p1, p2, p3, p4⟩ := q2 rfl
            refine (hL ⟨i + 1, true, ns ++ [rxA q.2], vs ++ [rxV q.2], q.1, rxL p, rxW p, rxB p⟩ ⟨g, by dsimp only; rw [List.length_append, hns]; rfl, fun h => ⟨pL_snoc p1 ((RX.get p q.2).1 h), p2, p3, p4⟩, fun h => ?_⟩ (by dsimp only; omega)).conv (.cons rfl (.cons rfl (.cons rfl (.cons rfl (.cons rfl (.cons rfl .nil)))))) (fun w h => ?_)
            · rw [pN_eq p2, p3, Option.bind_some]
              dsimp only
              rw [p4, Option.bind_some]
              dsimp only
              rw [pL_fail p1 g ((RX.get p q.2).2 h)]
              rfl
            · dsimp only
              rw [flat_snoc, show (rxV q.2).cells.toList = rxC q.2 from rfl]
              have h2 := h.more (p := rdAll nodeT (ns ++ [rxA q.2]) (vs ++ [rxV q.2])) (fun m hm => AllR.snoc (hm (rdAll nodeT ns vs) InG.h) (node_mk q.2.2.1 (hm (rd (Ty.sl nodeT) (rxA q.2).ar (rxU q.2)) InG.h)))
              exact h2.to
        · obtain rfl : i = cnt := by omega
          subst hns
          (repeat (first | refine vgo ?_ | refine ⟨_, rfl, rfl, ?_⟩ | refine ⟨_, rfl, ?_⟩ | refine ⟨rfl, ?_⟩ | intro hb | refine go2 ?_ | refine WC.seq (fun K hK => ?_) | ((first | refine hK _ _ _ ?_ | refine hK _ _ _ _ rfl ?_ | refine WX.thenExit (K := K) ?_); clear hK K) | (refine WX.thenExit (K := KL) ?_; clear hL KL)))
          exact WX.retCell rfl rfl (SelBox.h (b := b4)) rfl (fun w sw => ⟨[rd (Ty.sl nodeT) ns sv, rd (Ty.sl Ty.u8) l3 v3], [rBox b v3 bad3], ⟨.mk (k : Int) n s f t ns, sv, bad3, l3, v3, rfl, rfl, rfl, hok, fun h => by
            obtain ⟨p1, p2, p3, p4⟩ := q2 h
            rw [pN_eq p2, p3, Option.bind_some]
            dsimp only
            rw [p4, Option.bind_some]
            dsimp only
            rw [p1]
            rfl, q3⟩, (sw.pubR (R := nodeT) (l := ns) (v := sv) (vs := vs) SelOwn.h rfl rfl rfl (fun mm hm => hm (rdAll nodeT ns vs) InG.h)).to⟩))
      clear hK
      by_cases k7 : (k : Int) = 7
      · have k7n : k = 7 := by omega
        (repeat (first | refine vgo ?_ | refine ⟨_, rfl, rfl, ?_⟩ | refine ⟨_, rfl, ?_⟩ | refine ⟨rfl, ?_⟩ | intro hb | refine go2 ?_ | refine WC.seq (fun K hK => ?_) | ((first | refine hK _ _ _ ?_ | refine hK _ _ _ _ rfl ?_ | refine WX.thenExit (K := K) ?_); clear hK K) | (refine WX.thenExit (K := KL) ?_; clear hL KL)))
        refine CallV.by' (r11num_fun b v1 l1 bad 16) ?_; rintro _ _ _ ⟨rfl, v2, rfl, rfl⟩; (try simp only [List.cons_append]); (try simp only [List.nil_append])
        cases bad with
        | true =>
          rw [rnR_bad]
          dsimp only
          (repeat (first | refine vgo ?_ | refine ⟨_, rfl, rfl, ?_⟩ | refine ⟨_, rfl, ?_⟩ | refine ⟨rfl, ?_⟩ | intro hb | refine go2 ?_ | refine WC.seq (fun K hK => ?_) | ((first | refine hK _ _ _ ?_ | refine hK _ _ _ _ rfl ?_ | refine WX.thenExit (K := K) ?_); clear hK K) | (refine WX.thenExit (K := KL) ?_; clear hL KL)))
          exact (hR2 0 true l1 v2 (by omega) (fun h => (by cases h)) (fun _ => f3 rfl)).conv (.cons rfl (.cons rfl (.cons rfl (.cons rfl (.cons rfl .nil))))) (fun w h => h.to)
        | false =>
          cases hc : intP 16 l1 with
          | none =>
            rw [rnR_none hc]
            dsimp only
            (repeat (first | refine vgo ?_ | refine ⟨_, rfl, rfl, ?_⟩ | refine ⟨_, rfl, ?_⟩ | refine ⟨rfl, ?_⟩ | intro hb | refine go2 ?_ | refine WC.seq (fun K hK => ?_) | ((first | refine hK _ _ _ ?_ | refine hK _ _ _ _ rfl ?_ | refine WX.thenExit (K := K) ?_); clear hK K) | (refine WX.thenExit (K := KL) ?_; clear hL KL)))
            exact (hR2 0 true l1 v2 (by omega) (fun h => (by cases h)) (fun _ => by rw [pN_eq (f2 rfl).1, (f2 rfl).2, Option.bind_some]; dsimp only; rw [pC, if_pos k7n, hc]; rfl)).conv (.cons rfl (.cons rfl (.cons rfl (.cons rfl (.cons rfl .nil))))) (fun w h => h.to)
          | some q =>
            obtain ⟨c, l2⟩ := q
            have hc16 := intP_le hc
            rw [rnR_some hc]
            dsimp only
            (repeat (first | refine vgo ?_ | refine ⟨_, rfl, rfl, ?_⟩ | refine ⟨_, rfl, ?_⟩ | refine ⟨rfl, ?_⟩ | intro hb | refine go2 ?_ | refine WC.seq (fun K hK => ?_) | ((first | refine hK _ _ _ ?_ | refine hK _ _ _ _ rfl ?_ | refine WX.thenExit (K := K) ?_); clear hK K) | (refine WX.thenExit (K := KL) ?_; clear hL KL)))
            exact (hR2 c false l2 v2 hc16 (fun _ => ⟨(f2 rfl).1, (f2 rfl).2, by rw [pC, if_pos k7n, hc]⟩) (fun h => (by cases h))).conv (.cons rfl (.cons rfl (.cons rfl (.cons rfl (.cons rfl .nil))))) (fun w h => h.to)
      · have k7n : ¬ k = 7 := by omega
        (repeat (first | refine vgo ?_ | refine ⟨_, rfl, rfl, ?_⟩ | refine ⟨_, rfl, ?_⟩ | refine ⟨rfl, ?_⟩ | intro hb | refine go2 ?_ | refine WC.seq (fun K hK => ?_) | ((first | refine hK _ _ _ ?_ | refine hK _ _ _ _ rfl ?_ | refine WX.thenExit (K := K) ?_); clear hK K) | (refine WX.thenExit (K := KL) ?_; clear hL KL)))
        exact (hR2 (cntK k) bad l1 v1 (by unfold cntK; split; · omega
                                          split <;> omega) (fun q1 => ⟨(f2 q1).1, (f2 q1).2, by rw [pC, if_neg k7n]⟩) f3).conv (.cons rfl (.cons rfl (.cons rfl (.cons rfl (.cons rfl .nil))))) (fun w h => h.to))
    clear hK
    by_cases k0 : k = 0
    · have ki : (k : Int) = 0 := by omega
      have hno : pN (d + 1) l = none := by
        cases bad0 with
        | true => rw [pN, (c1 rfl).2]; rfl
        | false => rw [pN_eq (c2 rfl), pB, if_pos k0]; rfl
      (repeat (first | refine vgo ?_ | refine ⟨_, rfl, rfl, ?_⟩ | refine ⟨_, rfl, ?_⟩ | refine ⟨rfl, ?_⟩ | intro hb | refine go2 ?_ | refine WC.seq (fun K hK => ?_) | ((first | refine hK _ _ _ ?_ | refine hK _ _ _ _ rfl ?_ | refine WX.thenExit (K := K) ?_); clear hK K) | (refine WX.thenExit (K := KL) ?_; clear hL KL)))
      refine (hR 0 [] z2 z2 true r v1 (okBd_nd (b := (0, [], z2, z2)) hk8 ⟨okI0, Nat.zero_le _, okz2, okz2⟩) (fun h => (by cases h)) (fun _ => hno)).conv (.cons rfl (.cons rfl (.cons rfl (.cons rfl (.cons rfl .nil))))) (fun w h => ?_)
      have h3 : Sat B (_ :: rd (Ty.sl Ty.u8) r v1 :: _) (rBox b v1 true :: box b6 73 (ndC (k : Int) 0 [] z2 z2 nlS) :: box b4 73 ndZ :: Sf) w := h
      exact h3.to
    have ki0 : ¬ (k : Int) = 0 := by omega
    have hb0 : bad0 = false := by
      cases bad0 with
      | false => rfl
      | true => exact absurd (c1 rfl).1 k0
    have hk := c2 hb0
    have hpn := pN_eq (d := d) hk
    have hnone : pB k r = none → pN (d + 1) l = none := fun e => by rw [hpn, e]; rfl
    obtain rfl := hb0
    by_cases c1 : k = 1
    · have k1 : (k : Int) = 1 := by omega
      have hpk : pB k r = (numP r).bind fun p => some ((toI p.1, [], z2, z2), p.2) := by rw [pB, if_neg k0, if_pos c1]
      (repeat (first | refine vgo ?_ | refine ⟨_, rfl, rfl, ?_⟩ | refine ⟨_, rfl, ?_⟩ | refine ⟨rfl, ?_⟩ | intro hb | refine go2 ?_ | refine WC.seq (fun K hK => ?_) | ((first | refine hK _ _ _ ?_ | refine hK _ _ _ _ rfl ?_ | refine WX.thenExit (K := K) ?_); clear hK K) | (refine WX.thenExit (K := KL) ?_; clear hL KL)))
      refine CallV.by' (r11num_fun b v1 r false 18446744073709551615) ?_; rintro _ _ _ ⟨rfl, v2, rfl, rfl⟩; (try simp only [List.cons_append]); (try simp only [List.nil_append])
      (repeat (first | refine vgo ?_ | refine ⟨_, rfl, rfl, ?_⟩ | refine ⟨_, rfl, ?_⟩ | refine ⟨rfl, ?_⟩ | intro hb | refine go2 ?_ | refine WC.seq (fun K hK => ?_) | ((first | refine hK _ _ _ ?_ | refine hK _ _ _ _ rfl ?_ | refine WX.thenExit (K := K) ?_); clear hK K) | (refine WX.thenExit (K := KL) ?_; clear hL KL)))
      cases hn : numP r with
      | none =>
        have hno := hnone (by rw [hpk, hn]; rfl)
        rw [rnR_none (by rw [intP_max]; exact hn)]
        dsimp only
        refine (hR (toI 0) [] z2 z2 true r v2 (okBd_nd (b := (toI 0, [], z2, z2)) hk8 ⟨okI_toI 0, Nat.zero_le _, okz2, okz2⟩) (fun h => (by cases h)) (fun _ => hno)).conv (.cons rfl (.cons rfl (.cons rfl (.cons rfl (.cons rfl .nil))))) (fun w h => ?_)
        have h3 : Sat B (rd (Ty.sl Ty.u8) r v2 :: _) (box b6 73 (ndC (k : Int) (toI 0) [] z2 z2 nlS) :: rBox b v2 true :: box b4 73 ndZ :: Sf) w := h
        exact h3.to
      | some q =>
        obtain ⟨m, l1⟩ := q
        have hB : pB k r = some ((toI m, [], z2, z2), l1) := by rw [hpk, hn]; rfl
        rw [rnR_some (r := l1) (n := m) (by rw [intP_max]; exact hn)]
        dsimp only
        refine (hR (toI m) [] z2 z2 false l1 v2 (okBd_nd (b := (toI m, [], z2, z2)) hk8 (pB_ok hB)) (fun _ => ⟨hk, hB⟩) (fun h => (by cases h))).conv (.cons rfl (.cons rfl (.cons rfl (.cons rfl (.cons rfl .nil))))) (fun w h => ?_)
        have h3 : Sat B (rd (Ty.sl Ty.u8) l1 v2 :: _) (box b6 73 (ndC (k : Int) (toI m) [] z2 z2 nlS) :: rBox b v2 false :: box b4 73 ndZ :: Sf) w := h
        exact h3.to
    have k1 : ¬ (k : Int) = 1 := by omega
    by_cases c2 : k = 2 ∨ k = 6 ∨ k = 7
    · have hpk : pB k r = (bytP r).bind fun p => some ((0, p.1, z2, z2), p.2) := by rw [pB, if_neg k0, if_neg c1, if_pos c2]
      have hrl := runR_le r
      have hB : decide (((runR r).2 : Int) = 0) = false → intP 8 l = some (k, r) ∧ pB k r = some ((0, (runR r).1, z2, z2), r.drop (runR r).2) := fun h => ⟨hk, by
        have h := of_decide_eq_false h
        rw [hpk, bytP, if_neg (by omega)]; rfl⟩
      have hno : decide (((runR r).2 : Int) = 0) = true → pN (d + 1) l = none := fun h => hnone (by
        have h := of_decide_eq_true h
        rw [hpk, bytP, if_pos (by omega)]; rfl)
      rcases c2 with c2 | c2 | c2
      · have k2 : (k : Int) = 2 := by omega
        (repeat (first | refine vgo ?_ | refine ⟨_, rfl, rfl, ?_⟩ | refine ⟨_, rfl, ?_⟩ | refine ⟨rfl, ?_⟩ | intro hb | refine go2 ?_ | refine WC.seq (fun K hK => ?_) | ((first | refine hK _ _ _ ?_ | refine hK _ _ _ _ rfl ?_ | refine WX.thenExit (K := K) ?_); clear hK K) | (refine WX.thenExit (K := KL) ?_; clear hL KL)))
        refine CallV.by' (rrun_fun r v1) ?_; rintro _ _ _ ⟨rfl, u1, rfl, rfl⟩; (try simp only [List.cons_append]); (try simp only [List.nil_append])
        (repeat (first | refine vgo ?_ | refine ⟨_, rfl, rfl, ?_⟩ | refine ⟨_, rfl, ?_⟩ | refine ⟨rfl, ?_⟩ | intro hb | refine go2 ?_ | refine WC.seq (fun K hK => ?_) | ((first | refine hK _ _ _ ?_ | refine hK _ _ _ _ rfl ?_ | refine WX.thenExit (K := K) ?_); clear hK K) | (refine WX.thenExit (K := KL) ?_; clear hL KL)))
        refine (hR 0 (runR r).1 z2 z2 (decide (((runR r).2 : Int) = 0)) (r.drop (runR r).2) hb (okBd_nd (b := (0, (runR r).1, z2, z2)) hk8 ⟨okI0, runR_len r, okz2, okz2⟩) hB hno).conv (.cons rfl (.cons rfl (.cons rfl (.cons rfl (.cons rfl .nil))))) (fun w h => ?_)
        have h3 : Sat B (rd (Ty.sl Ty.u8) (r.drop (runR r).2) hb :: _) (rBox b hb (decide (((runR r).2 : Int) = 0)) :: box b6 73 (ndC (k : Int) 0 (runR r).1 z2 z2 nlS) :: box b4 73 ndZ :: Sf) w := h
        exact h3.to
      · have k2 : (k : Int) = 6 := by omega
        (repeat (first | refine vgo ?_ | refine ⟨_, rfl, rfl, ?_⟩ | refine ⟨_, rfl, ?_⟩ | refine ⟨rfl, ?_⟩ | intro hb | refine go2 ?_ | refine WC.seq (fun K hK => ?_) | ((first | refine hK _ _ _ ?_ | refine hK _ _ _ _ rfl ?_ | refine WX.thenExit (K := K) ?_); clear hK K) | (refine WX.thenExit (K := KL) ?_; clear hL KL)))
        refine CallV.by' (rrun_fun r v1) ?_; rintro _ _ _ ⟨rfl, u1, rfl, rfl⟩; (try simp only [List.cons_append]); (try simp only [List.nil_append])
        (repeat (first | refine vgo ?_ | refine ⟨_, rfl, rfl, ?_⟩ | refine ⟨_, rfl, ?_⟩ | refine ⟨rfl, ?_⟩ | intro hb | refine go2 ?_ | refine WC.seq (fun K hK => ?_) | ((first | refine hK _ _ _ ?_ | refine hK _ _ _ _ rfl ?_ | refine WX.thenExit (K := K) ?_); clear hK K) | (refine WX.thenExit (K := KL) ?_; clear hL KL)))
        refine (hR 0 (runR r).1 z2 z2 (decide (((runR r).2 : Int) = 0)) (r.drop (runR r).2) hb (okBd_nd (b := (0, (runR r).1, z2, z2)) hk8 ⟨okI0, runR_len r, okz2, okz2⟩) hB hno).conv (.cons rfl (.cons rfl (.cons rfl (.cons rfl (.cons rfl .nil))))) (fun w h => ?_)
        have h3 : Sat B (rd (Ty.sl Ty.u8) (r.drop (runR r).2) hb :: _) (rBox b hb (decide (((runR r).2 : Int) = 0)) :: box b6 73 (ndC (k : Int) 0 (runR r).1 z2 z2 nlS) :: box b4 73 ndZ :: Sf) w := h
        exact h3.to
      · have k2 : (k : Int) = 7 := by omega
        (repeat (first | refine vgo ?_ | refine ⟨_, rfl, rfl, ?_⟩ | refine ⟨_, rfl, ?_⟩ | refine ⟨rfl, ?_⟩ | intro hb | refine go2 ?_ | refine WC.seq (fun K hK => ?_) | ((first | refine hK _ _ _ ?_ | refine hK _ _ _ _ rfl ?_ | refine WX.thenExit (K := K) ?_); clear hK K) | (refine WX.thenExit (K := KL) ?_; clear hL KL)))
        refine CallV.by' (rrun_fun r v1) ?_; rintro _ _ _ ⟨rfl, u1, rfl, rfl⟩; (try simp only [List.cons_append]); (try simp only [List.nil_append])
        (repeat (first | refine vgo ?_ | refine ⟨_, rfl, rfl, ?_⟩ | refine ⟨_, rfl, ?_⟩ | refine ⟨rfl, ?_⟩ | intro hb | refine go2 ?_ | refine WC.seq (fun K hK => ?_) | ((first | refine hK _ _ _ ?_ | refine hK _ _ _ _ rfl ?_ | refine WX.thenExit (K := K) ?_); clear hK K) | (refine WX.thenExit (K := KL) ?_; clear hL KL)))
        refine (hR 0 (runR r).1 z2 z2 (decide (((runR r).2 : Int) = 0)) (r.drop (runR r).2) hb (okBd_nd (b := (0, (runR r).1, z2, z2)) hk8 ⟨okI0, runR_len r, okz2, okz2⟩) hB hno).conv (.cons rfl (.cons rfl (.cons rfl (.cons rfl (.cons rfl .nil))))) (fun w h => ?_)
        have h3 : Sat B (rd (Ty.sl Ty.u8) (r.drop (runR r).2) hb :: _) (rBox b hb (decide (((runR r).2 : Int) = 0)) :: box b6 73 (ndC (k : Int) 0 (runR r).1 z2 z2 nlS) :: box b4 73 ndZ :: Sf) w := h
        exact h3.to
    have k2 : ¬ (k : Int) = 2 := by omega
    have k6 : ¬ (k : Int) = 6 := by omega
    have k7 : ¬ (k : Int) = 7 := by omega
    by_cases c3 : k = 3
    · have k3 : (k : Int) = 3 := by omega
      have hpk : pB k r = (rfP r).bind fun p => some ((0, [], p.1, z2), p.2) := by rw [pB, if_neg k0, if_neg c1, if_neg c2, if_pos c3]
      (repeat (first | refine vgo ?_ | refine ⟨_, rfl, rfl, ?_⟩ | refine ⟨_, rfl, ?_⟩ | refine ⟨rfl, ?_⟩ | intro hb | refine go2 ?_ | refine WC.seq (fun K hK => ?_) | ((first | refine hK _ _ _ ?_ | refine hK _ _ _ _ rfl ?_ | refine WX.thenExit (K := K) ?_); clear hK K) | (refine WX.thenExit (K := KL) ?_; clear hL KL)))
      refine CallV.by' (pair3_fun b v1 r false) ?_; rintro _ _ _ ⟨x, l1, v2, bad1, rfl, rfl, rfl, hox, x1, x2⟩; (try simp only [List.cons_append]); (try simp only [List.nil_append])
      (repeat (first | refine vgo ?_ | refine ⟨_, rfl, rfl, ?_⟩ | refine ⟨_, rfl, ?_⟩ | refine ⟨rfl, ?_⟩ | intro hb | refine go2 ?_ | refine WC.seq (fun K hK => ?_) | ((first | refine hK _ _ _ ?_ | refine hK _ _ _ _ rfl ?_ | refine WX.thenExit (K := K) ?_); clear hK K) | (refine WX.thenExit (K := KL) ?_; clear hL KL)))
      have hno1 : bad1 = true → pN (d + 1) l = none := fun hb1 => hnone (by
        rcases x1 hb1 with h | h
        · cases h
        · rw [hpk, h]; rfl)
      have hB : bad1 = false → pB k r = some ((0, [], x, z2), l1) := fun hb1 => by rw [hpk, (x2 hb1).2]; rfl
      refine (hR 0 [] x z2 bad1 l1 v2 (okBd_nd (b := (0, [], x, z2)) hk8 ⟨okI0, Nat.zero_le _, hox, okz2⟩) (fun h => ⟨hk, hB h⟩) hno1).conv (.cons rfl (.cons rfl (.cons rfl (.cons rfl (.cons rfl .nil))))) (fun w h => ?_)
      have h3 : Sat B (rd (Ty.sl Ty.u8) l1 v2 :: _) (box b6 73 (ndC (k : Int) 0 [] x z2 nlS) :: rBox b v2 bad1 :: box b4 73 ndZ :: Sf) w := h
      exact h3.to
    have k3 : ¬ (k : Int) = 3 := by omega
    by_cases c4 : k = 4
    · have k4 : (k : Int) = 4 := by omega
      have hpk : pB k r = (rfP r).bind fun p => (rfP p.2).bind fun q => some ((0, [], p.1, q.1), q.2) := by rw [pB, if_neg k0, if_neg c1, if_neg c2, if_neg c3, if_pos c4]
      (repeat (first | refine vgo ?_ | refine ⟨_, rfl, rfl, ?_⟩ | refine ⟨_, rfl, ?_⟩ | refine ⟨rfl, ?_⟩ | intro hb | refine go2 ?_ | refine WC.seq (fun K hK => ?_) | ((first | refine hK _ _ _ ?_ | refine hK _ _ _ _ rfl ?_ | refine WX.thenExit (K := K) ?_); clear hK K) | (refine WX.thenExit (K := KL) ?_; clear hL KL)))
      refine CallV.by' (pair3_fun b v1 r false) ?_; rintro _ _ _ ⟨x, l1, v2, bad1, rfl, rfl, rfl, hox, x1, x2⟩; (try simp only [List.cons_append]); (try simp only [List.nil_append])
      (repeat (first | refine vgo ?_ | refine ⟨_, rfl, rfl, ?_⟩ | refine ⟨_, rfl, ?_⟩ | refine ⟨rfl, ?_⟩ | intro hb | refine go2 ?_ | refine WC.seq (fun K hK => ?_) | ((first | refine hK _ _ _ ?_ | refine hK _ _ _ _ rfl ?_ | refine WX.thenExit (K := K) ?_); clear hK K) | (refine WX.thenExit (K := KL) ?_; clear hL KL)))
      refine CallV.by' (pair3_fun b v2 l1 bad1) ?_; rintro _ _ _ ⟨y, l2, v3, bad2, rfl, rfl, rfl, hoy, y1, y2⟩; (try simp only [List.cons_append]); (try simp only [List.nil_append])
      (repeat (first | refine vgo ?_ | refine ⟨_, rfl, rfl, ?_⟩ | refine ⟨_, rfl, ?_⟩ | refine ⟨rfl, ?_⟩ | intro hb | refine go2 ?_ | refine WC.seq (fun K hK => ?_) | ((first | refine hK _ _ _ ?_ | refine hK _ _ _ _ rfl ?_ | refine WX.thenExit (K := K) ?_); clear hK K) | (refine WX.thenExit (K := KL) ?_; clear hL KL)))
      have hno1 : bad2 = true → pN (d + 1) l = none := fun hb1 => hnone (by
        cases hb2 : bad1 with
        | true =>
          rcases x1 hb2 with h | h
          · cases h
          · rw [hpk, h]; rfl
        | false =>
          rw [hpk, (x2 hb2).2, Option.bind_some]
          rcases y1 hb1 with h | h
          · rw [hb2] at h; cases h
          · dsimp only; rw [h]; rfl)
      have hB : bad2 = false → pB k r = some ((0, [], x, y), l2) := fun hb1 => by
        rw [hpk, (x2 (y2 hb1).1).2, Option.bind_some]
        dsimp only
        rw [(y2 hb1).2]
        rfl
      refine (hR 0 [] x y bad2 l2 v3 (okBd_nd (b := (0, [], x, y)) hk8 ⟨okI0, Nat.zero_le _, hox, hoy⟩) (fun h => ⟨hk, hB h⟩) hno1).conv (.cons rfl (.cons rfl (.cons rfl (.cons rfl (.cons rfl .nil))))) (fun w h => ?_)
      have h3 : Sat B (rd (Ty.sl Ty.u8) l2 v3 :: _) (box b6 73 (ndC (k : Int) 0 [] x y nlS) :: rBox b v3 bad2 :: box b4 73 ndZ :: Sf) w := h
      exact h3.to
    have k4 : ¬ (k : Int) = 4 := by omega
    have hB : pB k r = some ((0, [], z2, z2), r) := by rw [pB, if_neg k0, if_neg c1, if_neg c2, if_neg c3, if_neg c4]
    (repeat (first | refine vgo ?_ | refine ⟨_, rfl, rfl, ?_⟩ | refine ⟨_, rfl, ?_⟩ | refine ⟨rfl, ?_⟩ | intro hb | refine go2 ?_ | refine WC.seq (fun K hK => ?_) | ((first | refine hK _ _ _ ?_ | refine hK _ _ _ _ rfl ?_ | refine WX.thenExit (K := K) ?_); clear hK K) | (refine WX.thenExit (K := KL) ?_; clear hL KL)))
    refine (hR 0 [] z2 z2 false r v1 (okBd_nd (b := (0, [], z2, z2)) hk8 (pB_ok hB)) (fun _ => ⟨hk, hB⟩) (fun h => (by cases h))).conv (.cons rfl (.cons rfl (.cons rfl (.cons rfl (.cons rfl .nil))))) (fun w h => ?_)
    have h3 : Sat B (_ :: rd (Ty.sl Ty.u8) r v1 :: _) (box b6 73 (ndC (k : Int) 0 [] z2 z2 nlS) :: rBox b v1 false :: box b4 73 ndZ :: Sf) w := h
    exact h3.to
end
/-! ### The document's formulas and contents taken from bytes. -/
section
open Go Go.Proofs
section
variable {P : Program} {n : Nat} {B : Base} {env : Env} {G : List Pers} {S S' : List Res} {fn : Func} {F : Value → World → Prop} {T E : TypeId} {v1 v2 : Value} {cs : List Value}
theorem WX.retC3K {t u1 u2 b s : Nat} [hClean : Clean B] (hr : fn.results = #[.cell t T, .tmp u1, .tmp u2]) (hv : env.get t = some (.pointer (some ⟨b, 0, none⟩))) (hu : env.get u1 = some v1) (hw : env.get u2 = some v2) [hm : SelBox b S E cs S'] [hT : TA P T true] [hs : TS P T s] (hl : cs.length = s) (h : ∀ w, Sat B G S w → F (.tuple #[.agg cs.toArray, v1, v2]) w) :
    WX n (FPost P fn F) .ret B env G S :=
  ⟨fun a w sa sw => by
    have h1 := sa.get t _ hv
    have h2 := sa.get u1 _ hu
    have h5 := sa.get u2 _ hw
    have h3 := run_loadVar_agg (P := P) (T := T) w (a := ⟨b, 0, none⟩) (cs := cs) hT.h (by rw [hs.h, ← hl]) (fun j c hj => by rw [Addr.add_none, sw.box_cell hm.h, Nat.zero_add]; exact hj)
    have h4 : (results fn a.tmps).run P w = .ok (.tuple #[.agg cs.toArray, v1, v2]) w := by
      simp [results, hr, h1, h2, h5, asAddr, h3]
    exact FEnd.clean (sa.defers.trans hClean.h) ⟨_, h4, _, rfl, h w sw⟩⟩
end
set_option maxRecDepth 100000 in
set_option maxHeartbeats 3200000 in
theorem r11take_fun (l : List UInt8) (v : Value) : Fun Tryz.prog 62 [v] [rd (Ty.sl Ty.u8) l v] [] (fun z G S => ∃ (a : Nd) (u : Value), z = .tuple #[ndV a.k a.n a.s a.f a.t u, .int .i64 (((bkP l).map fun p => p.2.length).getD 0 : Nat), .bool (bkP l).isSome] ∧ G = [rd (Ty.sl nodeT) a.ar u] ∧ S = [] ∧ a = ((bkP l).map Prod.fst).getD zNt) := by
  refine Fun.enter Tryz.func62 (by kernel_rfl) rfl Tryz.ntmps62 rfl (fun B Gf Sf => ?_); (try simp only [List.cons_append]); (try simp only [List.nil_append]); simp only [argEnv]
  refine WC.sat (fun w sw => sw.rdNil (nodeT)) ?_
  (repeat (first | refine vgo ?_ | refine ⟨_, rfl, rfl, ?_⟩ | refine ⟨_, rfl, ?_⟩ | refine ⟨rfl, ?_⟩ | intro hb | refine go2 ?_ | refine WC.seq (fun K hK => ?_) | ((first | refine hK _ _ _ ?_ | refine hK _ _ _ _ rfl ?_ | refine WX.thenExit (K := K) ?_); clear hK K) | (refine WX.thenExit (K := KL) ?_; clear hL KL)))
  refine WL.alloc rfl ?_; intro b2
  (repeat (first | refine vgo ?_ | refine ⟨_, rfl, rfl, ?_⟩ | refine ⟨_, rfl, ?_⟩ | refine ⟨rfl, ?_⟩ | intro hb | refine go2 ?_ | refine WC.seq (fun K hK => ?_) | ((first | refine hK _ _ _ ?_ | refine hK _ _ _ _ rfl ?_ | refine WX.thenExit (K := K) ?_); clear hK K) | (refine WX.thenExit (K := KL) ?_; clear hL KL)))
  (first | refine WL.boxA rfl rfl ?_ | refine WL.box rfl rfl rfl ?_); intro b5
  (repeat (first | refine vgo ?_ | refine ⟨_, rfl, rfl, ?_⟩ | refine ⟨_, rfl, ?_⟩ | refine ⟨rfl, ?_⟩ | intro hb | refine go2 ?_ | refine WC.seq (fun K hK => ?_) | ((first | refine hK _ _ _ ?_ | refine hK _ _ _ _ rfl ?_ | refine WX.thenExit (K := K) ?_); clear hK K) | (refine WX.thenExit (K := KL) ?_; clear hL KL)))
  refine CallV.by' (rnode2_fun 64 (by omega) b5 l v) ?_; rintro _ _ _ ⟨a, u, bad, l1, v1, rfl, rfl, rfl, hoa, x1, x2⟩; (try simp only [List.cons_append]); (try simp only [List.nil_append])
  (repeat (first | refine vgo ?_ | refine ⟨_, rfl, rfl, ?_⟩ | refine ⟨_, rfl, ?_⟩ | refine ⟨rfl, ?_⟩ | intro hb | refine go2 ?_ | refine WC.seq (fun K hK => ?_) | ((first | refine hK _ _ _ ?_ | refine hK _ _ _ _ rfl ?_ | refine WX.thenExit (K := K) ?_); clear hK K) | (refine WX.thenExit (K := KL) ?_; clear hL KL)))
  refine WL.alloc rfl ?_; intro b6
  cases bad with
  | true =>
    have hno : bkP l = none := by rw [bkP, x2 rfl]; rfl
    (repeat (first | refine vgo ?_ | refine ⟨_, rfl, rfl, ?_⟩ | refine ⟨_, rfl, ?_⟩ | refine ⟨rfl, ?_⟩ | intro hb | refine go2 ?_ | refine WC.seq (fun K hK => ?_) | ((first | refine hK _ _ _ ?_ | refine hK _ _ _ _ rfl ?_ | refine WX.thenExit (K := K) ?_); clear hK K) | (refine WX.thenExit (K := KL) ?_; clear hL KL)))
    exact WX.retC3K (b := b2) rfl rfl rfl rfl rfl (fun w sw => ⟨[rd (Ty.sl nodeT) [] nlS], [], ⟨zNt, nlS, by rw [hno]; rfl, rfl, rfl, by rw [hno]; rfl⟩, sw.to⟩)
  | false =>
    have hp := x1 rfl
    (repeat (first | refine vgo ?_ | refine ⟨_, rfl, rfl, ?_⟩ | refine ⟨_, rfl, ?_⟩ | refine ⟨rfl, ?_⟩ | intro hb | refine go2 ?_ | refine WC.seq (fun K hK => ?_) | ((first | refine hK _ _ _ ?_ | refine hK _ _ _ _ rfl ?_ | refine WX.thenExit (K := K) ?_); clear hK K) | (refine WX.thenExit (K := KL) ?_; clear hL KL)))
    refine CallV.by' (r11_fun (M := 16) (D := 64) (by decide) a u (pN_sm hp)) ?_; rintro _ _ _ ⟨rfl, rfl, rfl⟩; (try simp only [List.cons_append]); (try simp only [List.nil_append])
    by_cases g : tRd 64 a ∧ stD 64 a
    · have hyes : bkP l = some (a, l1) := by rw [bkP, hp, Option.bind_some, if_pos g]
      have hd : (!decide (tRd 64 a ∧ stD 64 a)) = false := by rw [decide_eq_true g]; rfl
      (repeat (first | refine vgo ?_ | refine ⟨_, rfl, rfl, ?_⟩ | refine ⟨_, rfl, ?_⟩ | refine ⟨rfl, ?_⟩ | intro hb | refine go2 ?_ | refine WC.seq (fun K hK => ?_) | ((first | refine hK _ _ _ ?_ | refine hK _ _ _ _ rfl ?_ | refine WX.thenExit (K := K) ?_); clear hK K) | (refine WX.thenExit (K := KL) ?_; clear hL KL)))
      refine WC.drawV (S := (box b6 73 (ndC a.k a.n a.s a.f a.t u) :: rBox b5 v1 false :: Sf)) ([[box b2 73 ndZ]]) rfl (by repeat (first | exact Wo.nil | (apply Wo.keep; exact rfl) | (apply Wo.drop; exact rfl))) (fun w sw => by (try simp only [List.flatten_cons, List.flatten_nil, List.append_nil, List.cons_append, List.nil_append]); exact sw.to) ?_; (try dsimp only [chunks])
      (repeat refine ObP3.c0A ?_); try (refine ObP3.nil ?_; (repeat (intro _)); (conv => whnf); (try dsimp only [envO, List.cons_append, List.nil_append]))
      (apply ObP3.cons1 [] [1000]; (focus ((repeat (intro _)); (conv => whnf); (try dsimp only [envO, List.cons_append, List.nil_append]); (repeat (first | refine vgo ?_ | refine ⟨_, rfl, rfl, ?_⟩ | refine ⟨_, rfl, ?_⟩ | refine ⟨rfl, ?_⟩ | intro hb | refine go2 ?_ | refine WC.seq (fun K hK => ?_) | ((first | refine hK _ _ _ ?_ | refine hK _ _ _ _ rfl ?_ | refine WX.thenExit (K := K) ?_); clear hK K) | (refine WX.thenExit (K := KL) ?_; clear hL KL))); first | exact WX.pgHeadV rfl | exact WX.pgHead | exact WX.pgOwn rfl)); exact rfl)
      (repeat refine ObP3.c0B ?_); try (refine ObP3.nil ?_; (repeat (intro _)); (conv => whnf); (try dsimp only [envO, List.cons_append, List.nil_append]))
      (repeat (first | refine vgo ?_ | refine ⟨_, rfl, rfl, ?_⟩ | refine ⟨_, rfl, ?_⟩ | refine ⟨rfl, ?_⟩ | intro hb | refine go2 ?_ | refine WC.seq (fun K hK => ?_) | ((first | refine hK _ _ _ ?_ | refine hK _ _ _ _ rfl ?_ | refine WX.thenExit (K := K) ?_); clear hK K) | (refine WX.thenExit (K := KL) ?_; clear hL KL)))
      exact WX.retC3K (b := b2) rfl rfl rfl rfl rfl (fun w sw => ⟨[rd (Ty.sl nodeT) a.ar u], [], ⟨a, u, by rw [hyes]; rfl, rfl, rfl, by rw [hyes]; rfl⟩, sw.to⟩)
    · have hno : bkP l = none := by rw [bkP, hp, Option.bind_some, if_neg g]
      have hd : (!decide (tRd 64 a ∧ stD 64 a)) = true := by rw [decide_eq_false g]; rfl
      (repeat (first | refine vgo ?_ | refine ⟨_, rfl, rfl, ?_⟩ | refine ⟨_, rfl, ?_⟩ | refine ⟨rfl, ?_⟩ | intro hb | refine go2 ?_ | refine WC.seq (fun K hK => ?_) | ((first | refine hK _ _ _ ?_ | refine hK _ _ _ _ rfl ?_ | refine WX.thenExit (K := K) ?_); clear hK K) | (refine WX.thenExit (K := KL) ?_; clear hL KL)))
      exact WX.retC3K (b := b2) rfl rfl rfl rfl rfl (fun w sw => ⟨[rd (Ty.sl nodeT) [] nlS], [], ⟨zNt, nlS, by rw [hno]; rfl, rfl, rfl, by rw [hno]; rfl⟩, sw.to⟩)
theorem numP_suf {l r : List UInt8} {n : Nat} (h : numP l = some (n, r)) : r <:+ l := by
  unfold numP at h
  split at h
  · cases h
  · cases h; exact List.drop_suffix _ _
theorem intP_suf {l r : List UInt8} {m n : Nat} (h : intP m l = some (n, r)) : r <:+ l := by
  obtain ⟨p, h1, h2⟩ := bind_some2 h
  split at h2
  · cases h2; exact numP_suf h1
  · cases h2
theorem bytP_suf {l r s : List UInt8} (h : bytP l = some (s, r)) : r <:+ l := by
  unfold bytP at h
  split at h
  · cases h
  · cases h; exact List.drop_suffix _ _
theorem stP_suf {l r : List UInt8} {x : Nat × Int} (h : stP l = some (x, r)) : r <:+ l := by
  obtain ⟨p, h1, h2⟩ := bind_some2 h
  obtain ⟨q, h3, h4⟩ := bind_some2 h2
  cases h4
  exact (intP_suf h3).trans (numP_suf h1)
theorem rfP_suf {l r : List UInt8} {x : Ref2} (h : rfP l = some (x, r)) : r <:+ l := by
  obtain ⟨p, h1, h2⟩ := bind_some2 h
  obtain ⟨q, h3, h4⟩ := bind_some2 h2
  cases h4
  exact (stP_suf h3).trans (stP_suf h1)
theorem pB_suf {k : Nat} {l r : List UInt8} {b : Bdy} (h : pB k l = some (b, r)) : r <:+ l := by
  unfold pB at h
  split at h
  · cases h
  split at h
  · obtain ⟨p, h1, h2⟩ := bind_some2 h
    cases h2; exact numP_suf h1
  split at h
  · obtain ⟨p, h1, h2⟩ := bind_some2 h
    cases h2; exact bytP_suf h1
  split at h
  · obtain ⟨p, h1, h2⟩ := bind_some2 h
    cases h2; exact rfP_suf h1
  split at h
  · obtain ⟨p, h1, h2⟩ := bind_some2 h
    obtain ⟨q, h3, h4⟩ := bind_some2 h2
    cases h4; exact (rfP_suf h3).trans (rfP_suf h1)
  · cases h; exact List.suffix_refl _
theorem pC_suf {k c : Nat} {l r : List UInt8} (h : pC k l = some (c, r)) : r <:+ l := by
  unfold pC at h
  split at h
  · exact intP_suf h
  · cases h; exact List.suffix_refl _
theorem pL_suf {f : List UInt8 → Option (Nd × List UInt8)} (hf : ∀ l a r, f l = some (a, r) → r <:+ l) : ∀ {n : Nat} {l r : List UInt8} {ns : List Nd}, pL f n l = some (ns, r) → r <:+ l
  | 0, l, r, ns, h => by cases h; exact List.suffix_refl _
  | n + 1, l, r, ns, h => by
    obtain ⟨q, h1, h2⟩ := bind_some2 h
    obtain ⟨q2, h3, h4⟩ := bind_some2 h2
    cases h4
    exact (pL_suf hf h3).trans (hf _ _ _ h1)
theorem pN_suf : ∀ {d : Nat} {l r : List UInt8} {a : Nd}, pN d l = some (a, r) → r <:+ l
  | 0, _, _, _, h => by cases h
  | d + 1, l, r, a, h => by
    obtain ⟨k, h1, h2⟩ := bind_some2 h
    obtain ⟨q, h3, h4⟩ := bind_some2 h2
    obtain ⟨c, h5, h6⟩ := bind_some2 h4
    obtain ⟨ns, h7, h8⟩ := bind_some2 h6
    cases h8
    exact (pL_suf (fun _ _ _ => pN_suf) h7).trans ((pC_suf h5).trans ((pB_suf h3).trans (intP_suf h1)))
theorem bkP_suf {l r : List UInt8} {a : Nd} (h : bkP l = some (a, r)) : r <:+ l := by
  obtain ⟨p, h1, h2⟩ := bind_some2 h
  split at h2
  · cases h2; exact pN_suf h1
  · cases h2
set_option maxRecDepth 100000 in
set_option maxHeartbeats 3200000 in
theorem r13take_fun (l : List UInt8) (v : Value) : Fun Tryz.prog 44 [v] [rd (Ty.sl Ty.u8) l v] [] (fun z G S => ∃ (c : Ctt) (u : Value), z = .tuple #[contV (cD c) u, .int .i64 (((pCt l).map fun p => p.2.length).getD 0 : Nat), .bool (pCt l).isSome] ∧ G = [rd (Ty.sl nodeT) c.2.2.2.ar u] ∧ S = [] ∧ c = ((pCt l).map Prod.fst).getD zCt) := by
  refine Fun.enter Tryz.func44 (by kernel_rfl) rfl Tryz.ntmps44 rfl (fun B Gf Sf => ?_); (try simp only [List.cons_append]); (try simp only [List.nil_append]); simp only [argEnv]
  refine WC.sat (fun w sw => sw.rdNil (nodeT)) ?_
  refine WC.ex (fun w sw => sw.len_le (RdSl.h (v := v))) (fun hll => ?_)
  have hT := takeR_le l
  have hlt := takeR_lt l
  (repeat (first | refine vgo ?_ | refine ⟨_, rfl, rfl, ?_⟩ | refine ⟨_, rfl, ?_⟩ | refine ⟨rfl, ?_⟩ | intro hb | refine go2 ?_ | refine WC.seq (fun K hK => ?_) | ((first | refine hK _ _ _ ?_ | refine hK _ _ _ _ rfl ?_ | refine WX.thenExit (K := K) ?_); clear hK K) | (refine WX.thenExit (K := KL) ?_; clear hL KL)))
  refine WL.alloc rfl ?_; intro b2
  (repeat (first | refine vgo ?_ | refine ⟨_, rfl, rfl, ?_⟩ | refine ⟨_, rfl, ?_⟩ | refine ⟨rfl, ?_⟩ | intro hb | refine go2 ?_ | refine WC.seq (fun K hK => ?_) | ((first | refine hK _ _ _ ?_ | refine hK _ _ _ _ rfl ?_ | refine WX.thenExit (K := K) ?_); clear hK K) | (refine WX.thenExit (K := KL) ?_; clear hL KL)))
  by_cases h0 : (takeR l).2 = 0
  · have hno : pCt l = none := by rw [pCt, intP, numP, if_pos h0]; rfl
    have hg : (((takeR l).2 : Nat) : Int) = 0 := by omega
    (repeat (first | refine vgo ?_ | refine ⟨_, rfl, rfl, ?_⟩ | refine ⟨_, rfl, ?_⟩ | refine ⟨rfl, ?_⟩ | intro hb | refine go2 ?_ | refine WC.seq (fun K hK => ?_) | ((first | refine hK _ _ _ ?_ | refine hK _ _ _ _ rfl ?_ | refine WX.thenExit (K := K) ?_); clear hK K) | (refine WX.thenExit (K := KL) ?_; clear hL KL)))
    exact WX.retC3K (b := b2) rfl rfl rfl rfl rfl (fun w sw => ⟨[rd (Ty.sl nodeT) [] nlS], [], ⟨zCt, nlS, by rw [hno]; rfl, rfl, rfl, by rw [hno]; rfl⟩, sw.to⟩)
  have hg : ¬ (((takeR l).2 : Nat) : Int) = 0 := by omega
  by_cases h3 : 3 < (takeR l).1
  · have hno : pCt l = none := by rw [pCt, intP, numP, if_neg h0, Option.bind_some, if_neg (by dsimp only; omega)]; rfl
    have hg3 : (3 : Int) < (((takeR l).1 : Nat) : Int) := by omega
    (repeat (first | refine vgo ?_ | refine ⟨_, rfl, rfl, ?_⟩ | refine ⟨_, rfl, ?_⟩ | refine ⟨rfl, ?_⟩ | intro hb | refine go2 ?_ | refine WC.seq (fun K hK => ?_) | ((first | refine hK _ _ _ ?_ | refine hK _ _ _ _ rfl ?_ | refine WX.thenExit (K := K) ?_); clear hK K) | (refine WX.thenExit (K := KL) ?_; clear hL KL)))
    exact WX.retC3K (b := b2) rfl rfl rfl rfl rfl (fun w sw => ⟨[rd (Ty.sl nodeT) [] nlS], [], ⟨zCt, nlS, by rw [hno]; rfl, rfl, rfl, by rw [hno]; rfl⟩, sw.to⟩)
  have hk : intP 3 l = some ((takeR l).1, l.drop (takeR l).2) := by rw [intP, numP, if_neg h0, Option.bind_some, if_pos (by dsimp only; omega)]
  have hg3 : ¬ (3 : Int) < (((takeR l).1 : Nat) : Int) := by omega
  generalize hkk : (takeR l).1 = k at *
  (repeat (first | refine vgo ?_ | refine ⟨_, rfl, rfl, ?_⟩ | refine ⟨_, rfl, ?_⟩ | refine ⟨rfl, ?_⟩ | intro hb | refine go2 ?_ | refine WC.seq (fun K hK => ?_) | ((first | refine hK _ _ _ ?_ | refine hK _ _ _ _ rfl ?_ | refine WX.thenExit (K := K) ?_); clear hK K) | (refine WX.thenExit (K := KL) ?_; clear hL KL)))
  refine WL.alloc rfl ?_; intro b7
  (repeat (first | refine vgo ?_ | refine ⟨_, rfl, rfl, ?_⟩ | refine ⟨_, rfl, ?_⟩ | refine ⟨rfl, ?_⟩ | intro hb | refine go2 ?_ | refine WC.seq (fun K hK => ?_) | ((first | refine hK _ _ _ ?_ | refine hK _ _ _ _ rfl ?_ | refine WX.thenExit (K := K) ?_); clear hK K) | (refine WX.thenExit (K := KL) ?_; clear hL KL)))
  have hR : ∀ (c : Ctt) (u : Value) (l1 : List UInt8) (v1 : Value), pCt l = some (c, l1) → WK 102 K { w := B, r := none, ds := [] } [(0, v1), (2, .pointer (some ⟨b2, 0, none⟩)), (7, .pointer (some ⟨b7, 0, none⟩))] (rd (Ty.sl nodeT) c.2.2.2.ar u :: rd (Ty.sl Ty.u8) l1 v1 :: rd (Ty.sl nodeT) [] nlS :: rd (Ty.sl Ty.u8) l v :: Gf) (box b7 75 (contC (cD c) u) :: box b2 75 (contC (cD zCt) nlS) :: Sf) := fun c u l1 v1 hyes => hK _ _ _ (by
    clear hK
    (repeat (first | refine vgo ?_ | refine ⟨_, rfl, rfl, ?_⟩ | refine ⟨_, rfl, ?_⟩ | refine ⟨rfl, ?_⟩ | intro hb | refine go2 ?_ | refine WC.seq (fun K hK => ?_) | ((first | refine hK _ _ _ ?_ | refine hK _ _ _ _ rfl ?_ | refine WX.thenExit (K := K) ?_); clear hK K) | (refine WX.thenExit (K := KL) ?_; clear hL KL)))
    exact WX.retC3K (b := b2) rfl rfl rfl rfl rfl (fun w sw => ⟨[rd (Ty.sl nodeT) c.2.2.2.ar u], [], ⟨c, u, by rw [hyes]; rfl, rfl, rfl, by rw [hyes]; rfl⟩, sw.to⟩))
  clear hK
  generalize hr : l.drop (takeR l).2 = r at *
  have hT1 := takeR_le r
  have hl1 := takeR_lt r
  have hTr := runR_le r
  by_cases k0 : k = 0
  · have ki : (k : Int) = 0 := by omega
    have hyes : pCt l = some (zCt, r) := by rw [pCt, hk, Option.bind_some, if_pos k0]
    (repeat (first | refine vgo ?_ | refine ⟨_, rfl, rfl, ?_⟩ | refine ⟨_, rfl, ?_⟩ | refine ⟨rfl, ?_⟩ | intro hb | refine go2 ?_ | refine WC.seq (fun K hK => ?_) | ((first | refine hK _ _ _ ?_ | refine hK _ _ _ _ rfl ?_ | refine WX.thenExit (K := K) ?_); clear hK K) | (refine WX.thenExit (K := KL) ?_; clear hL KL)))
    rw [ki]
    refine (hR zCt nlS r hb hyes).conv (.cons rfl (.cons rfl (.cons rfl .nil))) (fun w h => ?_)
    have h5 : Sat B _ (box b7 75 (contC (cD zCt) nlS) :: box b2 75 (contC (cD zCt) nlS) :: Sf) w := h
    show Sat B (rd (Ty.sl nodeT) [] nlS :: rd (Ty.sl Ty.u8) r hb :: rd (Ty.sl nodeT) [] nlS :: rd (Ty.sl Ty.u8) l v :: Gf) (box b7 75 (contC (cD zCt) nlS) :: box b2 75 (contC (cD zCt) nlS) :: Sf) w
    exact h5.to
  by_cases k1 : k = 1
  · have ki : (k : Int) = 1 := by omega
    have hpk : pCt l = (numP r).bind fun p => some ((1, zzI p.1, [], zNt), p.2) := by rw [pCt, hk, Option.bind_some, if_neg k0, if_pos k1]
    by_cases g : (takeR r).2 = 0
    · have hno : pCt l = none := by rw [hpk, numP, if_pos g]; rfl
      have hg1 : (((takeR r).2 : Nat) : Int) = 0 := by omega
      (repeat (first | refine vgo ?_ | refine ⟨_, rfl, rfl, ?_⟩ | refine ⟨_, rfl, ?_⟩ | refine ⟨rfl, ?_⟩ | intro hb | refine go2 ?_ | refine WC.seq (fun K hK => ?_) | ((first | refine hK _ _ _ ?_ | refine hK _ _ _ _ rfl ?_ | refine WX.thenExit (K := K) ?_); clear hK K) | (refine WX.thenExit (K := KL) ?_; clear hL KL)))
      exact WX.retC3K (b := b2) rfl rfl rfl rfl rfl (fun w sw => ⟨[rd (Ty.sl nodeT) [] nlS], [], ⟨zCt, nlS, by rw [hno]; rfl, rfl, rfl, by rw [hno]; rfl⟩, sw.to⟩)
    · have hg1 : ¬ (((takeR r).2 : Nat) : Int) = 0 := by omega
      have hyes : pCt l = some ((1, zzI (takeR r).1, [], zNt), r.drop (takeR r).2) := by rw [hpk, numP, if_neg g]; rfl
      by_cases m1 : (takeR r).1 % 2 = 1
      · have hm1 : (((takeR r).1 : Nat) : Int) % 2 = 1 := by omega
        have hz : 0 - (((takeR r).1 : Nat) : Int) / 2 - 1 = zzI (takeR r).1 := by unfold zzI; rw [if_pos m1]; omega
        (repeat (first | refine vgo ?_ | refine ⟨_, rfl, rfl, ?_⟩ | refine ⟨_, rfl, ?_⟩ | refine ⟨rfl, ?_⟩ | intro hb | refine go2 ?_ | refine WC.seq (fun K hK => ?_) | ((first | refine hK _ _ _ ?_ | refine hK _ _ _ _ rfl ?_ | refine WX.thenExit (K := K) ?_); clear hK K) | (refine WX.thenExit (K := KL) ?_; clear hL KL)))
        rw [hz, ki]
        refine (hR (1, zzI (takeR r).1, [], zNt) nlS (r.drop (takeR r).2) hb hyes).conv (.cons rfl (.cons rfl (.cons rfl .nil))) (fun w h => ?_)
        have h5 : Sat B _ (box b7 75 (contC (cD (1, zzI (takeR r).1, [], zNt)) nlS) :: box b2 75 (contC (cD zCt) nlS) :: Sf) w := h
        show Sat B (rd (Ty.sl nodeT) [] nlS :: rd (Ty.sl Ty.u8) (r.drop (takeR r).2) hb :: rd (Ty.sl nodeT) [] nlS :: rd (Ty.sl Ty.u8) l v :: Gf) (box b7 75 (contC (cD (1, zzI (takeR r).1, [], zNt)) nlS) :: box b2 75 (contC (cD zCt) nlS) :: Sf) w
        exact h5.to
      · have hm1 : ¬ (((takeR r).1 : Nat) : Int) % 2 = 1 := by omega
        have hz : (((takeR r).1 : Nat) : Int) / 2 = zzI (takeR r).1 := by unfold zzI; rw [if_neg m1]; omega
        (repeat (first | refine vgo ?_ | refine ⟨_, rfl, rfl, ?_⟩ | refine ⟨_, rfl, ?_⟩ | refine ⟨rfl, ?_⟩ | intro hb | refine go2 ?_ | refine WC.seq (fun K hK => ?_) | ((first | refine hK _ _ _ ?_ | refine hK _ _ _ _ rfl ?_ | refine WX.thenExit (K := K) ?_); clear hK K) | (refine WX.thenExit (K := KL) ?_; clear hL KL)))
        rw [hz, ki]
        refine (hR (1, zzI (takeR r).1, [], zNt) nlS (r.drop (takeR r).2) hb hyes).conv (.cons rfl (.cons rfl (.cons rfl .nil))) (fun w h => ?_)
        have h5 : Sat B _ (box b7 75 (contC (cD (1, zzI (takeR r).1, [], zNt)) nlS) :: box b2 75 (contC (cD zCt) nlS) :: Sf) w := h
        show Sat B (rd (Ty.sl nodeT) [] nlS :: rd (Ty.sl Ty.u8) (r.drop (takeR r).2) hb :: rd (Ty.sl nodeT) [] nlS :: rd (Ty.sl Ty.u8) l v :: Gf) (box b7 75 (contC (cD (1, zzI (takeR r).1, [], zNt)) nlS) :: box b2 75 (contC (cD zCt) nlS) :: Sf) w
        exact h5.to
  by_cases k2 : k = 2
  · have ki : (k : Int) = 2 := by omega
    have hpk : pCt l = (bytP r).bind fun p => if p.1.length ≤ 256 then some ((2, 0, p.1, zNt), p.2) else none := by rw [pCt, hk, Option.bind_some, if_neg k0, if_neg k1, if_pos k2]
    (repeat (first | refine vgo ?_ | refine ⟨_, rfl, rfl, ?_⟩ | refine ⟨_, rfl, ?_⟩ | refine ⟨rfl, ?_⟩ | intro hb | refine go2 ?_ | refine WC.seq (fun K hK => ?_) | ((first | refine hK _ _ _ ?_ | refine hK _ _ _ _ rfl ?_ | refine WX.thenExit (K := K) ?_); clear hK K) | (refine WX.thenExit (K := KL) ?_; clear hL KL)))
    refine CallV.by' (rrun_fun r hb) ?_; rintro _ _ _ ⟨rfl, u1, rfl, rfl⟩; (try simp only [List.cons_append]); (try simp only [List.nil_append])
    by_cases g : (runR r).2 = 0
    · have hno : pCt l = none := by rw [hpk, bytP, if_pos g]; rfl
      have hg1 : (((runR r).2 : Nat) : Int) = 0 := by omega
      (repeat (first | refine vgo ?_ | refine ⟨_, rfl, rfl, ?_⟩ | refine ⟨_, rfl, ?_⟩ | refine ⟨rfl, ?_⟩ | intro hb | refine go2 ?_ | refine WC.seq (fun K hK => ?_) | ((first | refine hK _ _ _ ?_ | refine hK _ _ _ _ rfl ?_ | refine WX.thenExit (K := K) ?_); clear hK K) | (refine WX.thenExit (K := KL) ?_; clear hL KL)))
      exact WX.retC3K (b := b2) rfl rfl rfl rfl rfl (fun w sw => ⟨[rd (Ty.sl nodeT) [] nlS], [], ⟨zCt, nlS, by rw [hno]; rfl, rfl, rfl, by rw [hno]; rfl⟩, sw.to⟩)
    · have hg1 : ¬ (((runR r).2 : Nat) : Int) = 0 := by omega
      by_cases q : (runR r).1.length ≤ 256
      · have hq1 : ¬ (256 : Int) < (((runR r).1.length : Nat) : Int) := by omega
        have hyes : pCt l = some ((2, 0, (runR r).1, zNt), r.drop (runR r).2) := by rw [hpk, bytP, if_neg g, Option.bind_some, if_pos q]
        (repeat (first | refine vgo ?_ | refine ⟨_, rfl, rfl, ?_⟩ | refine ⟨_, rfl, ?_⟩ | refine ⟨rfl, ?_⟩ | intro hb | refine go2 ?_ | refine WC.seq (fun K hK => ?_) | ((first | refine hK _ _ _ ?_ | refine hK _ _ _ _ rfl ?_ | refine WX.thenExit (K := K) ?_); clear hK K) | (refine WX.thenExit (K := KL) ?_; clear hL KL)))
        rw [ki]
        refine (hR (2, 0, (runR r).1, zNt) nlS (r.drop (runR r).2) hb hyes).conv (.cons rfl (.cons rfl (.cons rfl .nil))) (fun w h => ?_)
        have h5 : Sat B _ (box b7 75 (contC (cD (2, 0, (runR r).1, zNt)) nlS) :: box b2 75 (contC (cD zCt) nlS) :: Sf) w := h
        show Sat B (rd (Ty.sl nodeT) [] nlS :: rd (Ty.sl Ty.u8) (r.drop (runR r).2) hb :: rd (Ty.sl nodeT) [] nlS :: rd (Ty.sl Ty.u8) l v :: Gf) (box b7 75 (contC (cD (2, 0, (runR r).1, zNt)) nlS) :: box b2 75 (contC (cD zCt) nlS) :: Sf) w
        exact h5.to
      · have hq1 : (256 : Int) < (((runR r).1.length : Nat) : Int) := by omega
        have hno : pCt l = none := by rw [hpk, bytP, if_neg g, Option.bind_some, if_neg q]
        (repeat (first | refine vgo ?_ | refine ⟨_, rfl, rfl, ?_⟩ | refine ⟨_, rfl, ?_⟩ | refine ⟨rfl, ?_⟩ | intro hb | refine go2 ?_ | refine WC.seq (fun K hK => ?_) | ((first | refine hK _ _ _ ?_ | refine hK _ _ _ _ rfl ?_ | refine WX.thenExit (K := K) ?_); clear hK K) | (refine WX.thenExit (K := KL) ?_; clear hL KL)))
        exact WX.retC3K (b := b2) rfl rfl rfl rfl rfl (fun w sw => ⟨[rd (Ty.sl nodeT) [] nlS], [], ⟨zCt, nlS, by rw [hno]; rfl, rfl, rfl, by rw [hno]; rfl⟩, sw.to⟩)
  have ki : (k : Int) = 3 := by omega
  have hpk : pCt l = (bkP r).bind fun p => some ((3, 0, [], p.1), p.2) := by rw [pCt, hk, Option.bind_some, if_neg k0, if_neg k1, if_neg k2]
  (repeat (first | refine vgo ?_ | refine ⟨_, rfl, rfl, ?_⟩ | refine ⟨_, rfl, ?_⟩ | refine ⟨rfl, ?_⟩ | intro hb | refine go2 ?_ | refine WC.seq (fun K hK => ?_) | ((first | refine hK _ _ _ ?_ | refine hK _ _ _ _ rfl ?_ | refine WX.thenExit (K := K) ?_); clear hK K) | (refine WX.thenExit (K := KL) ?_; clear hL KL)))
  refine CallV.by' (r11take_fun r hb) ?_; rintro _ _ _ ⟨a, u, rfl, rfl, rfl, hau⟩; (try simp only [List.cons_append]); (try simp only [List.nil_append])
  cases hb0 : bkP r with
  | none =>
    have hno : pCt l = none := by rw [hpk, hb0]; rfl
    have hs : (!false) = true := rfl
    simp only [Option.isSome_none]
    (repeat (first | refine vgo ?_ | refine ⟨_, rfl, rfl, ?_⟩ | refine ⟨_, rfl, ?_⟩ | refine ⟨rfl, ?_⟩ | intro hb | refine go2 ?_ | refine WC.seq (fun K hK => ?_) | ((first | refine hK _ _ _ ?_ | refine hK _ _ _ _ rfl ?_ | refine WX.thenExit (K := K) ?_); clear hK K) | (refine WX.thenExit (K := KL) ?_; clear hL KL)))
    refine WL.alloc rfl ?_; intro b12
    (repeat (first | refine vgo ?_ | refine ⟨_, rfl, rfl, ?_⟩ | refine ⟨_, rfl, ?_⟩ | refine ⟨rfl, ?_⟩ | intro hb | refine go2 ?_ | refine WC.seq (fun K hK => ?_) | ((first | refine hK _ _ _ ?_ | refine hK _ _ _ _ rfl ?_ | refine WX.thenExit (K := K) ?_); clear hK K) | (refine WX.thenExit (K := KL) ?_; clear hL KL)))
    exact WX.retC3K (b := b2) rfl rfl rfl rfl rfl (fun w sw => ⟨[rd (Ty.sl nodeT) [] nlS], [], ⟨zCt, nlS, by rw [hno]; rfl, rfl, rfl, by rw [hno]; rfl⟩, sw.to⟩)
  | some q =>
    obtain ⟨a0, r0⟩ := q
    have hs : (!true) = false := rfl
    rw [hb0] at hau
    obtain rfl : a = a0 := hau
    have hyes : pCt l = some ((3, 0, [], a), r0) := by rw [hpk, hb0]; rfl
    have hsf := bkP_suf hb0
    have hsl := hsf.length_le
    have hsd : r.drop (r.length - r0.length) = r0 := (List.suffix_iff_eq_drop.1 hsf).symm
    have hrl : r.length ≤ l.length := by rw [← hr, List.length_drop]; omega
    have hw : (r.length : Int) - (r0.length : Int) = ((r.length - r0.length : Nat) : Int) := by omega
    simp only [Option.isSome_some, Option.map_some, Option.getD_some]
    (repeat (first | refine vgo ?_ | refine ⟨_, rfl, rfl, ?_⟩ | refine ⟨_, rfl, ?_⟩ | refine ⟨rfl, ?_⟩ | intro hb | refine go2 ?_ | refine WC.seq (fun K hK => ?_) | ((first | refine hK _ _ _ ?_ | refine hK _ _ _ _ rfl ?_ | refine WX.thenExit (K := K) ?_); clear hK K) | (refine WX.thenExit (K := KL) ?_; clear hL KL)))
    refine WL.alloc rfl ?_; intro b12
    (repeat (first | refine vgo ?_ | refine ⟨_, rfl, rfl, ?_⟩ | refine ⟨_, rfl, ?_⟩ | refine ⟨rfl, ?_⟩ | intro hb | refine go2 ?_ | refine WC.seq (fun K hK => ?_) | ((first | refine hK _ _ _ ?_ | refine hK _ _ _ _ rfl ?_ | refine WX.thenExit (K := K) ?_); clear hK K) | (refine WX.thenExit (K := KL) ?_; clear hL KL)))
    rw [hw]
    (repeat (first | refine vgo ?_ | refine ⟨_, rfl, rfl, ?_⟩ | refine ⟨_, rfl, ?_⟩ | refine ⟨rfl, ?_⟩ | intro hb | refine go2 ?_ | refine WC.seq (fun K hK => ?_) | ((first | refine hK _ _ _ ?_ | refine hK _ _ _ _ rfl ?_ | refine WX.thenExit (K := K) ?_); clear hK K) | (refine WX.thenExit (K := KL) ?_; clear hL KL)))
    rw [hsd, ki]
    refine (hR (3, 0, [], a) u r0 hb hyes).conv (.cons rfl (.cons rfl (.cons rfl .nil))) (fun w h => ?_)
    have h5 : Sat B (rd (Ty.sl nodeT) a.ar u :: rd (Ty.sl Ty.u8) r0 hb :: rd (Ty.sl nodeT) [] nlS :: rd (Ty.sl Ty.u8) l v :: Gf) (box b7 75 [.int .i64 3, .int .i64 0, .string .empty, .int .i64 a.k, .int .i64 a.n, .string (bs a.s), .int .u64 a.f.1.1, .int .i64 a.f.1.2, .int .u64 a.f.2.1, .int .i64 a.f.2.2, .int .u64 a.t.1.1, .int .i64 a.t.1.2, .int .u64 a.t.2.1, .int .i64 a.t.2.2, u] :: box b2 75 [.int .i64 0, .int .i64 0, .string .empty, .int .i64 0, .int .i64 0, .string .empty, .int .u64 0, .int .i64 0, .int .u64 0, .int .i64 0, .int .u64 0, .int .i64 0, .int .u64 0, .int .i64 0, .slice none 0 0] :: Sf) w := h.to
    exact h5
end
/-! ### The document's operations taken from bytes. -/
section
open Go Go.Proofs
def nsP : Nat → List UInt8 → Option (List Nat × List UInt8)
  | 0, l => some ([], l)
  | n + 1, l => (numP l).bind fun p => (nsP n p.2).bind fun q => some (p.1 :: q.1, q.2)
def nsZ (o : Option (List Nat × List UInt8)) : Int := match o with
  | some p => (p.2.length : Int)
  | none => -1
theorem nsP_snoc : ∀ {i : Nat} {l r : List UInt8} {ns : List Nat}, nsP i l = some (ns, r) → nsP (i + 1) l = (numP r).bind fun p => some (ns ++ [p.1], p.2)
  | 0, l, r, ns, h => by cases h; rw [nsP]; rfl
  | i + 1, l, r, ns, h => by
    obtain ⟨p, h1, h2⟩ := bind_some2 h
    obtain ⟨q, h3, h4⟩ := bind_some2 h2
    cases h4
    rw [nsP, h1, Option.bind_some, nsP_snoc h3]
    cases numP q.2 <;> rfl
theorem nsP_none : ∀ {i n : Nat} {l : List UInt8}, i ≤ n → nsP i l = none → nsP n l = none
  | 0, _, _, _, h => by cases h
  | i + 1, n, l, hn, h => by
    obtain ⟨m, rfl⟩ : ∃ m, n = m + 1 := ⟨n - 1, by omega⟩
    rw [nsP] at h ⊢
    cases hp : numP l with
    | none => rfl
    | some p =>
      rw [hp, Option.bind_some] at h
      rw [Option.bind_some]
      cases hq : nsP i p.2 with
      | none => rw [nsP_none (by omega) hq]; rfl
      | some q => rw [hq] at h; cases h
theorem flat_uV : ∀ ns : List Nat, ns.map uV = flat (ns.map fun m : Nat => Value.int .u64 (m : Int))
  | [] => rfl
  | a :: l => by
    show uV a :: l.map uV = (Value.int .u64 (a : Int)).cells.toList ++ flat (l.map fun m : Nat => Value.int .u64 (m : Int))
    rw [← flat_uV l]
    rfl
theorem nsP_cons {i : Nat} {l r : List UInt8} {ns : List Nat} (h : nsP (i + 1) l = some (ns, r)) : ∃ a l1 ms, ns = a :: ms ∧ numP l = some (a, l1) ∧ nsP i l1 = some (ms, r) := by
  obtain ⟨p, h1, h2⟩ := bind_some2 h
  obtain ⟨q, h3, h4⟩ := bind_some2 h2
  cases h4
  exact ⟨p.1, p.2, q.1, rfl, h1, h3⟩
theorem nsP3 {l r : List UInt8} {ns : List Nat} (h : nsP 3 l = some (ns, r)) : ∃ o n t l1 l2, ns = [o, n, t] ∧ numP l = some (o, l1) ∧ numP l1 = some (n, l2) ∧ numP l2 = some (t, r) := by
  obtain ⟨o, l1, m1, rfl, a1, h1⟩ := nsP_cons h
  obtain ⟨n, l2, m2, rfl, a2, h2⟩ := nsP_cons h1
  obtain ⟨t, l3, m3, rfl, a3, h3⟩ := nsP_cons h2
  cases h3
  exact ⟨o, n, t, l1, l2, rfl, a1, a2, a3⟩
theorem nsP5 {l r : List UInt8} {ns : List Nat} (h : nsP 5 l = some (ns, r)) : ∃ k t1 r1 t2 r2 l1 l2 l3 l4, ns = [k, t1, r1, t2, r2] ∧ numP l = some (k, l1) ∧ numP l1 = some (t1, l2) ∧ numP l2 = some (r1, l3) ∧ numP l3 = some (t2, l4) ∧ numP l4 = some (r2, r) := by
  obtain ⟨k, l1, m1, rfl, a1, h1⟩ := nsP_cons h
  obtain ⟨t1, l2, m2, rfl, a2, h2⟩ := nsP_cons h1
  obtain ⟨r1, l3, m3, rfl, a3, h3⟩ := nsP_cons h2
  obtain ⟨t2, l4, m4, rfl, a4, h4⟩ := nsP_cons h3
  obtain ⟨r2, l5, m5, rfl, a5, h5⟩ := nsP_cons h4
  cases h5
  exact ⟨k, t1, r1, t2, r2, l1, l2, l3, l4, rfl, a1, a2, a3, a4, a5⟩
theorem nsP_suf : ∀ {i : Nat} {l r : List UInt8} {ns : List Nat}, nsP i l = some (ns, r) → r <:+ l
  | 0, l, r, ns, h => by cases h; exact List.suffix_refl _
  | i + 1, l, r, ns, h => by
    obtain ⟨a, l1, ms, _, h1, h2⟩ := nsP_cons h
    exact (nsP_suf h2).trans (numP_suf h1)
theorem intP_num {m n : Nat} {l r : List UInt8} (h : intP m l = some (n, r)) : numP l = some (n, r) ∧ n ≤ m := by
  obtain ⟨p, h1, h2⟩ := bind_some2 h
  split at h2
  · rename_i g; cases h2; exact ⟨h1, g⟩
  · cases h2
/-- An operation's parser by the document's groups of numbers. -/
theorem pOp_nums {l r : List UInt8} {x : OpD} (h : pOp l = some (x, r)) : ∃ o n t l1 f l2 k t1 r1 t2 r2 l3 c, nsP 3 l = some ([o, n, t], l1) ∧ o ≤ 64 ∧ clP l1 = some (f, l2) ∧ nsP 5 l2 = some ([k, t1, r1, t2, r2], l3) ∧ k ≤ 5 ∧ r1 ≤ 64 ∧ r2 ≤ 64 ∧ pCt l3 = some (c, r) ∧ x = mkO o n t f k t1 r1 t2 r2 c := by
  obtain ⟨⟨o, a1⟩, h1, h⟩ := bind_some2 h
  obtain ⟨⟨n, a2⟩, h2, h⟩ := bind_some2 h
  obtain ⟨⟨t, a3⟩, h3, h⟩ := bind_some2 h
  obtain ⟨⟨f, a4⟩, h4, h⟩ := bind_some2 h
  obtain ⟨⟨k, a5⟩, h5, h⟩ := bind_some2 h
  obtain ⟨⟨⟨t1, i1⟩, a6⟩, h6, h⟩ := bind_some2 h
  obtain ⟨⟨⟨t2, i2⟩, a7⟩, h7, h⟩ := bind_some2 h
  obtain ⟨⟨c, a8⟩, h8, h⟩ := bind_some2 h
  dsimp only at h2 h3 h4 h5 h6 h7 h8
  obtain ⟨⟨s1, b1⟩, e1, h6⟩ := bind_some2 h6
  obtain ⟨⟨s2, b2⟩, e2, h6⟩ := bind_some2 h6
  cases h6
  obtain ⟨⟨s3, b3⟩, e3, h7⟩ := bind_some2 h7
  obtain ⟨⟨s4, b4⟩, e4, h7⟩ := bind_some2 h7
  cases h7
  cases h
  dsimp only at e2 e4
  obtain ⟨h1, g1⟩ := intP_num h1
  obtain ⟨h5, g5⟩ := intP_num h5
  obtain ⟨e2, g2⟩ := intP_num e2
  obtain ⟨e4, g4⟩ := intP_num e4
  refine ⟨o, n, t, a3, f, a4, k, s1, s2, s3, s4, _, c, ?_, g1, h4, ?_, g5, g2, g4, h8, rfl⟩
  · simp only [nsP, h1, h2, h3, Option.bind_some]
  · simp only [nsP, h5, e1, e2, e3, e4, Option.bind_some]
theorem pOp_of {l l1 l2 l3 r : List UInt8} {o n t k t1 r1 t2 r2 : Nat} {f : List Nat} {c : Ctt} (h1 : nsP 3 l = some ([o, n, t], l1)) (g1 : o ≤ 64) (h2 : clP l1 = some (f, l2)) (h3 : nsP 5 l2 = some ([k, t1, r1, t2, r2], l3)) (g2 : k ≤ 5) (g3 : r1 ≤ 64) (g4 : r2 ≤ 64) (h4 : pCt l3 = some (c, r)) : pOp l = some (mkO o n t f k t1 r1 t2 r2 c, r) := by
  obtain ⟨_, _, _, a1, a2, e, x1, x2, x3⟩ := nsP3 h1
  cases e
  obtain ⟨_, _, _, _, _, a3, a4, a5, a6, e, y1, y2, y3, y4, y5⟩ := nsP5 h3
  cases e
  have z1 : intP 64 l = some (o, a1) := by rw [intP, x1, Option.bind_some, if_pos g1]
  have z2 : intP 5 l2 = some (k, a3) := by rw [intP, y1, Option.bind_some, if_pos g2]
  have z3 : stP a3 = some ((t1, (r1 : Int)), a5) := by simp only [stP, intP, y2, y3, Option.bind_some, if_pos g3]
  have z4 : stP a5 = some ((t2, (r2 : Int)), l3) := by simp only [stP, intP, y4, y5, Option.bind_some, if_pos g4]
  simp only [pOp, z1, x2, x3, h2, z2, z3, z4, h4, Option.bind_some]
theorem nsP_lt : ∀ {i : Nat} {l r : List UInt8} {ns : List Nat}, nsP i l = some (ns, r) → ∀ x ∈ ns, x < 18446744073709551616
  | 0, l, r, ns, h => by cases h; intro x hx; cases hx
  | i + 1, l, r, ns, h => by
    obtain ⟨p, h1, h2⟩ := bind_some2 h
    obtain ⟨q, h3, h4⟩ := bind_some2 h2
    cases h4
    intro x hx
    rcases List.mem_cons.1 hx with rfl | hx
    · exact numP_lt (r := p.2) h1
    · exact nsP_lt h3 x hx
set_option maxRecDepth 100000 in
set_option maxHeartbeats 1600000 in
theorem nums_fun (n : Nat) (hn : n ≤ 100) (l : List UInt8) (v : Value) : Fun Tryz.prog 43 [v, .int .i64 (n : Nat)] [rd (Ty.sl Ty.u8) l v] [] (fun z G S => ∃ u, z = .tuple #[u, .int .i64 (nsZ (nsP n l))] ∧ G = [rd (Ty.sl Ty.u64) (((nsP n l).map Prod.fst).getD []) u] ∧ S = []) := by
  refine Fun.enter Tryz.func43 (by kernel_rfl) rfl Tryz.ntmps43 rfl (fun B Gf Sf => ?_); (try simp only [List.cons_append]); (try simp only [List.nil_append]); simp only [argEnv]
  refine WC.sat (fun w sw => sw.rdNil (Ty.u64)) ?_
  refine WC.ex (fun w sw => sw.len_le (RdSl.h (v := v))) (fun hll => ?_)
  (repeat (first | refine vgo ?_ | refine ⟨_, rfl, rfl, ?_⟩ | refine ⟨_, rfl, ?_⟩ | refine ⟨rfl, ?_⟩ | intro hb | refine go2 ?_ | refine WC.seq (fun K hK => ?_) | ((first | refine hK _ _ _ ?_ | refine hK _ _ _ _ rfl ?_ | refine WX.thenExit (K := K) ?_); clear hK K) | (refine WX.thenExit (K := KL) ?_; clear hL KL)))
  refine WC.loop (I := List Nat × List UInt8 × Value × Value) (fun x => [(0, x.2.2.1), (1, .int .i64 (n : Nat)), (6, x.2.2.2), (7, .int .i64 (x.1.length : Nat))]) (fun x => rd (Ty.sl Ty.u8) x.2.1 x.2.2.1 :: rd (Ty.sl Ty.u64) [] (.slice none 0 0) :: rd (Ty.sl Ty.u8) l v :: Gf) (fun x => own 32 1 x.2.2.2 x.1.length (x.1.map uV) :: Sf) (fun x => x.1.length ≤ n ∧ nsP x.1.length l = some (x.1, x.2.1) ∧ x.2.1.length ≤ l.length) (fun x => n - x.1.length) ([], l, v, .slice none 0 0) ⟨Nat.zero_le _, rfl, Nat.le_refl _⟩ (.cons rfl (.cons rfl (.cons rfl (.cons rfl .nil)))) (fun w h => by
    have h2 : Sat B (rd (Ty.sl Ty.u8) l v :: rd (Ty.sl Ty.u64) [] (.slice none 0 0) :: rd (Ty.sl Ty.u8) l v :: Gf) (own 32 1 (.slice none 0 0) 0 [] :: Sf) w := (h.ownNil 32 1).to
    exact h2) ?_
  rintro ⟨ns, l1, v1, u⟩ ⟨hi, hq, hle⟩ KL hL
  dsimp only at hi hq hle ⊢
  have hT := takeR_le l1
  have hlt := takeR_lt l1
  by_cases g : ns.length < n
  · by_cases h0 : (takeR l1).2 = 0
    · have hno : nsP n l = none := nsP_none (i := ns.length + 1) (by omega) (by rw [nsP_snoc hq, numP, if_pos h0]; rfl)
      have hg : (((takeR l1).2 : Nat) : Int) = 0 := by omega
      (repeat (first | refine vgo ?_ | refine ⟨_, rfl, rfl, ?_⟩ | refine ⟨_, rfl, ?_⟩ | refine ⟨rfl, ?_⟩ | intro hb | refine go2 ?_ | refine WC.seq (fun K hK => ?_) | ((first | refine hK _ _ _ ?_ | refine hK _ _ _ _ rfl ?_ | refine WX.thenExit (K := K) ?_); clear hK K) | (refine WX.thenExit (K := KL) ?_; clear hL KL)))
      exact WX.ret2 rfl rfl rfl (fun w sw => ⟨[rd (Ty.sl Ty.u64) [] (.slice none 0 0)], [], ⟨.slice none 0 0, by rw [hno]; rfl, by rw [hno]; rfl, rfl⟩, sw.to⟩)
    · have hg : ¬ (((takeR l1).2 : Nat) : Int) = 0 := by omega
      have hnx : nsP (ns.length + 1) l = some (ns ++ [(takeR l1).1], l1.drop (takeR l1).2) := by rw [nsP_snoc hq, numP, if_neg h0]; rfl
      (repeat (first | refine vgo ?_ | refine ⟨_, rfl, rfl, ?_⟩ | refine ⟨_, rfl, ?_⟩ | refine ⟨rfl, ?_⟩ | intro hb | refine go2 ?_ | refine WC.seq (fun K hK => ?_) | ((first | refine hK _ _ _ ?_ | refine hK _ _ _ _ rfl ?_ | refine WX.thenExit (K := K) ?_); clear hK K) | (refine WX.thenExit (K := KL) ?_; clear hL KL)))
      rename_i u2
      refine (hL (ns ++ [(takeR l1).1], l1.drop (takeR l1).2, hb, u2) ⟨by dsimp only; rw [List.length_append]; exact g, by dsimp only; rw [List.length_append]; exact hnx, by dsimp only; rw [List.length_drop]; omega⟩ (by dsimp only; rw [List.length_append]; simp only [List.length_singleton]; omega)).conv (.cons rfl (.cons rfl (.cons rfl (.cons (by simp [Env.get]) .nil)))) (fun w h => ?_)
      have h6 : Sat B (rd (Ty.sl Ty.u8) (l1.drop (takeR l1).2) hb :: rd (Ty.sl Ty.u64) [] (.slice none 0 0) :: rd (Ty.sl Ty.u8) l v :: Gf) (own 32 1 u2 (ns.length + 1) (ns.map uV ++ ([.int .u64 ((takeR l1).1 : Int)] ++ [])) :: Sf) w := h.to
      dsimp only
      rw [List.length_append, List.map_append]
      exact h6
  · obtain rfl : n = ns.length := by omega
    (repeat (first | refine vgo ?_ | refine ⟨_, rfl, rfl, ?_⟩ | refine ⟨_, rfl, ?_⟩ | refine ⟨rfl, ?_⟩ | intro hb | refine go2 ?_ | refine WC.seq (fun K hK => ?_) | ((first | refine hK _ _ _ ?_ | refine hK _ _ _ _ rfl ?_ | refine WX.thenExit (K := K) ?_); clear hK K) | (refine WX.thenExit (K := KL) ?_; clear hL KL)))
    exact WX.ret2 rfl rfl rfl (fun w sw => ⟨[rd (Ty.sl Ty.u64) ns u], [], ⟨u, by rw [hq]; rfl, by rw [hq]; rfl, rfl⟩, (sw.pub (R := Ty.u64) (l := ns) (v := u) SelOwn.h rfl (flat_uV ns) rfl (nsP_lt hq)).to⟩)
theorem lset_len : ∀ (vs cs : List Value) (o : Nat), (lset cs o vs).length = cs.length
  | [], cs, o => by rw [lset_nil]
  | a :: vs, [], o => by cases o <;> rfl
  | a :: vs, c :: cs, 0 => by simp [lset, lset_len vs cs 0]
  | a :: vs, c :: cs, o + 1 => by simp [lset, lset_len (a :: vs) cs o]
abbrev stA (o n t k : Nat) (f : List Nat) : List Value := (opFC (o : Int) n t f 0).set 67 (.int .i64 (k : Int))
abbrev stB (o n t k t1 i1 : Nat) (f : List Nat) : List Value := lset (stA o n t k f) 68 [.int .u64 (t1 : Int), .int .i64 (i1 : Int)]
abbrev stC (o n t k t1 i1 t2 i2 : Nat) (f : List Nat) : List Value := lset (stB o n t k t1 i1 f) 70 [.int .u64 (t2 : Int), .int .i64 (i2 : Int)]
theorem stC_eq {o n t k t1 i1 t2 i2 : Nat} {f : List Nat} (hf : f.length = 64) : stC o n t k t1 i1 t2 i2 f = ropC (mkO o n t f k t1 i1 t2 i2 zCt) nlS := by
  have h : (f.map uV).length = 64 := by rw [List.length_map, hf]
  have e1 : stA o n t k f = .int .i64 (o : Int) :: .int .u64 (n : Int) :: .int .u64 (t : Int) :: (f.map uV ++ fTail (k : Int)) := by
    show .int .i64 (o : Int) :: .int .u64 (n : Int) :: .int .u64 (t : Int) :: ((f.map uV ++ fTail 0).set 64 (.int .i64 (k : Int))) = _
    rw [List.set_append_right _ _ (by omega), h]
    rfl
  unfold stC stB
  rw [e1]
  show .int .i64 (o : Int) :: .int .u64 (n : Int) :: .int .u64 (t : Int) :: lset (lset (f.map uV ++ fTail (k : Int)) (1 + 64) [.int .u64 (t1 : Int), .int .i64 (i1 : Int)]) (3 + 64) [.int .u64 (t2 : Int), .int .i64 (i2 : Int)] = _
  rw [lset_app64 hf, lset_app64 hf]
  rfl
set_option maxRecDepth 100000 in
set_option maxHeartbeats 3200000 in
theorem r14take_fun (l : List UInt8) (hll : l.length ≤ 100000) (v : Value) : Fun Tryz.prog 20 [v] [rd (Ty.sl Ty.u8) l v] [] (fun z G S => ∃ (x : OpD) (u : Value), z = .tuple #[ropV x u, .int .i64 (((opQ l).map fun p => p.2.length).getD 0 : Nat), .bool (opQ l).isSome] ∧ G = [rd (Ty.sl nodeT) x.F.ar u] ∧ S = [] ∧ (x = ((opQ l).map Prod.fst).getD { zOd with f := List.replicate 64 0 })) := by
  refine Fun.enter Tryz.func20 (by kernel_rfl) rfl Tryz.ntmps20 rfl (fun B Gf Sf => ?_); (try simp only [List.cons_append]); (try simp only [List.nil_append]); simp only [argEnv]
  refine WC.sat (fun w sw => sw.rdNil (nodeT)) ?_
  (repeat (first | refine vgo ?_ | refine ⟨_, rfl, rfl, ?_⟩ | refine ⟨_, rfl, ?_⟩ | refine ⟨rfl, ?_⟩ | intro hb | refine go2 ?_ | refine WC.seq (fun K hK => ?_) | ((first | refine hK _ _ _ ?_ | refine hK _ _ _ _ rfl ?_ | refine WX.thenExit (K := K) ?_); clear hK K) | (refine WX.thenExit (K := KL) ?_; clear hL KL)))
  refine WL.alloc rfl ?_; intro b2
  (repeat (first | refine vgo ?_ | refine ⟨_, rfl, rfl, ?_⟩ | refine ⟨_, rfl, ?_⟩ | refine ⟨rfl, ?_⟩ | intro hb | refine go2 ?_ | refine WC.seq (fun K hK => ?_) | ((first | refine hK _ _ _ ?_ | refine hK _ _ _ _ rfl ?_ | refine WX.thenExit (K := K) ?_); clear hK K) | (refine WX.thenExit (K := KL) ?_; clear hL KL)))
  have hnone : (∀ x q, pOp l = some (x, q) → ¬ opP x) → opQ l = none := fun h => by
    cases hp : pOp l with
    | none => rw [opQ, hp]; rfl
    | some p => rw [opQ, hp, Option.bind_some, if_neg (h p.1 p.2 hp)]
  refine CallV.by' (nums_fun 3 (by omega) l v) ?_; rintro _ _ _ ⟨u1, rfl, rfl, rfl⟩; (try simp only [List.cons_append]); (try simp only [List.nil_append])
  cases h3 : nsP 3 l with
  | none =>
    have hno : opQ l = none := hnone (fun x q h => by
      obtain ⟨_, _, _, _, _, _, _, _, _, _, _, _, _, e, _⟩ := pOp_nums h
      rw [h3] at e; cases e)
    simp only [nsZ]
    (repeat (first | refine vgo ?_ | refine ⟨_, rfl, rfl, ?_⟩ | refine ⟨_, rfl, ?_⟩ | refine ⟨rfl, ?_⟩ | intro hb | refine go2 ?_ | refine WC.seq (fun K hK => ?_) | ((first | refine hK _ _ _ ?_ | refine hK _ _ _ _ rfl ?_ | refine WX.thenExit (K := K) ?_); clear hK K) | (refine WX.thenExit (K := KL) ?_; clear hL KL)))
    exact WX.retC3K (b := b2) rfl rfl rfl rfl rfl (fun w sw => ⟨[rd (Ty.sl nodeT) [] nlS], [], ⟨{ zOd with f := List.replicate 64 0 }, nlS, by rw [hno]; rfl, rfl, rfl, by rw [hno]; rfl⟩, sw.to⟩)
  | some p =>
    obtain ⟨ns, r⟩ := p
    obtain ⟨o, n, t, l1, l2, rfl, _⟩ := nsP3 h3
    simp only [nsZ, Option.map_some, Option.getD_some]
    by_cases g1 : 64 < o
    · have hg : (64 : Int) < ((o : Nat) : Int) := by omega
      have hno : opQ l = none := hnone (fun x q h => by
        obtain ⟨_, _, _, _, _, _, _, _, _, _, _, _, _, e, e2, _⟩ := pOp_nums h
        rw [h3] at e; cases e; omega)
      (repeat (first | refine vgo ?_ | refine ⟨_, rfl, rfl, ?_⟩ | refine ⟨_, rfl, ?_⟩ | refine ⟨rfl, ?_⟩ | intro hb | refine go2 ?_ | refine WC.seq (fun K hK => ?_) | ((first | refine hK _ _ _ ?_ | refine hK _ _ _ _ rfl ?_ | refine WX.thenExit (K := K) ?_); clear hK K) | (refine WX.thenExit (K := KL) ?_; clear hL KL)))
      exact WX.retC3K (b := b2) rfl rfl rfl rfl rfl (fun w sw => ⟨[rd (Ty.sl nodeT) [] nlS], [], ⟨{ zOd with f := List.replicate 64 0 }, nlS, by rw [hno]; rfl, rfl, rfl, by rw [hno]; rfl⟩, sw.to⟩)
    have hg : ¬ (64 : Int) < ((o : Nat) : Int) := by omega
    have hsf := nsP_suf h3
    have hsl := hsf.length_le
    have hsd : l.drop (l.length - r.length) = r := (List.suffix_iff_eq_drop.1 hsf).symm
    have hw : (l.length : Int) - (r.length : Int) = ((l.length - r.length : Nat) : Int) := by omega
    (repeat (first | refine vgo ?_ | refine ⟨_, rfl, rfl, ?_⟩ | refine ⟨_, rfl, ?_⟩ | refine ⟨rfl, ?_⟩ | intro hb | refine go2 ?_ | refine WC.seq (fun K hK => ?_) | ((first | refine hK _ _ _ ?_ | refine hK _ _ _ _ rfl ?_ | refine WX.thenExit (K := K) ?_); clear hK K) | (refine WX.thenExit (K := KL) ?_; clear hL KL)))
    refine WC.drawV (S := (box b2 77 (opFC 0 0 0 (List.replicate 64 0) 0) :: Sf)) ([]) rfl (by repeat (first | exact Wo.nil | (apply Wo.keep; exact rfl) | (apply Wo.drop; exact rfl))) (fun w sw => by (try simp only [List.flatten_cons, List.flatten_nil, List.append_nil, List.cons_append, List.nil_append]); exact sw.to) ?_; (try dsimp only [chunks])
    (repeat refine ObP3.c0A ?_); try (refine ObP3.nil ?_; (repeat (intro _)); (conv => whnf); (try dsimp only [envO, List.cons_append, List.nil_append]))
    refine ObP3.cons1 [] [] (.ex Nat (fun p => .pointer (some ⟨p, 0, none⟩)) (fun _ => []) (fun p => [box p 77 (opFC 0 0 0 (List.replicate 64 0) 0)])) ?_ rfl ?_
    · (repeat (intro _)); (conv => whnf); (try dsimp only [envO, List.cons_append, List.nil_append])
      (repeat (first | refine vgo ?_ | refine ⟨_, rfl, rfl, ?_⟩ | refine ⟨_, rfl, ?_⟩ | refine ⟨rfl, ?_⟩ | intro hb | refine go2 ?_ | refine WC.seq (fun K hK => ?_) | ((first | refine hK _ _ _ ?_ | refine hK _ _ _ _ rfl ?_ | refine WX.thenExit (K := K) ?_); clear hK K) | (refine WX.thenExit (K := KL) ?_; clear hL KL)))
      refine WL.alloc rfl ?_; intro bx
      (repeat (first | refine vgo ?_ | refine ⟨_, rfl, rfl, ?_⟩ | refine ⟨_, rfl, ?_⟩ | refine ⟨rfl, ?_⟩ | intro hb | refine go2 ?_ | refine WC.seq (fun K hK => ?_) | ((first | refine hK _ _ _ ?_ | refine hK _ _ _ _ rfl ?_ | refine WX.thenExit (K := K) ?_); clear hK K) | (refine WX.thenExit (K := KL) ?_; clear hL KL)))
      exact WX.pgEx (fv := fun p => .pointer (some ⟨p, 0, none⟩)) bx rfl (fun w sw => sw.to)
    refine ObP3.cons2 [] [11] [11] 7 (.ex Nat (fun p => .pointer (some ⟨p, 0, none⟩)) (fun _ => []) (fun p => [box p 77 (opFC (o : Int) n t (List.replicate 64 0) 0)])) ?_ rfl ?_
    · (repeat (intro _)); (conv => whnf); (try dsimp only [envO, List.cons_append, List.nil_append])
      (repeat (first | refine vgo ?_ | refine ⟨_, rfl, rfl, ?_⟩ | refine ⟨_, rfl, ?_⟩ | refine ⟨rfl, ?_⟩ | intro hb | refine go2 ?_ | refine WC.seq (fun K hK => ?_) | ((first | refine hK _ _ _ ?_ | refine hK _ _ _ _ rfl ?_ | refine WX.thenExit (K := K) ?_); clear hK K) | (refine WX.thenExit (K := KL) ?_; clear hL KL)))
      rename_i bx _ _ _
      exact WX.pgEx (fv := fun p => .pointer (some ⟨p, 0, none⟩)) bx rfl (fun w sw => sw.to)
    (repeat refine ObP3.c0B ?_); try (refine ObP3.nil ?_; (repeat (intro _)); (conv => whnf); (try dsimp only [envO, List.cons_append, List.nil_append]))
    (repeat (first | refine vgo ?_ | refine ⟨_, rfl, rfl, ?_⟩ | refine ⟨_, rfl, ?_⟩ | refine ⟨rfl, ?_⟩ | intro hb | refine go2 ?_ | refine WC.seq (fun K hK => ?_) | ((first | refine hK _ _ _ ?_ | refine hK _ _ _ _ rfl ?_ | refine WX.thenExit (K := K) ?_); clear hK K) | (refine WX.thenExit (K := KL) ?_; clear hL KL)))
    rename_i b7 _ _ _
    rw [hw]
    (repeat (first | refine vgo ?_ | refine ⟨_, rfl, rfl, ?_⟩ | refine ⟨_, rfl, ?_⟩ | refine ⟨rfl, ?_⟩ | intro hb | refine go2 ?_ | refine WC.seq (fun K hK => ?_) | ((first | refine hK _ _ _ ?_ | refine hK _ _ _ _ rfl ?_ | refine WX.thenExit (K := K) ?_); clear hK K) | (refine WX.thenExit (K := KL) ?_; clear hL KL)))
    rw [hsd]
    refine WL.allocA (List.replicate 64 0) (uV) rfl rfl ?_; intro b8
    have hF := rclockR_okF r
    have hF1 := hF.1
    have iF : Len64 (rclockR r).1 := ⟨hF1⟩
    (repeat (first | refine vgo ?_ | refine ⟨_, rfl, rfl, ?_⟩ | refine ⟨_, rfl, ?_⟩ | refine ⟨rfl, ?_⟩ | intro hb | refine go2 ?_ | refine WC.seq (fun K hK => ?_) | ((first | refine hK _ _ _ ?_ | refine hK _ _ _ _ rfl ?_ | refine WX.thenExit (K := K) ?_); clear hK K) | (refine WX.thenExit (K := KL) ?_; clear hL KL)))
    by_cases g2 : (rclockR r).2 = 0
    · have hg2 : (((rclockR r).2 : Nat) : Int) = 0 := by omega
      have hno : opQ l = none := hnone (fun x q h => by
        obtain ⟨_, _, _, _, _, _, _, _, _, _, _, _, _, e, _, e2, _⟩ := pOp_nums h
        rw [h3] at e; cases e
        rw [clP, if_neg (by omega)] at e2; cases e2)
      (repeat (first | refine vgo ?_ | refine ⟨_, rfl, rfl, ?_⟩ | refine ⟨_, rfl, ?_⟩ | refine ⟨rfl, ?_⟩ | intro hb | refine go2 ?_ | refine WC.seq (fun K hK => ?_) | ((first | refine hK _ _ _ ?_ | refine hK _ _ _ _ rfl ?_ | refine WX.thenExit (K := K) ?_); clear hK K) | (refine WX.thenExit (K := KL) ?_; clear hL KL)))
      exact WX.retC3K (b := b2) rfl rfl rfl rfl rfl (fun w sw => ⟨[rd (Ty.sl nodeT) [] nlS], [], ⟨{ zOd with f := List.replicate 64 0 }, nlS, by rw [hno]; rfl, rfl, rfl, by rw [hno]; rfl⟩, sw.to⟩)
    have hg2 : ¬ (((rclockR r).2 : Nat) : Int) = 0 := by omega
    have hcl : clP r = some ((rclockR r).1, r.drop (rclockR r).2) := by rw [clP, if_pos (by omega)]
    have hcle : (rclockR r).2 ≤ r.length := ((clock_R r).2.2 (by rw [clP_some hcl])).2
    (repeat (first | refine vgo ?_ | refine ⟨_, rfl, rfl, ?_⟩ | refine ⟨_, rfl, ?_⟩ | refine ⟨rfl, ?_⟩ | intro hb | refine go2 ?_ | refine WC.seq (fun K hK => ?_) | ((first | refine hK _ _ _ ?_ | refine hK _ _ _ _ rfl ?_ | refine WX.thenExit (K := K) ?_); clear hK K) | (refine WX.thenExit (K := KL) ?_; clear hL KL)))
    generalize hrc : r.drop (rclockR r).2 = rc at *
    have hrcl : rc.length ≤ r.length := by rw [← hrc, List.length_drop]; omega
    refine CallV.by' (nums_fun 5 (by omega) rc hb) ?_; rintro _ _ _ ⟨u5, rfl, rfl, rfl⟩; (try simp only [List.cons_append]); (try simp only [List.nil_append])
    cases h5 : nsP 5 rc with
    | none =>
      have hno : opQ l = none := hnone (fun x q h => by
        obtain ⟨_, _, _, _, _, _, _, _, _, _, _, _, _, e, _, e2, e3, _⟩ := pOp_nums h
        rw [h3] at e; cases e
        rw [hcl] at e2; cases e2
        rw [h5] at e3; cases e3)
      simp only [nsZ]
      (repeat (first | refine vgo ?_ | refine ⟨_, rfl, rfl, ?_⟩ | refine ⟨_, rfl, ?_⟩ | refine ⟨rfl, ?_⟩ | intro hb | refine go2 ?_ | refine WC.seq (fun K hK => ?_) | ((first | refine hK _ _ _ ?_ | refine hK _ _ _ _ rfl ?_ | refine WX.thenExit (K := K) ?_); clear hK K) | (refine WX.thenExit (K := KL) ?_; clear hL KL)))
      exact WX.retC3K (b := b2) rfl rfl rfl rfl rfl (fun w sw => ⟨[rd (Ty.sl nodeT) [] nlS], [], ⟨{ zOd with f := List.replicate 64 0 }, nlS, by rw [hno]; rfl, rfl, rfl, by rw [hno]; rfl⟩, sw.to⟩)
    | some p =>
      obtain ⟨ms, r2⟩ := p
      obtain ⟨k, t1, i1, t2, i2, m1, m2, m3, m4, rfl, _⟩ := nsP5 h5
      simp only [nsZ, Option.map_some, Option.getD_some]
      by_cases gk : 5 < k ∨ 64 < i1 ∨ 64 < i2
      · have hno : opQ l = none := hnone (fun x q h => by
          obtain ⟨_, _, _, _, _, _, _, _, _, _, _, _, _, e, _, e2, e3, b1, b2, b3, _⟩ := pOp_nums h
          rw [h3] at e; cases e
          rw [hcl] at e2; cases e2
          rw [h5] at e3; cases e3
          omega)
        by_cases gk1 : 5 < k
        · have hk1 : (5 : Int) < ((k : Nat) : Int) := by omega
          (repeat (first | refine vgo ?_ | refine ⟨_, rfl, rfl, ?_⟩ | refine ⟨_, rfl, ?_⟩ | refine ⟨rfl, ?_⟩ | intro hb | refine go2 ?_ | refine WC.seq (fun K hK => ?_) | ((first | refine hK _ _ _ ?_ | refine hK _ _ _ _ rfl ?_ | refine WX.thenExit (K := K) ?_); clear hK K) | (refine WX.thenExit (K := KL) ?_; clear hL KL)))
          exact WX.retC3K (b := b2) rfl rfl rfl rfl rfl (fun w sw => ⟨[rd (Ty.sl nodeT) [] nlS], [], ⟨{ zOd with f := List.replicate 64 0 }, nlS, by rw [hno]; rfl, rfl, rfl, by rw [hno]; rfl⟩, sw.to⟩)
        have hk1 : ¬ (5 : Int) < ((k : Nat) : Int) := by omega
        by_cases gk2 : 64 < i1
        · have hk2 : (64 : Int) < ((i1 : Nat) : Int) := by omega
          (repeat (first | refine vgo ?_ | refine ⟨_, rfl, rfl, ?_⟩ | refine ⟨_, rfl, ?_⟩ | refine ⟨rfl, ?_⟩ | intro hb | refine go2 ?_ | refine WC.seq (fun K hK => ?_) | ((first | refine hK _ _ _ ?_ | refine hK _ _ _ _ rfl ?_ | refine WX.thenExit (K := K) ?_); clear hK K) | (refine WX.thenExit (K := KL) ?_; clear hL KL)))
          exact WX.retC3K (b := b2) rfl rfl rfl rfl rfl (fun w sw => ⟨[rd (Ty.sl nodeT) [] nlS], [], ⟨{ zOd with f := List.replicate 64 0 }, nlS, by rw [hno]; rfl, rfl, rfl, by rw [hno]; rfl⟩, sw.to⟩)
        have hk2 : ¬ (64 : Int) < ((i1 : Nat) : Int) := by omega
        have hk3 : (64 : Int) < ((i2 : Nat) : Int) := by omega
        (repeat (first | refine vgo ?_ | refine ⟨_, rfl, rfl, ?_⟩ | refine ⟨_, rfl, ?_⟩ | refine ⟨rfl, ?_⟩ | intro hb | refine go2 ?_ | refine WC.seq (fun K hK => ?_) | ((first | refine hK _ _ _ ?_ | refine hK _ _ _ _ rfl ?_ | refine WX.thenExit (K := K) ?_); clear hK K) | (refine WX.thenExit (K := KL) ?_; clear hL KL)))
        exact WX.retC3K (b := b2) rfl rfl rfl rfl rfl (fun w sw => ⟨[rd (Ty.sl nodeT) [] nlS], [], ⟨{ zOd with f := List.replicate 64 0 }, nlS, by rw [hno]; rfl, rfl, rfl, by rw [hno]; rfl⟩, sw.to⟩)
      have hk1 : ¬ (5 : Int) < ((k : Nat) : Int) := by omega
      have hk2 : ¬ (64 : Int) < ((i1 : Nat) : Int) := by omega
      have hk3 : ¬ (64 : Int) < ((i2 : Nat) : Int) := by omega
      (repeat (first | refine vgo ?_ | refine ⟨_, rfl, rfl, ?_⟩ | refine ⟨_, rfl, ?_⟩ | refine ⟨rfl, ?_⟩ | intro hb | refine go2 ?_ | refine WC.seq (fun K hK => ?_) | ((first | refine hK _ _ _ ?_ | refine hK _ _ _ _ rfl ?_ | refine WX.thenExit (K := K) ?_); clear hK K) | (refine WX.thenExit (K := KL) ?_; clear hL KL)))
      refine WC.drawV (S := (box b8 34 ((rclockR r).1.map uV) :: box b2 77 (opFC 0 0 0 (List.replicate 64 0) 0) :: Sf)) ([[box b7 77 (opFC (o : Int) n t (rclockR r).1 0)]]) rfl (by repeat (first | exact Wo.nil | (apply Wo.keep; exact rfl) | (apply Wo.drop; exact rfl))) (fun w sw => by (try simp only [List.flatten_cons, List.flatten_nil, List.append_nil, List.cons_append, List.nil_append]); exact sw.to) ?_; (try dsimp only [chunks])
      (repeat refine ObP3.c0A ?_); try (refine ObP3.nil ?_; (repeat (intro _)); (conv => whnf); (try dsimp only [envO, List.cons_append, List.nil_append]))
      have hB : 72 ≤ (stB o n t k t1 i1 (rclockR r).1).length := by
        have h1 : (stB o n t k t1 i1 (rclockR r).1).length = 87 := by
          rw [lset_len]; simp [opFC, fTail, hF1]
        omega
      refine ObP3.cons1 [] [1000] (.ex Unit (fun _ => undef) (fun _ => []) (fun _ => [box b7 77 (stA o n t k (rclockR r).1)])) ?_ rfl ?_
      · (repeat (intro _)); (conv => whnf); (try dsimp only [envO, List.cons_append, List.nil_append])
        (repeat (first | refine vgo ?_ | refine ⟨_, rfl, rfl, ?_⟩ | refine ⟨_, rfl, ?_⟩ | refine ⟨rfl, ?_⟩ | intro hb | refine go2 ?_ | refine WC.seq (fun K hK => ?_) | ((first | refine hK _ _ _ ?_ | refine hK _ _ _ _ rfl ?_ | refine WX.thenExit (K := K) ?_); clear hK K) | (refine WX.thenExit (K := KL) ?_; clear hL KL)))
        exact WX.pgEx0 () (fun w sw => sw.to)
      (repeat refine ObP3.c0B ?_); try (refine ObP3.nil ?_; (repeat (intro _)); (conv => whnf); (try dsimp only [envO, List.cons_append, List.nil_append]))
      refine ObP3.cons1 [] [21] (.ex Unit (fun _ => undef) (fun _ => []) (fun _ => [box b7 77 (stB o n t k t1 i1 (rclockR r).1)])) ?_ rfl ?_
      · (repeat (intro _)); (conv => whnf); (try dsimp only [envO, List.cons_append, List.nil_append])
        (repeat (first | refine vgo ?_ | refine ⟨_, rfl, rfl, ?_⟩ | refine ⟨_, rfl, ?_⟩ | refine ⟨rfl, ?_⟩ | intro hb | refine go2 ?_ | refine WC.seq (fun K hK => ?_) | ((first | refine hK _ _ _ ?_ | refine hK _ _ _ _ rfl ?_ | refine WX.thenExit (K := K) ?_); clear hK K) | (refine WX.thenExit (K := KL) ?_; clear hL KL)))
        exact WX.pgEx0 () (fun w sw => sw.to)
      (repeat refine ObP3.c0B ?_); try (refine ObP3.nil ?_; (repeat (intro _)); (conv => whnf); (try dsimp only [envO, List.cons_append, List.nil_append]))
      refine ObP3.cons1 [] [23] (.ex Unit (fun _ => undef) (fun _ => []) (fun _ => [box b7 77 (stC o n t k t1 i1 t2 i2 (rclockR r).1)])) ?_ rfl ?_
      · (repeat (intro _)); (conv => whnf); (try dsimp only [envO, List.cons_append, List.nil_append])
        (repeat (first | refine vgo ?_ | refine ⟨_, rfl, rfl, ?_⟩ | refine ⟨_, rfl, ?_⟩ | refine ⟨rfl, ?_⟩ | intro hb | refine go2 ?_ | refine WC.seq (fun K hK => ?_) | ((first | refine hK _ _ _ ?_ | refine hK _ _ _ _ rfl ?_ | refine WX.thenExit (K := K) ?_); clear hK K) | (refine WX.thenExit (K := KL) ?_; clear hL KL)))
        exact WX.pgEx0 () (fun w sw => sw.to)
      (repeat refine ObP3.c0B ?_); try (refine ObP3.nil ?_; (repeat (intro _)); (conv => whnf); (try dsimp only [envO, List.cons_append, List.nil_append]))
      rw [stC_eq hF1]
      have hsf2 := nsP_suf h5
      have hsl2 := hsf2.length_le
      have hsd2 : rc.drop (rc.length - r2.length) = r2 := (List.suffix_iff_eq_drop.1 hsf2).symm
      have hrcb : rc.length ≤ 100000 := by omega
      have hw2 : (rc.length : Int) - (r2.length : Int) = ((rc.length - r2.length : Nat) : Int) := by omega
      (repeat (first | refine vgo ?_ | refine ⟨_, rfl, rfl, ?_⟩ | refine ⟨_, rfl, ?_⟩ | refine ⟨rfl, ?_⟩ | intro hb | refine go2 ?_ | refine WC.seq (fun K hK => ?_) | ((first | refine hK _ _ _ ?_ | refine hK _ _ _ _ rfl ?_ | refine WX.thenExit (K := K) ?_); clear hK K) | (refine WX.thenExit (K := KL) ?_; clear hL KL)))
      rw [hw2]
      (repeat (first | refine vgo ?_ | refine ⟨_, rfl, rfl, ?_⟩ | refine ⟨_, rfl, ?_⟩ | refine ⟨rfl, ?_⟩ | intro hb | refine go2 ?_ | refine WC.seq (fun K hK => ?_) | ((first | refine hK _ _ _ ?_ | refine hK _ _ _ _ rfl ?_ | refine WX.thenExit (K := K) ?_); clear hK K) | (refine WX.thenExit (K := KL) ?_; clear hL KL)))
      rw [hsd2]
      refine CallV.by' (r13take_fun r2 hb) ?_; rintro _ _ _ ⟨c, u, rfl, rfl, rfl, hcu⟩; (try simp only [List.cons_append]); (try simp only [List.nil_append])
      cases h6 : pCt r2 with
      | none =>
        have hno : opQ l = none := hnone (fun x q h => by
          obtain ⟨_, _, _, _, _, _, _, _, _, _, _, _, _, e, _, e2, e3, _, _, _, e4, _⟩ := pOp_nums h
          rw [h3] at e; cases e
          rw [hcl] at e2; cases e2
          rw [h5] at e3; cases e3
          rw [h6] at e4; cases e4)
        have hs : (!false) = true := rfl
        simp only [Option.isSome_none]
        (repeat (first | refine vgo ?_ | refine ⟨_, rfl, rfl, ?_⟩ | refine ⟨_, rfl, ?_⟩ | refine ⟨rfl, ?_⟩ | intro hb | refine go2 ?_ | refine WC.seq (fun K hK => ?_) | ((first | refine hK _ _ _ ?_ | refine hK _ _ _ _ rfl ?_ | refine WX.thenExit (K := K) ?_); clear hK K) | (refine WX.thenExit (K := KL) ?_; clear hL KL)))
        refine WL.alloc rfl ?_; intro b13
        (repeat (first | refine vgo ?_ | refine ⟨_, rfl, rfl, ?_⟩ | refine ⟨_, rfl, ?_⟩ | refine ⟨rfl, ?_⟩ | intro hb | refine go2 ?_ | refine WC.seq (fun K hK => ?_) | ((first | refine hK _ _ _ ?_ | refine hK _ _ _ _ rfl ?_ | refine WX.thenExit (K := K) ?_); clear hK K) | (refine WX.thenExit (K := KL) ?_; clear hL KL)))
        exact WX.retC3K (b := b2) rfl rfl rfl rfl rfl (fun w sw => ⟨[rd (Ty.sl nodeT) [] nlS], [], ⟨{ zOd with f := List.replicate 64 0 }, nlS, by rw [hno]; rfl, rfl, rfl, by rw [hno]; rfl⟩, sw.to⟩)
      | some q =>
        obtain ⟨c0, r3⟩ := q
        rw [h6] at hcu
        obtain rfl : c = c0 := hcu
        have hp := pOp_of h3 (by omega) hcl h5 (by omega) (by omega) (by omega) h6
        have hs : (!true) = false := rfl
        simp only [Option.isSome_some, Option.map_some, Option.getD_some]
        (repeat (first | refine vgo ?_ | refine ⟨_, rfl, rfl, ?_⟩ | refine ⟨_, rfl, ?_⟩ | refine ⟨rfl, ?_⟩ | intro hb | refine go2 ?_ | refine WC.seq (fun K hK => ?_) | ((first | refine hK _ _ _ ?_ | refine hK _ _ _ _ rfl ?_ | refine WX.thenExit (K := K) ?_); clear hK K) | (refine WX.thenExit (K := KL) ?_; clear hL KL)))
        refine WL.alloc rfl ?_; intro b13
        (repeat (first | refine vgo ?_ | refine ⟨_, rfl, rfl, ?_⟩ | refine ⟨_, rfl, ?_⟩ | refine ⟨rfl, ?_⟩ | intro hb | refine go2 ?_ | refine WC.seq (fun K hK => ?_) | ((first | refine hK _ _ _ ?_ | refine hK _ _ _ _ rfl ?_ | refine WX.thenExit (K := K) ?_); clear hK K) | (refine WX.thenExit (K := KL) ?_; clear hL KL)))
        have hnn : n < 18446744073709551616 := nsP_lt h3 n (by simp)
        refine CallV.by' (rright14_fun (M := 16) (D := 64) (by decide) (mkO o n t (rclockR r).1 k t1 i1 t2 i2 c) u hF1 hnn (pCt_sm h6)) ?_; rintro _ _ _ ⟨rfl, rfl, rfl⟩; (try simp only [List.cons_append]); (try simp only [List.nil_append])
        by_cases g : opP (mkO o n t (rclockR r).1 k t1 i1 t2 i2 c)
        · have hyes : opQ l = some (mkO o n t (rclockR r).1 k t1 i1 t2 i2 c, r3) := by rw [opQ, hp, Option.bind_some, if_pos g]
          have hd : (!decide (opP (mkO o n t (rclockR r).1 k t1 i1 t2 i2 c))) = false := by rw [decide_eq_true g]; rfl
          (repeat (first | refine vgo ?_ | refine ⟨_, rfl, rfl, ?_⟩ | refine ⟨_, rfl, ?_⟩ | refine ⟨rfl, ?_⟩ | intro hb | refine go2 ?_ | refine WC.seq (fun K hK => ?_) | ((first | refine hK _ _ _ ?_ | refine hK _ _ _ _ rfl ?_ | refine WX.thenExit (K := K) ?_); clear hK K) | (refine WX.thenExit (K := KL) ?_; clear hL KL)))
          exact WX.retC3K (b := b2) rfl rfl rfl rfl (by simp [hF1]) (fun w sw => ⟨[rd (Ty.sl nodeT) c.2.2.2.ar u], [], ⟨mkO o n t (rclockR r).1 k t1 i1 t2 i2 c, u, by rw [hyes]; rfl, rfl, rfl, by rw [hyes]; rfl⟩, sw.to⟩)
        · have hno : opQ l = none := by rw [opQ, hp, Option.bind_some, if_neg g]
          have hd : (!decide (opP (mkO o n t (rclockR r).1 k t1 i1 t2 i2 c))) = true := by rw [decide_eq_false g]; rfl
          (repeat (first | refine vgo ?_ | refine ⟨_, rfl, rfl, ?_⟩ | refine ⟨_, rfl, ?_⟩ | refine ⟨rfl, ?_⟩ | intro hb | refine go2 ?_ | refine WC.seq (fun K hK => ?_) | ((first | refine hK _ _ _ ?_ | refine hK _ _ _ _ rfl ?_ | refine WX.thenExit (K := K) ?_); clear hK K) | (refine WX.thenExit (K := KL) ?_; clear hL KL)))
          exact WX.retC3K (b := b2) rfl rfl rfl rfl rfl (fun w sw => ⟨[rd (Ty.sl nodeT) [] nlS], [], ⟨{ zOd with f := List.replicate 64 0 }, nlS, by rw [hno]; rfl, rfl, rfl, by rw [hno]; rfl⟩, sw.to⟩)
end
end Go.Qd
