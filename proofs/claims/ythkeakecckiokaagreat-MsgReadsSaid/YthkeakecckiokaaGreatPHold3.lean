/-
  What waits: the document's operations (sixty-four numbers inside each).
-/
import Derived.Test.YthkeakecckiokaaGreatPHold2
import Derived.Test.YthkeakecckiokaaGreatPMat3
namespace Go.Qd
open Go Go.Proofs
class Len64 (l : List Nat) : Prop where
  h : l.length = 64
instance : Len64 (List.replicate 64 0) := ⟨rfl⟩
section
variable {l l' : List Nat} {tail t' vs us : List Value} {o s k : Nat} {u : Value}
instance [h : Len64 l] : LenL (l.map uV) 64 := ⟨by rw [List.length_map, h.h]⟩
instance [h : Len64 l] [i : LenL tail s] : LenL (l.map uV ++ tail) (s + 64) := ⟨by rw [List.length_append, List.length_map, h.h, i.h]; omega⟩
instance [h : Len64 l] : SegC (l.map uV ++ tail) 0 64 (l.map uV) := ⟨by rw [List.drop_zero]; exact ⟨List.take_left' (by rw [List.length_map, h.h]), by rw [List.length_map, h.h]⟩⟩
instance [h : Len64 l] [i : SegC tail o s us] : SegC (l.map uV ++ tail) (o + 64) s us := ⟨by
  have e : (l.map uV ++ tail).drop (o + 64) = tail.drop o := by
    rw [Nat.add_comm, ← List.drop_drop, List.drop_left' (by rw [List.length_map, h.h])]
  rw [e]; exact i.h⟩
instance [h : Len64 l] [i : SegC tail 0 s us] : SegC (l.map uV ++ tail) 0 (s + 64) (l.map uV ++ us) := ⟨by
  rw [List.drop_zero, List.take_append, List.length_map, h.h, Nat.add_sub_cancel, List.take_of_length_le (by rw [List.length_map, h.h]; omega)]
  have h1 := i.h.1
  rw [List.drop_zero] at h1
  exact ⟨by rw [h1], by rw [List.length_append, List.length_map, h.h, i.h.2]; omega⟩⟩
instance [h : Len64 l] [i : NthC tail k u] : NthC (l.map uV ++ tail) (k + 64) u := ⟨by
  rw [List.getElem?_append_right (by rw [List.length_map, h.h]; omega), List.length_map, h.h, Nat.add_sub_cancel]; exact i.h⟩
theorem lset_app64 (h : l.length = 64) (o : Nat) (vs : List Value) : lset (l.map uV ++ tail) (o + 64) vs = l.map uV ++ lset tail o vs := by
  have := lset_app (l.map uV) tail o vs
  rw [List.length_map, h, Nat.add_comm] at this
  exact this
instance [h : Len64 l] [i : LsetC tail o vs t'] : LsetC (l.map uV ++ tail) (o + 64) vs (l.map uV ++ t') := ⟨by rw [lset_app64 h.h, i.h.1], by rw [List.length_append, List.length_map, h.h]; have := i.h.2; omega⟩
theorem lset_over : ∀ (xs bs tail rest : List Value), xs.length = bs.length → lset (xs ++ tail) 0 (bs ++ rest) = bs ++ lset tail 0 rest
  | [], [], _, _, _ => rfl
  | a :: xs, b :: bs, tail, rest, h => by
    show b :: lset (xs ++ tail) 0 (bs ++ rest) = _
    rw [lset_over xs bs tail rest (by simpa using h)]; rfl
  | [], _ :: _, _, _, h => by simp at h
  | _ :: _, [], _, _, h => by simp at h
instance [h : Len64 l] [h' : Len64 l'] : LsetC (l.map uV ++ tail) 0 (l'.map uV) (l'.map uV ++ tail) := ⟨by
  have := lset_over (l.map uV) (l'.map uV) tail [] (by rw [List.length_map, List.length_map, h.h, h'.h])
  rw [List.append_nil, lset_nil] at this; exact this, by rw [List.length_append, List.length_map, List.length_map, h.h, h'.h]; omega⟩
instance [h : Len64 l] [h' : Len64 l'] [i : LsetC tail 0 vs t'] : LsetC (l.map uV ++ tail) 0 (l'.map uV ++ vs) (l'.map uV ++ t') := ⟨by
  rw [lset_over (l.map uV) (l'.map uV) tail vs (by rw [List.length_map, List.length_map, h.h, h'.h]), i.h.1], by
  have := i.h.2
  rw [List.length_append, List.length_append, List.length_map, List.length_map, h.h, h'.h]; omega⟩
end
instance (priority := 1200) {P : Program} {n : Nat} {Q : Exit → Act → World → Prop} {B : Base} {env : Env} {G : List Pers} {S S' : List Res} {L rest : List Oper} {d b o : Nat} {T E : TypeId} {cs : List Value} {u : Value} [hm : SelBox b S E cs S'] [hT : TA P T false] [hn : NthC cs o u] : V (LodV P n L Q rest B env G S d T (.pointer (some ⟨b, o, none⟩))) (WL P n L Q rest B ((d, u) :: env) G S) := ⟨fun h => .of (.b1 hn.h h)⟩
section
variable {P : Program} {n : Nat} {Q : Exit → Act → World → Prop} {B : Base} {env : Env} {G : List Pers} {S S' : List Res} {L rest : List Oper} {d b o sz k : Nat} {T E : TypeId} {cs vs cs' : List Value} {l : List Nat} {c0 c1 c2 : Value} {tail : List Value} {x : Int} {fn : Func} {F : Value → World → Prop}
theorem beqL [h : LenL vs sz] : Nat.beq vs.length sz = true := by rw [h.h]; simp
instance (priority := 1300) [hm : SelBox b S E cs S'] [hs : TS P T sz] [i : OnesC G S vs] [hc : LsetC cs o vs cs'] [hl : LenL vs sz] : V (StV P n L Q rest B env G S T (.pointer (some ⟨b, o, none⟩)) (.agg vs.toArray)) (WL P n L Q rest B env G (box b E cs' :: S')) := ⟨fun h => by
  have e : V (StV P n L Q rest B env G S T (.pointer (some ⟨b, o, none⟩)) (.agg vs.toArray)) (Nat.beq vs.length sz = true ∧ WL P n L Q rest B env G (box b E cs' :: S')) := inferInstance
  exact e.go ⟨beqL, h⟩⟩
/-- A number of the sixty-four inside is set. -/
instance (priority := 2000) [hm : SelBox b S E (c0 :: c1 :: c2 :: (l.map uV ++ tail)) S'] [hs : TS P T 1] [hT : TA P T false] : V (StV P n L Q rest B env G S T (.pointer (some ⟨b, 3 + k, none⟩)) (.int .u64 x)) (Side (k < l.length ∧ 0 ≤ x) (WL P n L Q rest B env G (box b E (c0 :: c1 :: c2 :: ((l.set k x.toNat).map uV ++ tail)) :: S'))) := ⟨fun h => by
  obtain ⟨⟨hk, hx⟩, h⟩ := h
  refine StV.b1 (by rw [Nat.blt_eq]; simp only [List.length_cons, List.length_append, List.length_map]; omega) ?_
  have e : (c0 :: c1 :: c2 :: (l.map uV ++ tail)).set (3 + k) (.int .u64 x) = c0 :: c1 :: c2 :: ((l.set k x.toNat).map uV ++ tail) := by
    rw [Nat.add_comm 3 k]
    simp only [List.set_cons_succ, List.cons.injEq, true_and]
    rw [List.set_append_left _ _ (by rw [List.length_map]; exact hk), List.map_set]
    congr 2
    simp only [uV]; congr 1; omega
  rw [e]; exact h⟩
end
abbrev fTail (k : Int) : List Value := .int .i64 k :: oTail
abbrev opFC (o : Int) (n t : Nat) (f : List Nat) (k : Int) : List Value := .int .i64 o :: .int .u64 n :: .int .u64 t :: (f.map uV ++ fTail k)
instance (priority := 2000) opF_zero : TZ Tryz.prog 77 (opFC 0 0 0 (List.replicate 64 0) 0) := ⟨by kernel_rfl⟩
theorem number_fun (f : List Nat) (r : Int) (hf : f.length = 64) : Fun Tryz.prog 63 [fV f, .int .i64 r] [] [] (fun u G S => u = .int .u64 (getC f r) ∧ G = [] ∧ S = []) := by
  refine Fun.enter Tryz.func63 (by kernel_rfl) rfl Tryz.ntmps63 rfl (fun B Gf Sf => ?_); (try simp only [List.cons_append]); (try simp only [List.nil_append]); simp only [argEnv]
  by_cases h1 : r < 1
  · have e : getC f r = 0 := if_pos h1
    (repeat (first | refine vgo ?_ | refine ⟨_, rfl, rfl, ?_⟩ | refine ⟨_, rfl, ?_⟩ | refine ⟨rfl, ?_⟩ | intro hb | refine go2 ?_ | refine WC.seq (fun K hK => ?_) | ((first | refine hK _ _ _ ?_ | refine hK _ _ _ _ rfl ?_ | refine WX.thenExit (K := K) ?_); clear hK K) | (refine WX.thenExit (K := KL) ?_; clear hL KL)))
    (first | refine WL.boxA rfl rfl ?_ | refine WL.box rfl rfl rfl ?_); intro bf
    (repeat (first | refine vgo ?_ | refine ⟨_, rfl, rfl, ?_⟩ | refine ⟨_, rfl, ?_⟩ | refine ⟨rfl, ?_⟩ | intro hb | refine go2 ?_ | refine WC.seq (fun K hK => ?_) | ((first | refine hK _ _ _ ?_ | refine hK _ _ _ _ rfl ?_ | refine WX.thenExit (K := K) ?_); clear hK K) | (refine WX.thenExit (K := KL) ?_; clear hL KL)))
    exact WX.ret1 rfl rfl (fun w sw => ⟨[], [], ⟨by rw [e]; rfl, rfl, rfl⟩, sw.to⟩)
  · by_cases h2 : 64 < r
    · have e : getC f r = 0 := by unfold getC; rw [if_neg h1, getD0 (by omega)]
      (repeat (first | refine vgo ?_ | refine ⟨_, rfl, rfl, ?_⟩ | refine ⟨_, rfl, ?_⟩ | refine ⟨rfl, ?_⟩ | intro hb | refine go2 ?_ | refine WC.seq (fun K hK => ?_) | ((first | refine hK _ _ _ ?_ | refine hK _ _ _ _ rfl ?_ | refine WX.thenExit (K := K) ?_); clear hK K) | (refine WX.thenExit (K := KL) ?_; clear hL KL)))
      (first | refine WL.boxA rfl rfl ?_ | refine WL.box rfl rfl rfl ?_); intro bf
      (repeat (first | refine vgo ?_ | refine ⟨_, rfl, rfl, ?_⟩ | refine ⟨_, rfl, ?_⟩ | refine ⟨rfl, ?_⟩ | intro hb | refine go2 ?_ | refine WC.seq (fun K hK => ?_) | ((first | refine hK _ _ _ ?_ | refine hK _ _ _ _ rfl ?_ | refine WX.thenExit (K := K) ?_); clear hK K) | (refine WX.thenExit (K := KL) ?_; clear hL KL)))
      exact WX.ret1 rfl rfl (fun w sw => ⟨[], [], ⟨by rw [e]; rfl, rfl, rfl⟩, sw.to⟩)
    · have e : getC f r = f.getD (r - 1).toNat 0 := if_neg h1
      have hx : f[(r - 1).toNat]? = some (f.getD (r - 1).toNat 0) := getD_some (by omega)
      (repeat (first | refine vgo ?_ | refine ⟨_, rfl, rfl, ?_⟩ | refine ⟨_, rfl, ?_⟩ | refine ⟨rfl, ?_⟩ | intro hb | refine go2 ?_ | refine WC.seq (fun K hK => ?_) | ((first | refine hK _ _ _ ?_ | refine hK _ _ _ _ rfl ?_ | refine WX.thenExit (K := K) ?_); clear hK K) | (refine WX.thenExit (K := KL) ?_; clear hL KL)))
      (first | refine WL.boxA rfl rfl ?_ | refine WL.box rfl rfl rfl ?_); intro bf
      (repeat (first | refine vgo ?_ | refine ⟨_, rfl, rfl, ?_⟩ | refine ⟨_, rfl, ?_⟩ | refine ⟨rfl, ?_⟩ | intro hb | refine go2 ?_ | refine WC.seq (fun K hK => ?_) | ((first | refine hK _ _ _ ?_ | refine hK _ _ _ _ rfl ?_ | refine WX.thenExit (K := K) ?_); clear hK K) | (refine WX.thenExit (K := KL) ?_; clear hL KL)))
      exact WX.ret1 rfl rfl (fun w sw => ⟨[], [], ⟨by rw [e], rfl, rfl⟩, sw.to⟩)
instance number_pure {G : List Pers} {f : List Nat} {r : Int} : PureF Tryz.prog 63 [fV f, .int .i64 r] G (f.length = 64) (.int .u64 ((getC f r : Nat) : Int)) := ⟨fun h => PureF.of0 (number_fun f r h)⟩
end Go.Qd
