/-
  The log: the document's list, Len, Known, Get.
-/
import Derived.Test.YtijebmblhakbpaaPLog4
import Derived.Test.YtijebmblhakbpaaQFlat
namespace Go.Qd
/-! ### The log: the document's list, Len, Known, Get. -/
section
open Go Go.Proofs
abbrev KpI := OpF × Bool
abbrev kTail (k : Int) (b : Bool) : List Value := [.int .i64 k, .int .u64 0, .int .i64 0, .int .u64 0, .int .i64 0, .int .i64 0, .int .i64 0, .string .empty, .int .i64 0, .int .i64 0, .string .empty, .int .u64 0, .int .i64 0, .int .u64 0, .int .i64 0, .int .u64 0, .int .i64 0, .int .u64 0, .int .i64 0, .slice none 0 0, .bool b]
abbrev kpC (a : KpI) : List Value := .int .i64 a.1.o :: .int .u64 a.1.n :: .int .u64 a.1.t :: (a.1.f.map uV ++ kTail a.1.k a.2)
abbrev kpV (a : KpI) : Value := .agg (kpC a).toArray
theorem kpC_eq (a : KpI) : kpC a = a.1.C ++ [.bool a.2] := by simp [OpF.C, opFC]
instance (priority := 2000) kp_zero : TZ Try.prog 126 (.int .i64 0 :: .int .u64 0 :: .int .u64 0 :: ((List.replicate 64 0).map uV ++ kTail 0 false)) := ⟨by kernel_rfl⟩
theorem kpC_len {a : KpI} (h : a.1.f.length = 64) : (kpC a).length = 88 := by
  rw [kpC_eq, List.length_append, opFC_len h]; rfl
theorem kpC_one (a : KpI) : ∀ c ∈ kpC a, c.oneCell' = true := fun c hc => by
  rw [kpC_eq] at hc
  rcases List.mem_append.1 hc with h | h
  · exact opFC_one a.1 c h
  · rw [List.mem_singleton] at h; rw [h]; rfl
def kpT : Ty KpI where
  sz := 88
  agg := true
  rel a v _ := v = kpV a ∧ okOF a.1
  mono _ h := h
  size := by rintro a v h ⟨rfl, h1⟩; exact kpC_len h1.2.2.2.1.1
  form := by rintro a v h ⟨rfl, _⟩; exact ⟨_, rfl⟩
  ones := by rintro a v h ⟨rfl, _⟩ c hc; exact kpC_one a c hc
instance : Ty.Is kpT kpV (fun a => okOF a.1) := ⟨fun _ _ _ => Iff.rfl⟩
instance : Ty.Sz kpT 88 := ⟨rfl, by decide⟩
instance : FlG kpV := ⟨fun a c hc => kpC_one a c hc⟩
instance {a : KpI} : Fld kpT 0 a opFT a.1 := ⟨fun v h x => ⟨a.1.V, ⟨rfl, x.2⟩, fun j c hc => by
  obtain ⟨rfl, hx⟩ := x
  have e : (kpV a).cells.toList = a.1.C ++ [.bool a.2] := kpC_eq a
  have hc' : a.1.C[j]? = some c := hc
  rw [e, Nat.zero_add, List.getElem?_append_left (List.getElem?_eq_some_iff.1 hc').1]; exact hc'⟩⟩
instance {a : KpI} : Fld kpT 87 a Ty.bool a.2 := ⟨fun v h x => ⟨.bool a.2, ⟨rfl, trivial⟩, fun j c hc => by
  obtain ⟨rfl, hx⟩ := x
  have hj : j = 0 := by have := (List.getElem?_eq_some_iff.1 hc).1; have e : (Value.bool a.2).cells.toList.length = 1 := rfl; omega
  subst hj
  have e : (kpV a).cells.toList = a.1.C ++ [.bool a.2] := kpC_eq a
  rw [e, List.getElem?_append_right (by rw [opFC_len hx.2.2.2.1.1]; omega), opFC_len hx.2.2.2.1.1]; exact hc⟩⟩
abbrev lgV (lv : Value) (most : Int) : Value := .agg #[lv, .int .i64 most]
def lenR (l : List KpI) : Nat := (l.filter fun a => !a.2).length
theorem lenR_snoc {l : List KpI} {i : Nat} {a : KpI} (h : l[i]? = some a) : lenR (l.take (i + 1)) = lenR (l.take i) + if a.2 then 0 else 1 := by
  unfold lenR
  rw [List.take_add_one, h, Option.toList_some, List.filter_append, List.length_append, List.filter_cons, List.filter_nil]
  cases a.2 <;> rfl
theorem rlen16_fun (l : List KpI) (lv : Value) (most : Int) (hl : l.length ≤ 100000) : Fun Try.prog 11 [lgV lv most] [rd (Ty.sl kpT) l lv] [] (fun z G S => z = .int .i64 (lenR l : Nat) ∧ G = [] ∧ S = []) := by
  refine Fun.enter Try.func11 (by kernel_rfl) rfl Try.ntmps11 rfl (fun B Gf Sf => ?_); (try simp only [List.cons_append]); (try simp only [List.nil_append]); simp only [argEnv]
  refine WC.ex (fun w sw => sw.slOne (v := lv) RdSl.h) (fun hlv => ?_)
  (repeat (first | refine vgo ?_ | refine ⟨_, rfl, rfl, ?_⟩ | refine ⟨_, rfl, ?_⟩ | refine ⟨rfl, ?_⟩ | intro hb | refine altA ?_ | refine altR ?_ | refine sideA ?_ | refine decTA ?_ | refine decFA ?_ | refine decNA ?_ | refine decBTA ?_ | refine decBFA ?_ | refine ⟨_, by assumption, ?_⟩ | refine ⟨_, _, _, rfl, ?_⟩ | refine WC.seq (fun K hK => ?_) | (refine hK _ _ _ ?_; clear hK K) | (refine hK _ _ _ _ rfl ?_; clear hK K) | (refine WX.thenExit (K := K) ?_; clear hK K) | (refine WX.thenExit (K := KL) ?_; clear hL KL)))
  (first | refine WL.boxA rfl rfl ?_ | refine WL.box rfl rfl rfl ?_); intro b1
  (repeat (first | refine vgo ?_ | refine ⟨_, rfl, rfl, ?_⟩ | refine ⟨_, rfl, ?_⟩ | refine ⟨rfl, ?_⟩ | intro hb | refine altA ?_ | refine altR ?_ | refine sideA ?_ | refine decTA ?_ | refine decFA ?_ | refine decNA ?_ | refine decBTA ?_ | refine decBFA ?_ | refine ⟨_, by assumption, ?_⟩ | refine ⟨_, _, _, rfl, ?_⟩ | refine WC.seq (fun K hK => ?_) | (refine hK _ _ _ ?_; clear hK K) | (refine hK _ _ _ _ rfl ?_; clear hK K) | (refine WX.thenExit (K := K) ?_; clear hK K) | (refine WX.thenExit (K := KL) ?_; clear hL KL)))
  refine WC.loop (I := Nat) (fun i => [(1, .pointer (some ⟨b1, 0, none⟩)), (3, .int .i64 (lenR (l.take i) : Nat)), (4, .int .i64 (i : Nat))]) (fun _ => rd (Ty.sl kpT) l lv :: Gf) (fun _ => box b1 29 [lv, .int .i64 most] :: Sf) (fun i => i ≤ l.length) (fun i => l.length - i) 0 (Nat.zero_le _) (.cons rfl (.cons rfl (.cons rfl .nil))) (fun w h => h.to) ?_
  intro i hi KL hL
  have hle : lenR (l.take i) ≤ i := by unfold lenR; have := List.length_filter_le (fun a : KpI => !a.2) (l.take i); rw [List.length_take] at this; omega
  by_cases g : i < l.length
  · obtain ⟨a, ha⟩ : ∃ a, l[i]? = some a := ⟨_, List.getElem?_eq_getElem g⟩
    have hs := lenR_snoc ha
    cases h2 : a.2 with
    | true =>
      rw [h2] at hs
      (repeat (first | refine vgo ?_ | refine ⟨_, rfl, rfl, ?_⟩ | refine ⟨_, rfl, ?_⟩ | refine ⟨rfl, ?_⟩ | intro hb | refine altA ?_ | refine altR ?_ | refine sideA ?_ | refine decTA ?_ | refine decFA ?_ | refine decNA ?_ | refine decBTA ?_ | refine decBFA ?_ | refine ⟨_, by assumption, ?_⟩ | refine ⟨_, _, _, rfl, ?_⟩ | refine WC.seq (fun K hK => ?_) | (refine hK _ _ _ ?_; clear hK K) | (refine hK _ _ _ _ rfl ?_; clear hK K) | (refine WX.thenExit (K := K) ?_; clear hK K) | (refine WX.thenExit (K := KL) ?_; clear hL KL)))
      rw [h2]
      (repeat (first | refine vgo ?_ | refine ⟨_, rfl, rfl, ?_⟩ | refine ⟨_, rfl, ?_⟩ | refine ⟨rfl, ?_⟩ | intro hb | refine altA ?_ | refine altR ?_ | refine sideA ?_ | refine decTA ?_ | refine decFA ?_ | refine decNA ?_ | refine decBTA ?_ | refine decBFA ?_ | refine ⟨_, by assumption, ?_⟩ | refine ⟨_, _, _, rfl, ?_⟩ | refine WC.seq (fun K hK => ?_) | (refine hK _ _ _ ?_; clear hK K) | (refine hK _ _ _ _ rfl ?_; clear hK K) | (refine WX.thenExit (K := K) ?_; clear hK K) | (refine WX.thenExit (K := KL) ?_; clear hL KL)))
      exact (hL (i + 1) g (by omega)).conv (.cons rfl (.cons (by simp only [Env.get]; exact congrArg (fun z : Int => some (Value.int .i64 z)) (by rw [hs]; rfl)) (.cons rfl .nil))) (fun w h => h.to)
    | false =>
      rw [h2] at hs
      (repeat (first | refine vgo ?_ | refine ⟨_, rfl, rfl, ?_⟩ | refine ⟨_, rfl, ?_⟩ | refine ⟨rfl, ?_⟩ | intro hb | refine altA ?_ | refine altR ?_ | refine sideA ?_ | refine decTA ?_ | refine decFA ?_ | refine decNA ?_ | refine decBTA ?_ | refine decBFA ?_ | refine ⟨_, by assumption, ?_⟩ | refine ⟨_, _, _, rfl, ?_⟩ | refine WC.seq (fun K hK => ?_) | (refine hK _ _ _ ?_; clear hK K) | (refine hK _ _ _ _ rfl ?_; clear hK K) | (refine WX.thenExit (K := K) ?_; clear hK K) | (refine WX.thenExit (K := KL) ?_; clear hL KL)))
      rw [h2]
      (repeat (first | refine vgo ?_ | refine ⟨_, rfl, rfl, ?_⟩ | refine ⟨_, rfl, ?_⟩ | refine ⟨rfl, ?_⟩ | intro hb | refine altA ?_ | refine altR ?_ | refine sideA ?_ | refine decTA ?_ | refine decFA ?_ | refine decNA ?_ | refine decBTA ?_ | refine decBFA ?_ | refine ⟨_, by assumption, ?_⟩ | refine ⟨_, _, _, rfl, ?_⟩ | refine WC.seq (fun K hK => ?_) | (refine hK _ _ _ ?_; clear hK K) | (refine hK _ _ _ _ rfl ?_; clear hK K) | (refine WX.thenExit (K := K) ?_; clear hK K) | (refine WX.thenExit (K := KL) ?_; clear hL KL)))
      exact (hL (i + 1) g (by omega)).conv (.cons rfl (.cons (by simp only [Env.get]; exact congrArg (fun z : Int => some (Value.int .i64 z)) (by rw [hs]; rfl)) (.cons rfl .nil))) (fun w h => h.to)
  · obtain rfl : i = l.length := by omega
    rw [List.take_length] at *
    (repeat (first | refine vgo ?_ | refine ⟨_, rfl, rfl, ?_⟩ | refine ⟨_, rfl, ?_⟩ | refine ⟨rfl, ?_⟩ | intro hb | refine altA ?_ | refine altR ?_ | refine sideA ?_ | refine decTA ?_ | refine decFA ?_ | refine decNA ?_ | refine decBTA ?_ | refine decBFA ?_ | refine ⟨_, by assumption, ?_⟩ | refine ⟨_, _, _, rfl, ?_⟩ | refine WC.seq (fun K hK => ?_) | (refine hK _ _ _ ?_; clear hK K) | (refine hK _ _ _ _ rfl ?_; clear hK K) | (refine WX.thenExit (K := K) ?_; clear hK K) | (refine WX.thenExit (K := KL) ?_; clear hL KL)))
    exact WX.ret1 rfl rfl (fun w sw => ⟨[], [], ⟨rfl, rfl, rfl⟩, sw.to⟩)
instance rlen16_pure {G : List Pers} {l : List KpI} {lv : Value} {most : Int} [i : RdSl lv G kpT l] : PureF Try.prog 11 [lgV lv most] G (l.length ≤ 100000) (.int .i64 ((lenR l : Nat) : Int)) := ⟨fun h => ⟨_, by simpa using i.h, rlen16_fun l lv most h⟩⟩
def knF (l : List KpI) : List Nat := l.foldl (fun f x => f.set (x.1.o - 1).toNat x.1.n) (List.replicate 64 0)
theorem knF_snoc {l : List KpI} {i : Nat} {a : KpI} (h : l[i]? = some a) : knF (l.take (i + 1)) = (knF (l.take i)).set (a.1.o - 1).toNat a.1.n := by
  unfold knF; rw [List.take_add_one, h, Option.toList_some, List.foldl_append]; rfl
theorem knF_len (l : List KpI) : (knF l).length = 64 := by
  unfold knF
  suffices h : ∀ (l : List KpI) (f : List Nat), f.length = 64 → (l.foldl (fun f x => f.set (x.1.o - 1).toNat x.1.n) f).length = 64 from h l _ (by rfl)
  intro l
  induction l with
  | nil => exact fun f h => h
  | cons a l ih => exact fun f h => ih _ (by rw [List.length_set]; exact h)
set_option maxHeartbeats 3200000 in
theorem rknown16_fun (l : List KpI) (lv : Value) (most : Int) (hl : l.length ≤ 100000) (ho : ∀ a ∈ l, 1 ≤ a.1.o ∧ a.1.o ≤ 64) : Fun Try.prog 16 [lgV lv most] [rd (Ty.sl kpT) l lv] [] (fun z G S => z = fV (knF l) ∧ G = [] ∧ S = []) := by
  refine Fun.enter Try.func16 (by kernel_rfl) rfl Try.ntmps16 rfl (fun B Gf Sf => ?_); (try simp only [List.cons_append]); (try simp only [List.nil_append]); simp only [argEnv]
  refine WC.ex (fun w sw => sw.slOne (v := lv) RdSl.h) (fun hlv => ?_)
  (repeat (first | refine vgo ?_ | refine ⟨_, rfl, rfl, ?_⟩ | refine ⟨_, rfl, ?_⟩ | refine ⟨rfl, ?_⟩ | intro hb | refine altA ?_ | refine altR ?_ | refine sideA ?_ | refine decTA ?_ | refine decFA ?_ | refine decNA ?_ | refine decBTA ?_ | refine decBFA ?_ | refine ⟨_, by assumption, ?_⟩ | refine ⟨_, _, _, rfl, ?_⟩ | refine WC.seq (fun K hK => ?_) | (refine hK _ _ _ ?_; clear hK K) | (refine hK _ _ _ _ rfl ?_; clear hK K) | (refine WX.thenExit (K := K) ?_; clear hK K) | (refine WX.thenExit (K := KL) ?_; clear hL KL)))
  (first | refine WL.boxA rfl rfl ?_ | refine WL.box rfl rfl rfl ?_); intro b1
  (repeat (first | refine vgo ?_ | refine ⟨_, rfl, rfl, ?_⟩ | refine ⟨_, rfl, ?_⟩ | refine ⟨rfl, ?_⟩ | intro hb | refine altA ?_ | refine altR ?_ | refine sideA ?_ | refine decTA ?_ | refine decFA ?_ | refine decNA ?_ | refine decBTA ?_ | refine decBFA ?_ | refine ⟨_, by assumption, ?_⟩ | refine ⟨_, _, _, rfl, ?_⟩ | refine WC.seq (fun K hK => ?_) | (refine hK _ _ _ ?_; clear hK K) | (refine hK _ _ _ _ rfl ?_; clear hK K) | (refine WX.thenExit (K := K) ?_; clear hK K) | (refine WX.thenExit (K := KL) ?_; clear hL KL)))
  refine WL.alloc rfl ?_; intro b2
  (repeat (first | refine vgo ?_ | refine ⟨_, rfl, rfl, ?_⟩ | refine ⟨_, rfl, ?_⟩ | refine ⟨rfl, ?_⟩ | intro hb | refine altA ?_ | refine altR ?_ | refine sideA ?_ | refine decTA ?_ | refine decFA ?_ | refine decNA ?_ | refine decBTA ?_ | refine decBFA ?_ | refine ⟨_, by assumption, ?_⟩ | refine ⟨_, _, _, rfl, ?_⟩ | refine WC.seq (fun K hK => ?_) | (refine hK _ _ _ ?_; clear hK K) | (refine hK _ _ _ _ rfl ?_; clear hK K) | (refine WX.thenExit (K := K) ?_; clear hK K) | (refine WX.thenExit (K := KL) ?_; clear hL KL)))
  refine WL.alloc rfl ?_; intro b3
  (repeat (first | refine vgo ?_ | refine ⟨_, rfl, rfl, ?_⟩ | refine ⟨_, rfl, ?_⟩ | refine ⟨rfl, ?_⟩ | intro hb | refine altA ?_ | refine altR ?_ | refine sideA ?_ | refine decTA ?_ | refine decFA ?_ | refine decNA ?_ | refine decBTA ?_ | refine decBFA ?_ | refine ⟨_, by assumption, ?_⟩ | refine ⟨_, _, _, rfl, ?_⟩ | refine WC.seq (fun K hK => ?_) | (refine hK _ _ _ ?_; clear hK K) | (refine hK _ _ _ _ rfl ?_; clear hK K) | (refine WX.thenExit (K := K) ?_; clear hK K) | (refine WX.thenExit (K := KL) ?_; clear hL KL)))
  refine WC.loop (I := Nat) (fun i => [(1, .pointer (some ⟨b1, 0, none⟩)), (2, .pointer (some ⟨b2, 0, none⟩)), (3, .pointer (some ⟨b3, 0, none⟩)), (4, .int .i64 (i : Nat))]) (fun _ => rd (Ty.sl kpT) l lv :: Gf) (fun i => box b3 43 ((knF (l.take i)).map uV) :: box b2 43 ((List.replicate 64 0).map uV) :: box b1 29 [lv, .int .i64 most] :: Sf) (fun i => i ≤ l.length) (fun i => l.length - i) 0 (Nat.zero_le _) (.cons rfl (.cons rfl (.cons rfl (.cons rfl .nil)))) (fun w h => (show Sat B (rd (Ty.sl kpT) l lv :: Gf) (box b3 43 ((List.replicate 64 0).map uV) :: box b2 43 ((List.replicate 64 0).map uV) :: box b1 29 [lv, .int .i64 most] :: Sf) w from h.to)) ?_
  intro i hi KL hL
  have hkl := knF_len (l.take i)
  have i1 : Len64 (knF (l.take i)) := ⟨hkl⟩
  by_cases g : i < l.length
  · obtain ⟨a, ha⟩ : ∃ a, l[i]? = some a := ⟨_, List.getElem?_eq_getElem g⟩
    have hs := knF_snoc ha
    obtain ⟨ho1, ho2⟩ := ho a (List.mem_of_getElem? ha)
    have hix : (a.1.o - 1).toNat * 1 = (a.1.o - 1).toNat := Nat.mul_one _
    (repeat (first | refine vgo ?_ | refine ⟨_, rfl, rfl, ?_⟩ | refine ⟨_, rfl, ?_⟩ | refine ⟨rfl, ?_⟩ | intro hb | refine altA ?_ | refine altR ?_ | refine sideA ?_ | refine decTA ?_ | refine decFA ?_ | refine decNA ?_ | refine decBTA ?_ | refine decBFA ?_ | refine ⟨_, by assumption, ?_⟩ | refine ⟨_, _, _, rfl, ?_⟩ | refine WC.seq (fun K hK => ?_) | (refine hK _ _ _ ?_; clear hK K) | (refine hK _ _ _ _ rfl ?_; clear hK K) | (refine WX.thenExit (K := K) ?_; clear hK K) | (refine WX.thenExit (K := KL) ?_; clear hL KL)))
    refine WC.drawV (S := (box b2 43 ((List.replicate 64 0).map uV) :: box b1 29 [lv, .int .i64 most] :: Sf)) ([[box b3 43 ((knF (l.take i)).map uV)]]) rfl (by repeat (first | exact Wo.nil | (apply Wo.keep; exact rfl) | (apply Wo.drop; exact rfl))) (fun w sw => by (try simp only [List.flatten_cons, List.flatten_nil, List.append_nil, List.cons_append, List.nil_append]); exact sw.to) ?_; (try dsimp only [chunks])
    (repeat refine ObP3.c0A ?_); try (refine ObP3.nil ?_; (repeat (intro _)); (conv => whnf); (try dsimp only [envO, List.cons_append, List.nil_append]))
    (apply ObP3.cons1 [] [1000]; (focus ((repeat (intro _)); (conv => whnf); (try dsimp only [envO, List.cons_append, List.nil_append]); (repeat (first | refine vgo ?_ | refine ⟨_, rfl, rfl, ?_⟩ | refine ⟨_, rfl, ?_⟩ | refine ⟨rfl, ?_⟩ | intro hb | refine altA ?_ | refine altR ?_ | refine sideA ?_ | refine decTA ?_ | refine decFA ?_ | refine decNA ?_ | refine decBTA ?_ | refine decBFA ?_ | refine ⟨_, by assumption, ?_⟩ | refine ⟨_, _, _, rfl, ?_⟩ | refine WC.seq (fun K hK => ?_) | (refine hK _ _ _ ?_; clear hK K) | (refine hK _ _ _ _ rfl ?_; clear hK K) | (refine WX.thenExit (K := K) ?_; clear hK K) | (refine WX.thenExit (K := KL) ?_; clear hL KL))); first | exact WX.pgHeadV rfl | exact WX.pgHead | exact WX.pgOwn rfl)); exact rfl)
    (repeat refine ObP3.c0B ?_); try (refine ObP3.nil ?_; (repeat (intro _)); (conv => whnf); (try dsimp only [envO, List.cons_append, List.nil_append]))
    (repeat (first | refine vgo ?_ | refine ⟨_, rfl, rfl, ?_⟩ | refine ⟨_, rfl, ?_⟩ | refine ⟨rfl, ?_⟩ | intro hb | refine altA ?_ | refine altR ?_ | refine sideA ?_ | refine decTA ?_ | refine decFA ?_ | refine decNA ?_ | refine decBTA ?_ | refine decBFA ?_ | refine ⟨_, by assumption, ?_⟩ | refine ⟨_, _, _, rfl, ?_⟩ | refine WC.seq (fun K hK => ?_) | (refine hK _ _ _ ?_; clear hK K) | (refine hK _ _ _ _ rfl ?_; clear hK K) | (refine WX.thenExit (K := K) ?_; clear hK K) | (refine WX.thenExit (K := KL) ?_; clear hL KL)))
    refine (hL (i + 1) g (by omega)).conv (.cons rfl (.cons rfl (.cons rfl (.cons rfl .nil)))) (fun w h => ?_)
    rw [hs]
    exact h.to
  · obtain rfl : i = l.length := by omega
    rw [List.take_length] at *
    (repeat (first | refine vgo ?_ | refine ⟨_, rfl, rfl, ?_⟩ | refine ⟨_, rfl, ?_⟩ | refine ⟨rfl, ?_⟩ | intro hb | refine altA ?_ | refine altR ?_ | refine sideA ?_ | refine decTA ?_ | refine decFA ?_ | refine decNA ?_ | refine decBTA ?_ | refine decBFA ?_ | refine ⟨_, by assumption, ?_⟩ | refine ⟨_, _, _, rfl, ?_⟩ | refine WC.seq (fun K hK => ?_) | (refine hK _ _ _ ?_; clear hK K) | (refine hK _ _ _ _ rfl ?_; clear hK K) | (refine WX.thenExit (K := K) ?_; clear hK K) | (refine WX.thenExit (K := KL) ?_; clear hL KL)))
    exact WX.retCL rfl rfl (fun w sw => ⟨[], [], ⟨rfl, rfl, rfl⟩, sw.to⟩)
section
variable {P : Program} {n : Nat} {B : Base} {env : Env} {G : List Pers} {S S' : List Res} {fn : Func} {F : Value → World → Prop} {T E : TypeId} {v : Value}
theorem WX.retCTL {t r : Nat} {b s : Nat} {cs : List Value} [hClean : Clean B] (hr : fn.results = #[.cell t T, .tmp r]) (hv : env.get t = some (.pointer (some ⟨b, 0, none⟩))) (hu : env.get r = some v) [hm : SelBox b S E cs S'] [hT : TA P T true] [hs : TS P T s] [hl : LenL cs s] (h : ∀ w, Sat B G S w → F (.tuple #[.agg cs.toArray, v]) w) : WX n (FPost P fn F) .ret B env G S :=
  ⟨fun ac w sa sw => by
    refine FEnd.clean (sa.defers.trans Clean.h) ⟨_, ?_, _, rfl, h w sw⟩
    have h1 := sa.get t _ hv
    have h2 := sa.get r _ hu
    have e := run_loadVar_agg (T := T) (a := ⟨b, 0, none⟩) (cs := cs) w hT.h (by rw [hl.h]; exact hs.h) (fun j v hj => by rw [Addr.add_none, sw.box_cell hm.h, Nat.zero_add]; exact hj)
    simp [results, hr, h1, h2, e, asAddr]⟩
end
/-! ### Add, Cut. -/
abbrev kpO (v : Value) (l : List KpI) : Res := own 126 88 v l.length (flat (l.map kpV))
def raddE (most : Int) (l : List KpI) (x : OpF) : Int :=
  if ¬ (0 < x.n ∧ 0 < x.t) then 1 else if x.n ≤ getC (knF l) x.o then 34 else if 1 < x.n - getC (knF l) x.o then 6 else if most ≤ (lenR l : Int) then 24 else 0
abbrev raddL (most : Int) (l : List KpI) (x : OpF) : List KpI := if raddE most l x = 0 then l ++ [(x, false)] else l
set_option maxHeartbeats 6400000 in
set_option synthInstance.maxSize 2000 in
set_option synthInstance.maxHeartbeats 400000 in
theorem radd16_fun (l : List KpI) (lv : Value) (most : Int) (hl : l.length ≤ 1000) (ho : ∀ a ∈ l, 1 ≤ a.1.o ∧ a.1.o ≤ 64) (o : Int) (n t : Nat) (f : List Nat) (hx : okOF ⟨o, n, t, f, 1⟩) (ho2 : 1 ≤ o ∧ o ≤ 64) (ht : t ≤ 1099511627776) (hg : 0 < n → getC f o + 1 = n) :
    Fun Try.prog 46 [lgV lv most, opFV o n t f 1] [rd (Ty.sl kpT) l lv] [] (fun z G S => ∃ u, z = .tuple #[lgV u most, .int .i64 (raddE most l ⟨o, n, t, f, 1⟩)] ∧ G = [rd (Ty.sl kpT) (raddL most l ⟨o, n, t, f, 1⟩) u] ∧ S = []) := by
  have hfl : f.length = 64 := hx.2.2.2.1.1
  have i1 : Len64 f := ⟨hfl⟩
  have hn : n < 18446744073709551616 := hx.2.1
  have i2 : Len64 ({ o := o, n := n, t := t, f := f, k := 1 } : OpF).f := ⟨hfl⟩
  have hkl := knF_len l
  obtain ⟨ho1, ho3⟩ := ho2
  refine Fun.enter Try.func46 (by kernel_rfl) rfl Try.ntmps46 rfl (fun B Gf Sf => ?_); (try simp only [List.cons_append]); (try simp only [List.nil_append]); simp only [argEnv]
  refine WC.ex (fun w sw => sw.slOne (v := lv) RdSl.h) (fun hlv => ?_)
  refine WC.ex (fun w sw => sw.oks (f := kpV) (ok := fun a => okOF a.1) (R := kpT) (l := l) (v := lv) RdSl.h) (fun okL => ?_)
  (repeat (first | refine vgo ?_ | refine ⟨_, rfl, rfl, ?_⟩ | refine ⟨_, rfl, ?_⟩ | refine ⟨rfl, ?_⟩ | intro hb | refine altA ?_ | refine altR ?_ | refine sideA ?_ | refine decTA ?_ | refine decFA ?_ | refine decNA ?_ | refine decBTA ?_ | refine decBFA ?_ | refine ⟨_, by assumption, ?_⟩ | refine ⟨_, _, _, rfl, ?_⟩ | refine WC.seq (fun K hK => ?_) | (refine hK _ _ _ ?_; clear hK K) | (refine hK _ _ _ _ rfl ?_; clear hK K) | (refine WX.thenExit (K := K) ?_; clear hK K) | (refine WX.thenExit (K := KL) ?_; clear hL KL)))
  (first | refine WL.boxA rfl rfl ?_ | refine WL.box rfl rfl rfl ?_); intro b2
  (repeat (first | refine vgo ?_ | refine ⟨_, rfl, rfl, ?_⟩ | refine ⟨_, rfl, ?_⟩ | refine ⟨rfl, ?_⟩ | intro hb | refine altA ?_ | refine altR ?_ | refine sideA ?_ | refine decTA ?_ | refine decFA ?_ | refine decNA ?_ | refine decBTA ?_ | refine decBFA ?_ | refine ⟨_, by assumption, ?_⟩ | refine ⟨_, _, _, rfl, ?_⟩ | refine WC.seq (fun K hK => ?_) | (refine hK _ _ _ ?_; clear hK K) | (refine hK _ _ _ _ rfl ?_; clear hK K) | (refine WX.thenExit (K := K) ?_; clear hK K) | (refine WX.thenExit (K := KL) ?_; clear hL KL)))
  (first | refine WL.boxA rfl rfl ?_ | refine WL.box rfl rfl rfl ?_); intro b3
  refine WL.alloc rfl ?_; intro b4
  (repeat (first | refine vgo ?_ | refine ⟨_, rfl, rfl, ?_⟩ | refine ⟨_, rfl, ?_⟩ | refine ⟨rfl, ?_⟩ | intro hb | refine altA ?_ | refine altR ?_ | refine sideA ?_ | refine decTA ?_ | refine decFA ?_ | refine decNA ?_ | refine decBTA ?_ | refine decBFA ?_ | refine ⟨_, by assumption, ?_⟩ | refine ⟨_, _, _, rfl, ?_⟩ | refine WC.seq (fun K hK => ?_) | (refine hK _ _ _ ?_; clear hK K) | (refine hK _ _ _ _ rfl ?_; clear hK K) | (refine WX.thenExit (K := K) ?_; clear hK K) | (refine WX.thenExit (K := KL) ?_; clear hL KL)))
  refine CallV.by' (rright14_fun o n t f ⟨ho1, ho3⟩ ht hn hx.2.2.2.1 hg) ?_; rintro _ _ _ ⟨rfl, rfl, rfl⟩; (try simp only [List.cons_append]); (try simp only [List.nil_append])
  by_cases h1 : ¬ (0 < n ∧ 0 < t)
  · have hE : raddE most l ⟨o, n, t, f, 1⟩ = 1 := if_pos h1
    rw [decide_eq_false h1]
    (repeat (first | refine vgo ?_ | refine ⟨_, rfl, rfl, ?_⟩ | refine ⟨_, rfl, ?_⟩ | refine ⟨rfl, ?_⟩ | intro hb | refine altA ?_ | refine altR ?_ | refine sideA ?_ | refine decTA ?_ | refine decFA ?_ | refine decNA ?_ | refine decBTA ?_ | refine decBFA ?_ | refine ⟨_, by assumption, ?_⟩ | refine ⟨_, _, _, rfl, ?_⟩ | refine WC.seq (fun K hK => ?_) | (refine hK _ _ _ ?_; clear hK K) | (refine hK _ _ _ _ rfl ?_; clear hK K) | (refine WX.thenExit (K := K) ?_; clear hK K) | (refine WX.thenExit (K := KL) ?_; clear hL KL)))
    exact WX.retCT rfl rfl rfl rfl (fun w sw => ⟨[rd (Ty.sl kpT) l lv], [], ⟨lv, by rw [hE], by rw [show raddL most l ⟨o, n, t, f, 1⟩ = l from if_neg (by rw [hE]; decide)], rfl⟩, sw.to⟩)
  rw [decide_eq_true (Classical.not_not.1 h1)]
  have kni : ∀ {G : List Pers} [RdSl lv G kpT l], PureF Try.prog 16 [lgV lv most] G True (fV (knF l)) := fun {G} [i : RdSl lv G kpT l] => ⟨fun _ => ⟨_, by simpa using i.h, rknown16_fun l lv most (by omega) ho⟩⟩
  have hget : ((knF l).map uV)[(o - 1).toNat]? = some (.int .u64 ((getC (knF l) o : Nat) : Int)) := by
    rw [List.getElem?_map]
    unfold getC
    rw [if_neg (by omega), List.getD_eq_getElem?_getD, List.getElem?_eq_getElem (by omega)]
    rfl
  (repeat (first | refine vgo ?_ | refine ⟨_, rfl, rfl, ?_⟩ | refine ⟨_, rfl, ?_⟩ | refine ⟨rfl, ?_⟩ | intro hb | refine altA ?_ | refine altR ?_ | refine sideA ?_ | refine decTA ?_ | refine decFA ?_ | refine decNA ?_ | refine decBTA ?_ | refine decBFA ?_ | refine ⟨_, by assumption, ?_⟩ | refine ⟨_, _, _, rfl, ?_⟩ | refine WC.seq (fun K hK => ?_) | (refine hK _ _ _ ?_; clear hK K) | (refine hK _ _ _ _ rfl ?_; clear hK K) | (refine WX.thenExit (K := K) ?_; clear hK K) | (refine WX.thenExit (K := KL) ?_; clear hL KL)))
  (apply WC.drawE; exact rfl; focus (repeat (first | exact Wo.nil | (apply Wo.keep; exact rfl) | (apply Wo.drop; exact rfl)))); (repeat refine ObP3.c0A ?_); try (refine ObP3.nil ?_; (repeat (intro _)); (conv => whnf); (try dsimp only [envO, List.cons_append, List.nil_append]))
  by_cases h2 : (n : Int) ≤ ((getC (knF l) o : Nat) : Int)
  · have hE : raddE most l ⟨o, n, t, f, 1⟩ = 34 := (if_neg h1).trans (if_pos (by dsimp only; omega))
    (repeat (first | refine vgo ?_ | refine ⟨_, rfl, rfl, ?_⟩ | refine ⟨_, rfl, ?_⟩ | refine ⟨rfl, ?_⟩ | intro hb | refine altA ?_ | refine altR ?_ | refine sideA ?_ | refine decTA ?_ | refine decFA ?_ | refine decNA ?_ | refine decBTA ?_ | refine decBFA ?_ | refine ⟨_, by assumption, ?_⟩ | refine ⟨_, _, _, rfl, ?_⟩ | refine WC.seq (fun K hK => ?_) | (refine hK _ _ _ ?_; clear hK K) | (refine hK _ _ _ _ rfl ?_; clear hK K) | (refine WX.thenExit (K := K) ?_; clear hK K) | (refine WX.thenExit (K := KL) ?_; clear hL KL)))
    exact WX.retCT rfl rfl rfl rfl (fun w sw => ⟨[rd (Ty.sl kpT) l lv], [], ⟨lv, by rw [hE], by rw [show raddL most l ⟨o, n, t, f, 1⟩ = l from if_neg (by rw [hE]; decide)], rfl⟩, sw.to⟩)
  by_cases h3 : 1 < (n : Int) - ((getC (knF l) o : Nat) : Int)
  · have hE : raddE most l ⟨o, n, t, f, 1⟩ = 6 := (if_neg h1).trans ((if_neg (by dsimp only; omega)).trans (if_pos (by dsimp only; omega)))
    (repeat (first | refine vgo ?_ | refine ⟨_, rfl, rfl, ?_⟩ | refine ⟨_, rfl, ?_⟩ | refine ⟨rfl, ?_⟩ | intro hb | refine altA ?_ | refine altR ?_ | refine sideA ?_ | refine decTA ?_ | refine decFA ?_ | refine decNA ?_ | refine decBTA ?_ | refine decBFA ?_ | refine ⟨_, by assumption, ?_⟩ | refine ⟨_, _, _, rfl, ?_⟩ | refine WC.seq (fun K hK => ?_) | (refine hK _ _ _ ?_; clear hK K) | (refine hK _ _ _ _ rfl ?_; clear hK K) | (refine WX.thenExit (K := K) ?_; clear hK K) | (refine WX.thenExit (K := KL) ?_; clear hL KL)))
    exact WX.retCT rfl rfl rfl rfl (fun w sw => ⟨[rd (Ty.sl kpT) l lv], [], ⟨lv, by rw [hE], by rw [show raddL most l ⟨o, n, t, f, 1⟩ = l from if_neg (by rw [hE]; decide)], rfl⟩, sw.to⟩)
  by_cases h4 : most ≤ ((lenR l : Nat) : Int)
  · have hE : raddE most l ⟨o, n, t, f, 1⟩ = 24 := (if_neg h1).trans ((if_neg (by dsimp only; omega)).trans ((if_neg (by dsimp only; omega)).trans (if_pos h4)))
    (repeat (first | refine vgo ?_ | refine ⟨_, rfl, rfl, ?_⟩ | refine ⟨_, rfl, ?_⟩ | refine ⟨rfl, ?_⟩ | intro hb | refine altA ?_ | refine altR ?_ | refine sideA ?_ | refine decTA ?_ | refine decFA ?_ | refine decNA ?_ | refine decBTA ?_ | refine decBFA ?_ | refine ⟨_, by assumption, ?_⟩ | refine ⟨_, _, _, rfl, ?_⟩ | refine WC.seq (fun K hK => ?_) | (refine hK _ _ _ ?_; clear hK K) | (refine hK _ _ _ _ rfl ?_; clear hK K) | (refine WX.thenExit (K := K) ?_; clear hK K) | (refine WX.thenExit (K := KL) ?_; clear hL KL)))
    (apply WC.drawE; exact rfl; focus (repeat (first | exact Wo.nil | (apply Wo.keep; exact rfl) | (apply Wo.drop; exact rfl)))); (repeat refine ObP3.c0A ?_); try (refine ObP3.nil ?_; (repeat (intro _)); (conv => whnf); (try dsimp only [envO, List.cons_append, List.nil_append]))
    (repeat (first | refine vgo ?_ | refine ⟨_, rfl, rfl, ?_⟩ | refine ⟨_, rfl, ?_⟩ | refine ⟨rfl, ?_⟩ | intro hb | refine altA ?_ | refine altR ?_ | refine sideA ?_ | refine decTA ?_ | refine decFA ?_ | refine decNA ?_ | refine decBTA ?_ | refine decBFA ?_ | refine ⟨_, by assumption, ?_⟩ | refine ⟨_, _, _, rfl, ?_⟩ | refine WC.seq (fun K hK => ?_) | (refine hK _ _ _ ?_; clear hK K) | (refine hK _ _ _ _ rfl ?_; clear hK K) | (refine WX.thenExit (K := K) ?_; clear hK K) | (refine WX.thenExit (K := KL) ?_; clear hL KL)))
    exact WX.retCT rfl rfl rfl rfl (fun w sw => ⟨[rd (Ty.sl kpT) l lv], [], ⟨lv, by rw [hE], by rw [show raddL most l ⟨o, n, t, f, 1⟩ = l from if_neg (by rw [hE]; decide)], rfl⟩, sw.to⟩)
  have hE : raddE most l ⟨o, n, t, f, 1⟩ = 0 := (if_neg h1).trans ((if_neg (by dsimp only; omega)).trans ((if_neg (by dsimp only; omega)).trans (if_neg h4)))
  (repeat (first | refine vgo ?_ | refine ⟨_, rfl, rfl, ?_⟩ | refine ⟨_, rfl, ?_⟩ | refine ⟨rfl, ?_⟩ | intro hb | refine altA ?_ | refine altR ?_ | refine sideA ?_ | refine decTA ?_ | refine decFA ?_ | refine decNA ?_ | refine decBTA ?_ | refine decBFA ?_ | refine ⟨_, by assumption, ?_⟩ | refine ⟨_, _, _, rfl, ?_⟩ | refine WC.seq (fun K hK => ?_) | (refine hK _ _ _ ?_; clear hK K) | (refine hK _ _ _ _ rfl ?_; clear hK K) | (refine WX.thenExit (K := K) ?_; clear hK K) | (refine WX.thenExit (K := KL) ?_; clear hL KL)))
  (apply WC.drawE; exact rfl; focus (repeat (first | exact Wo.nil | (apply Wo.keep; exact rfl) | (apply Wo.drop; exact rfl)))); (repeat refine ObP3.c0A ?_); try (refine ObP3.nil ?_; (repeat (intro _)); (conv => whnf); (try dsimp only [envO, List.cons_append, List.nil_append]))
  (repeat (first | refine vgo ?_ | refine ⟨_, rfl, rfl, ?_⟩ | refine ⟨_, rfl, ?_⟩ | refine ⟨rfl, ?_⟩ | intro hb | refine altA ?_ | refine altR ?_ | refine sideA ?_ | refine decTA ?_ | refine decFA ?_ | refine decNA ?_ | refine decBTA ?_ | refine decBFA ?_ | refine ⟨_, by assumption, ?_⟩ | refine ⟨_, _, _, rfl, ?_⟩ | refine WC.seq (fun K hK => ?_) | (refine hK _ _ _ ?_; clear hK K) | (refine hK _ _ _ _ rfl ?_; clear hK K) | (refine WX.thenExit (K := K) ?_; clear hK K) | (refine WX.thenExit (K := KL) ?_; clear hL KL)))
  refine WC.drawV (S := (box b3 66 (opFC o n t f 1) :: box b2 29 [lv, .int .i64 most] :: Sf)) ([[box b4 29 [.slice none 0 0, .int .i64 0]]]) rfl (by repeat (first | exact Wo.nil | (apply Wo.keep; exact rfl) | (apply Wo.drop; exact rfl))) (fun w sw => by (try simp only [List.flatten_cons, List.flatten_nil, List.append_nil, List.cons_append, List.nil_append]); exact sw.to) ?_; (try dsimp only [chunks])
  (repeat refine ObP3.c0A ?_); try (refine ObP3.nil ?_; (repeat (intro _)); (conv => whnf); (try dsimp only [envO, List.cons_append, List.nil_append]))
  (apply ObP3.cons1 [] [0]; (focus ((repeat (intro _)); (conv => whnf); (try dsimp only [envO, List.cons_append, List.nil_append]); (repeat (first | refine vgo ?_ | refine ⟨_, rfl, rfl, ?_⟩ | refine ⟨_, rfl, ?_⟩ | refine ⟨rfl, ?_⟩ | intro hb | refine altA ?_ | refine altR ?_ | refine sideA ?_ | refine decTA ?_ | refine decFA ?_ | refine decNA ?_ | refine decBTA ?_ | refine decBFA ?_ | refine ⟨_, by assumption, ?_⟩ | refine ⟨_, _, _, rfl, ?_⟩ | refine WC.seq (fun K hK => ?_) | (refine hK _ _ _ ?_; clear hK K) | (refine hK _ _ _ _ rfl ?_; clear hK K) | (refine WX.thenExit (K := K) ?_; clear hK K) | (refine WX.thenExit (K := KL) ?_; clear hL KL))); first | exact WX.pgHeadV rfl | exact WX.pgHead | exact WX.pgOwn rfl)); exact rfl)
  (repeat refine ObP3.c0B ?_); try (refine ObP3.nil ?_; (repeat (intro _)); (conv => whnf); (try dsimp only [envO, List.cons_append, List.nil_append]))
  (apply ObP3.cons1 [] [3, 6]; (focus ((repeat (intro _)); (conv => whnf); (try dsimp only [envO, List.cons_append, List.nil_append]); (repeat (first | refine vgo ?_ | refine ⟨_, rfl, rfl, ?_⟩ | refine ⟨_, rfl, ?_⟩ | refine ⟨rfl, ?_⟩ | intro hb | refine altA ?_ | refine altR ?_ | refine sideA ?_ | refine decTA ?_ | refine decFA ?_ | refine decNA ?_ | refine decBTA ?_ | refine decBFA ?_ | refine ⟨_, by assumption, ?_⟩ | refine ⟨_, _, _, rfl, ?_⟩ | refine WC.seq (fun K hK => ?_) | (refine hK _ _ _ ?_; clear hK K) | (refine hK _ _ _ _ rfl ?_; clear hK K) | (refine WX.thenExit (K := K) ?_; clear hK K) | (refine WX.thenExit (K := KL) ?_; clear hL KL))); first | exact WX.pgHeadV rfl | exact WX.pgHead | exact WX.pgOwn rfl)); exact rfl)
  (repeat refine ObP3.c0B ?_); try (refine ObP3.nil ?_; (repeat (intro _)); (conv => whnf); (try dsimp only [envO, List.cons_append, List.nil_append]))
  refine ObP3.cons1 [] [7] (.ex Value (fun u => lgV u most) (fun _ => []) (fun u => [own 126 88 u (0 + l.length + 1) ([] ++ flat (l.map kpV) ++ (kpC (⟨o, n, t, f, 1⟩, false) ++ []))])) ?_ rfl ?_
  · (repeat (intro _)); (conv => whnf); (try dsimp only [envO, List.cons_append, List.nil_append])
    (repeat (first | refine vgo ?_ | refine ⟨_, rfl, rfl, ?_⟩ | refine ⟨_, rfl, ?_⟩ | refine ⟨rfl, ?_⟩ | intro hb | refine altA ?_ | refine altR ?_ | refine sideA ?_ | refine decTA ?_ | refine decFA ?_ | refine decNA ?_ | refine decBTA ?_ | refine decBFA ?_ | refine ⟨_, by assumption, ?_⟩ | refine ⟨_, _, _, rfl, ?_⟩ | refine WC.seq (fun K hK => ?_) | (refine hK _ _ _ ?_; clear hK K) | (refine hK _ _ _ _ rfl ?_; clear hK K) | (refine WX.thenExit (K := K) ?_; clear hK K) | (refine WX.thenExit (K := KL) ?_; clear hL KL)))
    rename_i u7 _ _ _
    exact WX.pgEx (fv := fun u => lgV u most) u7 rfl (fun w sw => sw.to)
  refine ObP3.cons1 [] [10, 1000] (.ex Value (fun _ => undef) (fun _ => []) (fun u => [box b4 29 [u, .int .i64 most], own 126 88 u (0 + l.length + 1) ([] ++ flat (l.map kpV) ++ (kpC (⟨o, n, t, f, 1⟩, false) ++ []))])) ?_ rfl ?_
  · (repeat (intro _)); (conv => whnf); (try dsimp only [envO, List.cons_append, List.nil_append])
    (repeat (first | refine vgo ?_ | refine ⟨_, rfl, rfl, ?_⟩ | refine ⟨_, rfl, ?_⟩ | refine ⟨rfl, ?_⟩ | intro hb | refine altA ?_ | refine altR ?_ | refine sideA ?_ | refine decTA ?_ | refine decFA ?_ | refine decNA ?_ | refine decBTA ?_ | refine decBFA ?_ | refine ⟨_, by assumption, ?_⟩ | refine ⟨_, _, _, rfl, ?_⟩ | refine WC.seq (fun K hK => ?_) | (refine hK _ _ _ ?_; clear hK K) | (refine hK _ _ _ _ rfl ?_; clear hK K) | (refine WX.thenExit (K := K) ?_; clear hK K) | (refine WX.thenExit (K := KL) ?_; clear hL KL)))
    rename_i w1 _ _ _ _ _
    exact WX.pgEx0 w1 (fun w sw => sw.to)
  (repeat refine ObP3.c0B ?_); try (refine ObP3.nil ?_; (repeat (intro _)); (conv => whnf); (try dsimp only [envO, List.cons_append, List.nil_append]))
  (repeat (first | refine vgo ?_ | refine ⟨_, rfl, rfl, ?_⟩ | refine ⟨_, rfl, ?_⟩ | refine ⟨rfl, ?_⟩ | intro hb | refine altA ?_ | refine altR ?_ | refine sideA ?_ | refine decTA ?_ | refine decFA ?_ | refine decNA ?_ | refine decBTA ?_ | refine decBFA ?_ | refine ⟨_, by assumption, ?_⟩ | refine ⟨_, _, _, rfl, ?_⟩ | refine WC.seq (fun K hK => ?_) | (refine hK _ _ _ ?_; clear hK K) | (refine hK _ _ _ _ rfl ?_; clear hK K) | (refine WX.thenExit (K := K) ?_; clear hK K) | (refine WX.thenExit (K := KL) ?_; clear hL KL)))
  rename_i w0 _ _ _ _ _ _
  refine WX.retCT rfl rfl rfl rfl (fun w sw => ⟨[rd (Ty.sl kpT) (l ++ [(⟨o, n, t, f, 1⟩, false)]) w0], [], ⟨w0, by rw [hE], by rw [show raddL most l ⟨o, n, t, f, 1⟩ = l ++ [(⟨o, n, t, f, 1⟩, false)] from if_pos hE], rfl⟩, ?_⟩)
  have e2 : flat ((l ++ [((⟨o, n, t, f, 1⟩ : OpF), false)]).map kpV) = flat (l.map kpV) ++ kpC (⟨o, n, t, f, 1⟩, false) := by rw [List.map_append]; exact flat_snoc _ _
  have e1 : own 126 88 w0 (0 + l.length + 1) (flat (l.map kpV) ++ (.int .i64 o :: .int .u64 (n : Int) :: .int .u64 (t : Int) :: (f.map uV ++ kTail 1 false ++ []))) = kpO w0 (l ++ [(⟨o, n, t, f, 1⟩, false)]) := by
    unfold kpO; rw [e2, List.length_append, Nat.zero_add, List.append_nil]; rfl
  have sw2 : Sat B (rd (Ty.sl kpT) l lv :: Gf) (own 126 88 w0 (0 + l.length + 1) (flat (l.map kpV) ++ (.int .i64 o :: .int .u64 (n : Int) :: .int .u64 (t : Int) :: (f.map uV ++ kTail 1 false ++ []))) :: Sf) w := sw.to
  rw [e1] at sw2
  exact (sw2.pub (R := kpT) (l := l ++ [(⟨o, n, t, f, 1⟩, false)]) (v := w0) SelOwn.h rfl rfl rfl (fun a ha => by
    rcases List.mem_append.1 ha with ha | ha
    · exact okL a ha
    · rw [List.mem_singleton] at ha; rw [ha]; exact hx)).to
end
/-! ### The log: the document's Cut. -/
section
open Go Go.Proofs
theorem set_self {α : Type} : ∀ {l : List α} {i : Nat} {a : α}, l[i]? = some a → l.set i a = l
  | [], _, _, h => by simp at h
  | x :: l, 0, a, h => by simp only [List.getElem?_cons_zero, Option.some.injEq] at h; subst h; rfl
  | x :: l, i + 1, a, h => by
    rw [List.getElem?_cons_succ] at h
    rw [List.set_cons_succ, set_self h]
end
end Go.Qd
