/-
  What waits: an act's operation.
-/
import Derived.Test.YtijebmblhakbpaaPHold3
import Derived.Test.YtijebmblhakbpaaPOps
namespace Go.Qd
/-! ### What waits: an act's operation. -/
section
/-! ### What waits: an act's operation. -/
section
open Go Go.Proofs
end
/-! ### What waits: the chapter's example. -/
section
open Go Go.Proofs
end
/-! ### What waits: the law of Due and Old. -/
section
open Go Go.Proofs
def dueQ (kn : List Nat) (o : Int) (n : Nat) (c : List Nat) : Bool := decide ((n : Int) = IntKind.u64.wrap ((getC kn o : Nat) + 1) ∧ withinL c kn)
instance hdue_pure {G : List Pers} {o : Int} {n t : Nat} {c kn : List Nat} {d kv : Value} {k : Int} [i : RdSl d G Ty.u64 c] [j : RdSl kv G Ty.u64 kn] : PureF Try.prog 56 [opV o n t d k, kv] G (1 ≤ o) (.bool (dueQ kn o n c)) :=
  ⟨fun h => ⟨_, by simpa using ⟨i.h, j.h⟩, hdue_fun ⟨o, n, t, c, d, k⟩ kn kv h⟩⟩
instance hold_pure {G : List Pers} {o : Int} {n t : Nat} {c kn : List Nat} {d kv : Value} {k : Int} [i : RdSl d G Ty.u64 c] [j : RdSl kv G Ty.u64 kn] : PureF Try.prog 55 [opV o n t d k, kv] G (1 ≤ o) (.bool (decide (n ≤ getC kn o))) :=
  ⟨fun h => ⟨_, by simpa using ⟨i.h, j.h⟩, hold_fun ⟨o, n, t, c, d, k⟩ kn kv h⟩⟩
instance rdue_pure {G : List Pers} {o : Int} {n t : Nat} {f g : List Nat} {k : Int} : PureF Try.prog 75 [opFV o n t f k, fV g] G (okF f ∧ okF g) (.bool (dueF g o n f)) := ⟨fun h => PureF.of0 (due_fun o n t f k g h.1 h.2)⟩
instance rold_pure {G : List Pers} {o : Int} {n t : Nat} {f g : List Nat} {k : Int} : PureF Try.prog 74 [opFV o n t f k, fV g] G (okF f ∧ okF g) (.bool (decide (n ≤ getC g o))) := ⟨fun h => PureF.of0 (old_fun o n t f k g h.1 h.2)⟩
end
end
/-! ### What waits: All, Len, Drop; and what nothing answers. -/
section
/-! ### What waits: All, Len, Drop; and what nothing answers. -/
section
open Go Go.Proofs
theorem hdrop1_fun (x : OpT) (kn : List Nat) (kv : Value) (bk : Nat) (ho : 1 ≤ x.o) : Fun Try.prog 105 [x.V, .pointer (some ⟨bk, 0, none⟩)] [rd (Ty.sl Ty.u64) x.c x.d, rd (Ty.sl Ty.u64) kn kv] [box bk 39 [kv]] (fun r G S => r = .bool (decide (x.n ≤ getC kn x.o)) ∧ G = [] ∧ S = [box bk 39 [kv]]) := by
  refine Fun.enter Try.func105 (by kernel_rfl) rfl Try.ntmps105 rfl (fun B Gf Sf => ?_); (try simp only [List.cons_append]); (try simp only [List.nil_append]); simp only [argEnv]
  refine WC.ex (fun w sw => sw.slOne (v := x.d) RdSl.h) (fun hd1 => ?_)
  (repeat (first | refine vgo ?_ | refine ⟨_, rfl, rfl, ?_⟩ | refine ⟨_, rfl, ?_⟩ | refine ⟨rfl, ?_⟩ | intro hb | refine altA ?_ | refine altR ?_ | refine sideA ?_ | refine decTA ?_ | refine decFA ?_ | refine decNA ?_ | refine decBTA ?_ | refine decBFA ?_ | refine ⟨_, by assumption, ?_⟩ | refine ⟨_, _, _, rfl, ?_⟩ | refine WC.seq (fun K hK => ?_) | (refine hK _ _ _ ?_; clear hK K) | (refine hK _ _ _ _ rfl ?_; clear hK K) | (refine WX.thenExit (K := K) ?_; clear hK K) | (refine WX.thenExit (K := KL) ?_; clear hL KL)))
  (first | refine WL.boxA rfl rfl ?_ | refine WL.box rfl rfl rfl ?_); intro b1
  (repeat (first | refine vgo ?_ | refine ⟨_, rfl, rfl, ?_⟩ | refine ⟨_, rfl, ?_⟩ | refine ⟨rfl, ?_⟩ | intro hb | refine altA ?_ | refine altR ?_ | refine sideA ?_ | refine decTA ?_ | refine decFA ?_ | refine decNA ?_ | refine decBTA ?_ | refine decBFA ?_ | refine ⟨_, by assumption, ?_⟩ | refine ⟨_, _, _, rfl, ?_⟩ | refine WC.seq (fun K hK => ?_) | (refine hK _ _ _ ?_; clear hK K) | (refine hK _ _ _ _ rfl ?_; clear hK K) | (refine WX.thenExit (K := K) ?_; clear hK K) | (refine WX.thenExit (K := KL) ?_; clear hL KL)))
  exact WX.ret1 rfl rfl (fun w sw => ⟨_, _, ⟨rfl, rfl, rfl⟩, sw.to⟩)
theorem hG_filter {q : OpT → Bool} {m : Hp} : ∀ {l : List OpT}, AllR (Ty.sl Ty.u64) (l.map OpT.c) (l.map OpT.d) m → AllR (Ty.sl Ty.u64) ((l.filter q).map OpT.c) ((l.filter q).map OpT.d) m
  | [], _ => trivial
  | x :: l, h => by
    rw [List.filter_cons]
    split
    · exact ⟨h.1, hG_filter h.2⟩
    · exact hG_filter h.2
theorem idxI_filter {p : OpT → Bool} {l : List OpT} (h : idxI p l = -1) : l.filter (fun x => !p x) = l := by
  refine List.filter_eq_self.2 fun x hx => ?_
  unfold idxI at h
  cases hf : l.findIdx? p with
  | none => rw [List.findIdx?_eq_none_iff] at hf; simp [hf x hx]
  | some i => rw [hf] at h; simp only [] at h; omega
def dfInv (l : List OpT) (q : OpT → Bool) (t : List Value) (cp j i : Nat) (cs : List Value) : Prop :=
  j ≤ l.length ∧ i < j ∧ i = ((l.take j).filter q).length ∧ cs.length = cp * 24 ∧ cs.take (i * 24) = opsC ((l.take j).filter q) ∧ cs.drop (j * 24) = opsC (l.drop j) ++ t
theorem dfInv_init {l : List OpT} {q : OpT → Bool} {t : List Value} {cp i : Nat} {x : OpT} (hx : l[i]? = some x) (hq : q x = false) (hn : ∀ y ∈ l.take i, q y = true) (hc : (opsC l ++ t).length = cp * 24) : dfInv l q t cp (i + 1) i (opsC l ++ t) := by
  have hil := (List.getElem?_eq_some_iff.1 hx).1
  have hf : (l.take (i + 1)).filter q = l.take i := by
    rw [take_snoc hx, List.filter_append, List.filter_eq_self.2 hn, List.filter_cons, hq]; simp
  have hl := opsC_len l
  refine ⟨hil, by omega, by rw [hf, List.length_take]; omega, hc, ?_, ?_⟩
  · rw [hf, List.take_append_of_le_length (by omega), opsC_take]
  · rw [List.drop_append_of_le_length (by omega), opsC_drop]
theorem dfInv_skip {l : List OpT} {q : OpT → Bool} {t : List Value} {cp j i : Nat} {cs : List Value} {x : OpT} (h : dfInv l q t cp j i cs) (hx : l[j]? = some x) (hq : q x = false) : dfInv l q t cp (j + 1) i cs := by
  obtain ⟨h1, h2, h3, h4, h5, h6⟩ := h
  have hil := (List.getElem?_eq_some_iff.1 hx).1
  have hf : (l.take (j + 1)).filter q = (l.take j).filter q := by rw [take_snoc hx, List.filter_append, List.filter_cons, hq]; simp
  refine ⟨hil, by omega, by rw [hf]; exact h3, h4, by rw [hf]; exact h5, ?_⟩
  rw [drop_head hx] at h6
  have := congrArg (List.drop 24) h6
  rw [List.drop_drop] at this
  rw [show (j + 1) * 24 = j * 24 + 24 from by omega, this]; rfl
theorem dfInv_seg {l : List OpT} {q : OpT → Bool} {t : List Value} {cp j i : Nat} {cs : List Value} {x : OpT} (h : dfInv l q t cp j i cs) (hx : l[j]? = some x) : (cs.drop (j * 24)).take 24 = x.C := by
  rw [h.2.2.2.2.2, drop_head hx]; rfl
theorem dfInv_keep {l : List OpT} {q : OpT → Bool} {t : List Value} {cp j i : Nat} {cs : List Value} {x : OpT} (h : dfInv l q t cp j i cs) (hx : l[j]? = some x) (hq : q x = true) (hcp : l.length ≤ cp) : dfInv l q t cp (j + 1) (i + 1) (lset cs (i * 24) x.C) := by
  obtain ⟨h1, h2, h3, h4, h5, h6⟩ := h
  have hil := (List.getElem?_eq_some_iff.1 hx).1
  have hf : (l.take (j + 1)).filter q = (l.take j).filter q ++ [x] := by rw [take_snoc hx, List.filter_append, List.filter_cons, hq]; simp
  have hxl : x.C.length = 24 := rfl
  have hb : i * 24 + x.C.length ≤ cs.length := by rw [hxl]; omega
  have hti : (cs.take (i * 24)).length = i * 24 := by rw [List.length_take]; omega
  rw [lset_eq _ _ _ hb]
  refine ⟨hil, by omega, by rw [hf, List.length_append, ← h3]; rfl, ?_, ?_, ?_⟩
  · simp only [List.length_append, List.length_take, List.length_drop, hxl]; omega
  · rw [List.take_append_of_le_length (by rw [List.length_append, hti, hxl]; omega), List.take_of_length_le (by rw [List.length_append, hti, hxl]; omega), hf, opsC_app, ← h5]
    congr 1
  · rw [drop_head hx] at h6
    have := congrArg (List.drop 24) h6
    rw [List.drop_drop] at this
    rw [show (j + 1) * 24 = (cs.take (i * 24) ++ x.C).length + (j * 24 + 24 - (i * 24 + 24)) from by rw [List.length_append, hti, hxl]; omega, ← List.drop_drop, List.drop_left, List.drop_drop, hxl, show i * 24 + 24 + (j * 24 + 24 - (i * 24 + 24)) = j * 24 + 24 from by omega, this]; rfl
theorem idxI_spec {p : OpT → Bool} {l : List OpT} {i : Nat} (h : idxI p l = (i : Int)) : ∃ x, l[i]? = some x ∧ p x = true ∧ ∀ y ∈ l.take i, p y = false := by
  unfold idxI at h
  cases hf : l.findIdx? p with
  | none => rw [hf] at h; simp only [] at h; omega
  | some k =>
    rw [hf] at h
    obtain rfl : k = i := by simp only [] at h; omega
    obtain ⟨hk, hp, hn⟩ := List.findIdx?_eq_some_iff_getElem.1 hf
    refine ⟨_, List.getElem?_eq_getElem hk, hp, fun y hy => ?_⟩
    obtain ⟨j, hj, rfl⟩ := List.mem_iff_getElem.1 hy
    rw [List.length_take] at hj
    have := hn j (by omega)
    rw [List.getElem_take]
    simpa using this
set_option maxHeartbeats 3200000 in
theorem hdelf_fun (f : FuncId) (c1 : Value) (S1 : Res) (g1 : Pers) (l : List OpT) (p : OpT → Bool) (v : Value) (hl : l.length ≤ 100000) (h1 : ∀ u ∈ opsC l, u.oneCell' = true)
    (hp : ∀ x ∈ l, Fun Try.prog f (x.V :: [c1]) (rd (Ty.sl Ty.u64) x.c x.d :: [g1]) [S1] (fun r G S => r = .bool (p x) ∧ G = [] ∧ S = [S1])) :
    Fun Try.prog 104 [v, .func (.func f) #[] (List.toArray [c1])] (hG l :: [g1]) (own 56 24 v l.length (opsC l) :: [S1])
    (fun r G S => G = [] ∧ S = own 56 24 r (l.filter (fun x => !p x)).length (opsC (l.filter (fun x => !p x))) :: [S1]) := by
  refine Fun.enter Try.func104 (by kernel_rfl) rfl Try.ntmps104 rfl (fun B Gf Sf => ?_); (try simp only [List.cons_append]); (try simp only [List.nil_append]); simp only [argEnv]
  (repeat (first | refine vgo ?_ | refine ⟨_, rfl, rfl, ?_⟩ | refine ⟨_, rfl, ?_⟩ | refine ⟨rfl, ?_⟩ | intro hb | refine altA ?_ | refine altR ?_ | refine sideA ?_ | refine decTA ?_ | refine decFA ?_ | refine decNA ?_ | refine decBTA ?_ | refine decBFA ?_ | refine ⟨_, by assumption, ?_⟩ | refine ⟨_, _, _, rfl, ?_⟩ | refine WC.seq (fun K hK => ?_) | (refine hK _ _ _ ?_; clear hK K) | (refine hK _ _ _ _ rfl ?_; clear hK K) | (refine WX.thenExit (K := K) ?_; clear hK K) | (refine WX.thenExit (K := KL) ?_; clear hL KL)))
  refine CallV.by' (hindex1_fun f c1 S1 g1 l p v hl hp) ?_; rintro _ _ _ ⟨rfl, rfl, rfl⟩; (try simp only [List.cons_append]); (try simp only [List.nil_append])
  rcases idxI_cases p l with hidx | ⟨i0, x0, hx0, hidx⟩
  · rw [hidx]
    have e := idxI_filter hidx
    (repeat (first | refine vgo ?_ | refine ⟨_, rfl, rfl, ?_⟩ | refine ⟨_, rfl, ?_⟩ | refine ⟨rfl, ?_⟩ | intro hb | refine altA ?_ | refine altR ?_ | refine sideA ?_ | refine decTA ?_ | refine decFA ?_ | refine decNA ?_ | refine decBTA ?_ | refine decBFA ?_ | refine ⟨_, by assumption, ?_⟩ | refine ⟨_, _, _, rfl, ?_⟩ | refine WC.seq (fun K hK => ?_) | (refine hK _ _ _ ?_; clear hK K) | (refine hK _ _ _ _ rfl ?_; clear hK K) | (refine WX.thenExit (K := K) ?_; clear hK K) | (refine WX.thenExit (K := KL) ?_; clear hL KL)))
    refine WX.ret1 rfl rfl (fun w sw => ⟨_, _, ⟨rfl, rfl⟩, ?_⟩)
    rw [e]
    exact sw.to
  · rw [hidx]
    have hil := (List.getElem?_eq_some_iff.1 hx0).1
    (repeat (first | refine vgo ?_ | refine ⟨_, rfl, rfl, ?_⟩ | refine ⟨_, rfl, ?_⟩ | refine ⟨rfl, ?_⟩ | intro hb | refine altA ?_ | refine altR ?_ | refine sideA ?_ | refine decTA ?_ | refine decFA ?_ | refine decNA ?_ | refine decBTA ?_ | refine decBFA ?_ | refine ⟨_, by assumption, ?_⟩ | refine ⟨_, _, _, rfl, ?_⟩ | refine WC.seq (fun K hK => ?_) | (refine hK _ _ _ ?_; clear hK K) | (refine hK _ _ _ _ rfl ?_; clear hK K) | (refine WX.thenExit (K := K) ?_; clear hK K) | (refine WX.thenExit (K := KL) ?_; clear hL KL)))
    refine WC.openOwn (v := v) (fun e m0 => by omega) (fun b cp cs e hmc hcp hcl hct => ?_)
    subst e
    obtain ⟨t, rfl⟩ : ∃ t, cs = opsC l ++ t := ⟨cs.drop (l.length * 24), by rw [← hct, List.take_append_drop]⟩
    obtain ⟨x0', hx0', hpx0, hn0⟩ := idxI_spec hidx
    refine WC.loop (I := Nat × Nat × List Value) (fun i => [(6, .int .i64 (i.1 : Nat)), (5, .int .i64 (i.2.1 : Nat)), (0, .slice (some ⟨b, 0, none⟩) l.length cp), (1, .func (.func f) #[] (List.toArray [c1]))]) (fun _ => hG l :: g1 :: Gf) (fun i => box b 56 i.2.2 :: S1 :: Sf) (fun i => dfInv l (fun x => !p x) t cp i.1 i.2.1 i.2.2) (fun i => l.length - i.1) (i0 + 1, i0, opsC l ++ t) (dfInv_init hx0' (by rw [hpx0]; rfl) (fun y hy => by rw [hn0 y hy]; rfl) hcl) (.cons rfl (.cons rfl (.cons rfl (.cons rfl .nil)))) (fun w h => h.to) ?_
    rintro ⟨j, i, cs⟩ hinv KL hL
    dsimp only at hinv
    have hji := hinv.2.1
    have hcl2 := hinv.2.2.2.1
    by_cases hj : j < l.length
    · obtain ⟨x, hx⟩ : ∃ x, l[j]? = some x := ⟨_, List.getElem?_eq_getElem hj⟩
      have is1 : SegC cs (j * 24) 24 x.C := ⟨dfInv_seg hinv hx, rfl⟩
      have hpx := hp x (List.mem_of_getElem? hx)
      refine WC.allGet (R := Ty.sl Ty.u64) (l := l.map OpT.c) (vs := l.map OpT.d) (i := j) (a := x.c) (.head _) (by rw [List.getElem?_map, hx]; rfl) (fun u hu => ?_)
      rw [List.getElem?_map, hx] at hu
      obtain rfl : x.d = u := Option.some.inj hu
      (repeat (first | refine vgo ?_ | refine ⟨_, rfl, rfl, ?_⟩ | refine ⟨_, rfl, ?_⟩ | refine ⟨rfl, ?_⟩ | intro hb | refine altA ?_ | refine altR ?_ | refine sideA ?_ | refine decTA ?_ | refine decFA ?_ | refine decNA ?_ | refine decBTA ?_ | refine decBFA ?_ | refine ⟨_, by assumption, ?_⟩ | refine ⟨_, _, _, rfl, ?_⟩ | refine WC.seq (fun K hK => ?_) | (refine hK _ _ _ ?_; clear hK K) | (refine hK _ _ _ _ rfl ?_; clear hK K) | (refine WX.thenExit (K := K) ?_; clear hK K) | (refine WX.thenExit (K := KL) ?_; clear hL KL)))
      refine WL.alloc rfl ?_; intro b7
      (repeat (first | refine vgo ?_ | refine ⟨_, rfl, rfl, ?_⟩ | refine ⟨_, rfl, ?_⟩ | refine ⟨rfl, ?_⟩ | intro hb | refine altA ?_ | refine altR ?_ | refine sideA ?_ | refine decTA ?_ | refine decFA ?_ | refine decNA ?_ | refine decBTA ?_ | refine decBFA ?_ | refine ⟨_, by assumption, ?_⟩ | refine ⟨_, _, _, rfl, ?_⟩ | refine WC.seq (fun K hK => ?_) | (refine hK _ _ _ ?_; clear hK K) | (refine hK _ _ _ _ rfl ?_; clear hK K) | (refine WX.thenExit (K := K) ?_; clear hK K) | (refine WX.thenExit (K := KL) ?_; clear hL KL)))
      refine CallV.by' (hpx) ?_; rintro _ _ _ ⟨rfl, rfl, rfl⟩; (try simp only [List.cons_append]); (try simp only [List.nil_append])
      cases hpp : p x with
      | true =>
        (repeat (first | refine vgo ?_ | refine ⟨_, rfl, rfl, ?_⟩ | refine ⟨_, rfl, ?_⟩ | refine ⟨rfl, ?_⟩ | intro hb | refine altA ?_ | refine altR ?_ | refine sideA ?_ | refine decTA ?_ | refine decFA ?_ | refine decNA ?_ | refine decBTA ?_ | refine decBFA ?_ | refine ⟨_, by assumption, ?_⟩ | refine ⟨_, _, _, rfl, ?_⟩ | refine WC.seq (fun K hK => ?_) | (refine hK _ _ _ ?_; clear hK K) | (refine hK _ _ _ _ rfl ?_; clear hK K) | (refine WX.thenExit (K := K) ?_; clear hK K) | (refine WX.thenExit (K := KL) ?_; clear hL KL)))
        exact (hL (j + 1, i, cs) (dfInv_skip hinv hx (by rw [hpp]; rfl)) (by dsimp only; omega)).conv (.cons rfl (.cons rfl (.cons rfl (.cons rfl .nil)))) (fun w h => h.to)
      | false =>
        (repeat (first | refine vgo ?_ | refine ⟨_, rfl, rfl, ?_⟩ | refine ⟨_, rfl, ?_⟩ | refine ⟨rfl, ?_⟩ | intro hb | refine altA ?_ | refine altR ?_ | refine sideA ?_ | refine decTA ?_ | refine decFA ?_ | refine decNA ?_ | refine decBTA ?_ | refine decBFA ?_ | refine ⟨_, by assumption, ?_⟩ | refine ⟨_, _, _, rfl, ?_⟩ | refine WC.seq (fun K hK => ?_) | (refine hK _ _ _ ?_; clear hK K) | (refine hK _ _ _ _ rfl ?_; clear hK K) | (refine WX.thenExit (K := K) ?_; clear hK K) | (refine WX.thenExit (K := KL) ?_; clear hL KL)))
        exact (hL (j + 1, i + 1, lset cs (i * 24) x.C) (dfInv_keep hinv hx (by rw [hpp]; rfl) hmc) (by dsimp only; omega)).conv (.cons rfl (.cons rfl (.cons rfl (.cons rfl .nil)))) (fun w h => h.to)
    · obtain rfl : j = l.length := by have := hinv.1; omega
      have hadr : adr b i cp 24 = ⟨b, i * 24, none⟩ := (adr_or b i cp 24).resolve_left (by omega)
      have hmul : (l.length - i) * 24 = l.length * 24 - i * 24 := Nat.sub_mul ..
      have hcm : l.length * 24 ≤ cp * 24 := Nat.mul_le_mul_right _ hmc
      (repeat (first | refine vgo ?_ | refine ⟨_, rfl, rfl, ?_⟩ | refine ⟨_, rfl, ?_⟩ | refine ⟨rfl, ?_⟩ | intro hb | refine altA ?_ | refine altR ?_ | refine sideA ?_ | refine decTA ?_ | refine decFA ?_ | refine decNA ?_ | refine decBTA ?_ | refine decBFA ?_ | refine ⟨_, by assumption, ?_⟩ | refine ⟨_, _, _, rfl, ?_⟩ | refine WC.seq (fun K hK => ?_) | (refine hK _ _ _ ?_; clear hK K) | (refine hK _ _ _ _ rfl ?_; clear hK K) | (refine WX.thenExit (K := K) ?_; clear hK K) | (refine WX.thenExit (K := KL) ?_; clear hL KL)))
      rw [hadr]
      refine WL.clear (b := b) (E := 56) (sz := 24) rfl rfl (by decide) (by dsimp only; omega) (fun cs' hl' ht' => ?_)
      dsimp only at hl' ht'
      (repeat (first | refine vgo ?_ | refine ⟨_, rfl, rfl, ?_⟩ | refine ⟨_, rfl, ?_⟩ | refine ⟨rfl, ?_⟩ | intro hb | refine altA ?_ | refine altR ?_ | refine sideA ?_ | refine decTA ?_ | refine decFA ?_ | refine decNA ?_ | refine decBTA ?_ | refine decBFA ?_ | refine ⟨_, by assumption, ?_⟩ | refine ⟨_, _, _, rfl, ?_⟩ | refine WC.seq (fun K hK => ?_) | (refine hK _ _ _ ?_; clear hK K) | (refine hK _ _ _ _ rfl ?_; clear hK K) | (refine WX.thenExit (K := K) ?_; clear hK K) | (refine WX.thenExit (K := KL) ?_; clear hL KL)))
      refine WX.ret1 rfl rfl (fun w sw => ⟨_, _, ⟨rfl, rfl⟩, ?_⟩)
      have sw2 := sw.closeOwn (b := b) (cp := cp) 24 i (by omega) (by omega) hcp
      rw [ht', hinv.2.2.2.2.1, List.take_length] at sw2
      have e3 : i = (l.filter fun x => !p x).length := by have := hinv.2.2.1; rw [List.take_length] at this; exact this
      rw [← e3]
      exact sw2.to
def dropL (l : List OpT) (kn : List Nat) : List OpT := l.filter fun x => !decide (x.n ≤ getC kn x.o)
theorem hdrop_fun (h most : Nat) (lv : Value) (l : List OpT) (kn : List Nat) (kv : Value) (hl : l.length ≤ 1000) (hlo : ∀ x ∈ l, 1 ≤ x.o) : Fun Try.prog 82 [.pointer (some ⟨h, 0, none⟩), kv] [hG l, rd (Ty.sl Ty.u64) kn kv] (hRes h most lv l)
    (fun r G S => ∃ lv', r = .int .i64 (((l.length : Nat) : Int) - (((dropL l kn).length : Nat) : Int)) ∧ G = [hG (dropL l kn)] ∧ S = hRes h most lv' (dropL l kn)) := by
  have hle : (dropL l kn).length ≤ l.length := List.length_filter_le _ _
  refine Fun.enter Try.func82 (by kernel_rfl) rfl Try.ntmps82 rfl (fun B Gf Sf => ?_); (try simp only [List.cons_append]); (try simp only [List.nil_append]); simp only [argEnv]
  refine WC.ex (fun w sw => sw.slOne (v := kv) RdSl.h) (fun hkv => ?_)
  refine WC.ex (fun w sw => ops_one (l := l) sw (.head _)) (fun hone => ?_)
  (repeat (first | refine vgo ?_ | refine ⟨_, rfl, rfl, ?_⟩ | refine ⟨_, rfl, ?_⟩ | refine ⟨rfl, ?_⟩ | intro hb | refine altA ?_ | refine altR ?_ | refine sideA ?_ | refine decTA ?_ | refine decFA ?_ | refine decNA ?_ | refine decBTA ?_ | refine decBFA ?_ | refine ⟨_, by assumption, ?_⟩ | refine ⟨_, _, _, rfl, ?_⟩ | refine WC.seq (fun K hK => ?_) | (refine hK _ _ _ ?_; clear hK K) | (refine hK _ _ _ _ rfl ?_; clear hK K) | (refine WX.thenExit (K := K) ?_; clear hK K) | (refine WX.thenExit (K := KL) ?_; clear hL KL)))
  (first | refine WL.boxA rfl rfl ?_ | refine WL.box rfl rfl rfl ?_); intro bk
  rw [hkv]
  (repeat (first | refine vgo ?_ | refine ⟨_, rfl, rfl, ?_⟩ | refine ⟨_, rfl, ?_⟩ | refine ⟨rfl, ?_⟩ | intro hb | refine altA ?_ | refine altR ?_ | refine sideA ?_ | refine decTA ?_ | refine decFA ?_ | refine decNA ?_ | refine decBTA ?_ | refine decBFA ?_ | refine ⟨_, by assumption, ?_⟩ | refine ⟨_, _, _, rfl, ?_⟩ | refine WC.seq (fun K hK => ?_) | (refine hK _ _ _ ?_; clear hK K) | (refine hK _ _ _ _ rfl ?_; clear hK K) | (refine WX.thenExit (K := K) ?_; clear hK K) | (refine WX.thenExit (K := KL) ?_; clear hL KL)))
  refine CallV.by' (hclone_fun lv l.length (opsC l) hone (by omega)) ?_; rintro _ _ _ ⟨rfl, rfl⟩; (try simp only [List.cons_append]); (try simp only [List.nil_append])
  rename_i vc
  (repeat (first | refine vgo ?_ | refine ⟨_, rfl, rfl, ?_⟩ | refine ⟨_, rfl, ?_⟩ | refine ⟨rfl, ?_⟩ | intro hb | refine altA ?_ | refine altR ?_ | refine sideA ?_ | refine decTA ?_ | refine decFA ?_ | refine decNA ?_ | refine decBTA ?_ | refine decBFA ?_ | refine ⟨_, by assumption, ?_⟩ | refine ⟨_, _, _, rfl, ?_⟩ | refine WC.seq (fun K hK => ?_) | (refine hK _ _ _ ?_; clear hK K) | (refine hK _ _ _ _ rfl ?_; clear hK K) | (refine WX.thenExit (K := K) ?_; clear hK K) | (refine WX.thenExit (K := KL) ?_; clear hL KL)))
  refine CallV.by' (hdelf_fun 105 (.pointer (some ⟨bk, 0, none⟩)) (box bk 39 [kv]) (rd (Ty.sl Ty.u64) kn kv) l (fun x => decide (x.n ≤ getC kn x.o)) vc (by omega) hone (fun x hx => hdrop1_fun x kn kv bk (hlo x hx))) ?_; rintro _ _ _ ⟨rfl, rfl⟩; (try simp only [List.cons_append]); (try simp only [List.nil_append])
  rename_i vd
  rw [show (l.filter fun x => !decide (x.n ≤ getC kn x.o)) = dropL l kn from rfl]
  (repeat (first | refine vgo ?_ | refine ⟨_, rfl, rfl, ?_⟩ | refine ⟨_, rfl, ?_⟩ | refine ⟨rfl, ?_⟩ | intro hb | refine altA ?_ | refine altR ?_ | refine sideA ?_ | refine decTA ?_ | refine decFA ?_ | refine decNA ?_ | refine decBTA ?_ | refine decBFA ?_ | refine ⟨_, by assumption, ?_⟩ | refine ⟨_, _, _, rfl, ?_⟩ | refine WC.seq (fun K hK => ?_) | (refine hK _ _ _ ?_; clear hK K) | (refine hK _ _ _ _ rfl ?_; clear hK K) | (refine WX.thenExit (K := K) ?_; clear hK K) | (refine WX.thenExit (K := KL) ?_; clear hL KL)))
  refine WX.ret1 rfl rfl (fun w sw => ⟨_, _, ⟨vd, rfl, rfl, rfl⟩, ?_⟩)
  have sw2 : Sat B (hG (dropL l kn) :: _) _ w := sw.more fun m hm => hG_filter (hm (hG l) (.head _))
  exact sw2.to
end
/-! ### What waits: the document's lists of operations. -/
section
open Go Go.Proofs
def hasF (l : List OpF) (o : Int) (n : Nat) : Bool := l.any fun x => decide (x.o = o ∧ x.n = n)
theorem any_drop {α : Type} {l : List α} {p : α → Bool} {i : Nat} {x : α} (hx : l[i]? = some x) (hp : p x = false) : (l.drop i).any p = (l.drop (i + 1)).any p := by
  rw [drop_head hx, List.any_cons, hp, Bool.false_or]
theorem rhas_fun (l : List OpF) (v : Value) (o : Int) (n : Nat) : Fun Try.prog 95 [v, .int .i64 o, .int .u64 n] [rd (Ty.sl opFT) l v] [] (fun r G S => r = .bool (hasF l o n) ∧ G = [] ∧ S = []) := by
  refine Fun.enter Try.func95 (by kernel_rfl) rfl Try.ntmps95 rfl (fun B Gf Sf => ?_); (try simp only [List.cons_append]); (try simp only [List.nil_append]); simp only [argEnv]
  refine WC.ex (fun w sw => sw.len_le (RdSl.h (v := v))) (fun hl => ?_)
  (repeat (first | refine vgo ?_ | refine ⟨_, rfl, rfl, ?_⟩ | refine ⟨_, rfl, ?_⟩ | refine ⟨rfl, ?_⟩ | intro hb | refine altA ?_ | refine altR ?_ | refine sideA ?_ | refine decTA ?_ | refine decFA ?_ | refine decNA ?_ | refine decBTA ?_ | refine decBFA ?_ | refine ⟨_, by assumption, ?_⟩ | refine ⟨_, _, _, rfl, ?_⟩ | refine WC.seq (fun K hK => ?_) | (refine hK _ _ _ ?_; clear hK K) | (refine hK _ _ _ _ rfl ?_; clear hK K) | (refine WX.thenExit (K := K) ?_; clear hK K) | (refine WX.thenExit (K := KL) ?_; clear hL KL)))
  refine WC.loop (I := Nat) (fun i => [(0, v), (1, .int .i64 o), (2, .int .u64 n), (7, .int .i64 (i : Nat))]) (fun _ => rd (Ty.sl opFT) l v :: Gf) (fun _ => Sf) (fun i => i ≤ l.length ∧ hasF l o n = (l.drop i).any fun x => decide (x.o = o ∧ x.n = n)) (fun i => l.length - i) 0 ⟨Nat.zero_le _, rfl⟩ (.cons rfl (.cons rfl (.cons rfl (.cons rfl .nil)))) (fun w h => h.to) ?_
  rintro i ⟨hi, he⟩ KL hL
  by_cases g : i < l.length
  · obtain ⟨x, hx⟩ : ∃ x, l[i]? = some x := ⟨_, List.getElem?_eq_getElem g⟩
    by_cases h1 : x.o = o
    · by_cases h2 : x.n = n
      · have hr : hasF l o n = true := by rw [he, drop_head hx, List.any_cons, decide_eq_true ⟨h1, h2⟩, Bool.true_or]
        (repeat (first | refine vgo ?_ | refine ⟨_, rfl, rfl, ?_⟩ | refine ⟨_, rfl, ?_⟩ | refine ⟨rfl, ?_⟩ | intro hb | refine altA ?_ | refine altR ?_ | refine sideA ?_ | refine decTA ?_ | refine decFA ?_ | refine decNA ?_ | refine decBTA ?_ | refine decBFA ?_ | refine ⟨_, by assumption, ?_⟩ | refine ⟨_, _, _, rfl, ?_⟩ | refine WC.seq (fun K hK => ?_) | (refine hK _ _ _ ?_; clear hK K) | (refine hK _ _ _ _ rfl ?_; clear hK K) | (refine WX.thenExit (K := K) ?_; clear hK K) | (refine WX.thenExit (K := KL) ?_; clear hL KL)))
        exact WX.ret1 rfl rfl (fun w sw => ⟨[], [], ⟨by rw [hr], rfl, rfl⟩, sw.to⟩)
      · rw [any_drop hx (decide_eq_false fun h => h2 h.2)] at he
        (repeat (first | refine vgo ?_ | refine ⟨_, rfl, rfl, ?_⟩ | refine ⟨_, rfl, ?_⟩ | refine ⟨rfl, ?_⟩ | intro hb | refine altA ?_ | refine altR ?_ | refine sideA ?_ | refine decTA ?_ | refine decFA ?_ | refine decNA ?_ | refine decBTA ?_ | refine decBFA ?_ | refine ⟨_, by assumption, ?_⟩ | refine ⟨_, _, _, rfl, ?_⟩ | refine WC.seq (fun K hK => ?_) | (refine hK _ _ _ ?_; clear hK K) | (refine hK _ _ _ _ rfl ?_; clear hK K) | (refine WX.thenExit (K := K) ?_; clear hK K) | (refine WX.thenExit (K := KL) ?_; clear hL KL)))
        exact (hL (i + 1) ⟨g, he⟩ (by omega)).conv (.cons rfl (.cons rfl (.cons rfl (.cons rfl .nil)))) (fun w h => h.to)
    · rw [any_drop hx (decide_eq_false fun h => h1 h.1)] at he
      (repeat (first | refine vgo ?_ | refine ⟨_, rfl, rfl, ?_⟩ | refine ⟨_, rfl, ?_⟩ | refine ⟨rfl, ?_⟩ | intro hb | refine altA ?_ | refine altR ?_ | refine sideA ?_ | refine decTA ?_ | refine decFA ?_ | refine decNA ?_ | refine decBTA ?_ | refine decBFA ?_ | refine ⟨_, by assumption, ?_⟩ | refine ⟨_, _, _, rfl, ?_⟩ | refine WC.seq (fun K hK => ?_) | (refine hK _ _ _ ?_; clear hK K) | (refine hK _ _ _ _ rfl ?_; clear hK K) | (refine WX.thenExit (K := K) ?_; clear hK K) | (refine WX.thenExit (K := KL) ?_; clear hL KL)))
      exact (hL (i + 1) ⟨g, he⟩ (by omega)).conv (.cons rfl (.cons rfl (.cons rfl (.cons rfl .nil)))) (fun w h => h.to)
  · have hr : hasF l o n = false := by rw [he, List.drop_of_length_le (by omega)]; rfl
    (repeat (first | refine vgo ?_ | refine ⟨_, rfl, rfl, ?_⟩ | refine ⟨_, rfl, ?_⟩ | refine ⟨rfl, ?_⟩ | intro hb | refine altA ?_ | refine altR ?_ | refine sideA ?_ | refine decTA ?_ | refine decFA ?_ | refine decNA ?_ | refine decBTA ?_ | refine decBFA ?_ | refine ⟨_, by assumption, ?_⟩ | refine ⟨_, _, _, rfl, ?_⟩ | refine WC.seq (fun K hK => ?_) | (refine hK _ _ _ ?_; clear hK K) | (refine hK _ _ _ _ rfl ?_; clear hK K) | (refine WX.thenExit (K := K) ?_; clear hK K) | (refine WX.thenExit (K := KL) ?_; clear hL KL)))
    exact WX.ret1 rfl rfl (fun w sw => ⟨[], [], ⟨by rw [hr], rfl, rfl⟩, sw.to⟩)
instance rhas_pure {G : List Pers} {l : List OpF} {v : Value} {o : Int} {n : Nat} [i : RdSl v G opFT l] : PureF Try.prog 95 [v, .int .i64 o, .int .u64 n] G True (.bool (hasF l o n)) := ⟨fun _ => ⟨_, by simpa using i.h, rhas_fun l v o n⟩⟩
def putFE (l : List OpF) (most : Int) (x : OpF) : Int := if hasF l x.o x.n then 7 else if most ≤ l.length then 25 else 0
def putFL (l : List OpF) (most : Int) (x : OpF) : List OpF := if hasF l x.o x.n then l else if most ≤ l.length then l else l ++ [x]
theorem rput_fun (l : List OpF) (v : Value) (most : Int) (x : OpF) (hx : okOF x) (hl : l.length ≤ 100000) : Fun Try.prog 76 [v, .int .i64 most, x.V] [rd (Ty.sl opFT) l v] [] (fun r G S => ∃ u, r = .tuple #[u, .int .i64 (putFE l most x)] ∧ G = [rd (Ty.sl opFT) (putFL l most x) u] ∧ S = []) := by
  have i1 : Len64 x.f := ⟨hx.2.2.2.1.1⟩
  by_cases h1 : hasF l x.o x.n = true
  · rw [show putFE l most x = 7 from if_pos h1, show putFL l most x = l from if_pos h1]
    refine Fun.enter Try.func76 (by kernel_rfl) rfl Try.ntmps76 rfl (fun B Gf Sf => ?_); (try simp only [List.cons_append]); (try simp only [List.nil_append]); simp only [argEnv]
    (repeat (first | refine vgo ?_ | refine ⟨_, rfl, rfl, ?_⟩ | refine ⟨_, rfl, ?_⟩ | refine ⟨rfl, ?_⟩ | intro hb | refine altA ?_ | refine altR ?_ | refine sideA ?_ | refine decTA ?_ | refine decFA ?_ | refine decNA ?_ | refine decBTA ?_ | refine decBFA ?_ | refine ⟨_, by assumption, ?_⟩ | refine ⟨_, _, _, rfl, ?_⟩ | refine WC.seq (fun K hK => ?_) | (refine hK _ _ _ ?_; clear hK K) | (refine hK _ _ _ _ rfl ?_; clear hK K) | (refine WX.thenExit (K := K) ?_; clear hK K) | (refine WX.thenExit (K := KL) ?_; clear hL KL)))
    (first | refine WL.boxA rfl rfl ?_ | refine WL.box rfl rfl rfl ?_); intro b1
    (repeat (first | refine vgo ?_ | refine ⟨_, rfl, rfl, ?_⟩ | refine ⟨_, rfl, ?_⟩ | refine ⟨rfl, ?_⟩ | intro hb | refine altA ?_ | refine altR ?_ | refine sideA ?_ | refine decTA ?_ | refine decFA ?_ | refine decNA ?_ | refine decBTA ?_ | refine decBFA ?_ | refine ⟨_, by assumption, ?_⟩ | refine ⟨_, _, _, rfl, ?_⟩ | refine WC.seq (fun K hK => ?_) | (refine hK _ _ _ ?_; clear hK K) | (refine hK _ _ _ _ rfl ?_; clear hK K) | (refine WX.thenExit (K := K) ?_; clear hK K) | (refine WX.thenExit (K := KL) ?_; clear hL KL)))
    exact WX.ret2 rfl rfl rfl (fun w sw => ⟨_, _, ⟨_, rfl, rfl, rfl⟩, sw.to⟩)
  have h1f : hasF l x.o x.n = false := by cases h : hasF l x.o x.n <;> simp_all
  by_cases h2 : most ≤ l.length
  · rw [show putFE l most x = 25 from (if_neg h1).trans (if_pos h2), show putFL l most x = l from (if_neg h1).trans (if_pos h2)]
    refine Fun.enter Try.func76 (by kernel_rfl) rfl Try.ntmps76 rfl (fun B Gf Sf => ?_); (try simp only [List.cons_append]); (try simp only [List.nil_append]); simp only [argEnv]
    (repeat (first | refine vgo ?_ | refine ⟨_, rfl, rfl, ?_⟩ | refine ⟨_, rfl, ?_⟩ | refine ⟨rfl, ?_⟩ | intro hb | refine altA ?_ | refine altR ?_ | refine sideA ?_ | refine decTA ?_ | refine decFA ?_ | refine decNA ?_ | refine decBTA ?_ | refine decBFA ?_ | refine ⟨_, by assumption, ?_⟩ | refine ⟨_, _, _, rfl, ?_⟩ | refine WC.seq (fun K hK => ?_) | (refine hK _ _ _ ?_; clear hK K) | (refine hK _ _ _ _ rfl ?_; clear hK K) | (refine WX.thenExit (K := K) ?_; clear hK K) | (refine WX.thenExit (K := KL) ?_; clear hL KL)))
    (first | refine WL.boxA rfl rfl ?_ | refine WL.box rfl rfl rfl ?_); intro b1
    (repeat (first | refine vgo ?_ | refine ⟨_, rfl, rfl, ?_⟩ | refine ⟨_, rfl, ?_⟩ | refine ⟨rfl, ?_⟩ | intro hb | refine altA ?_ | refine altR ?_ | refine sideA ?_ | refine decTA ?_ | refine decFA ?_ | refine decNA ?_ | refine decBTA ?_ | refine decBFA ?_ | refine ⟨_, by assumption, ?_⟩ | refine ⟨_, _, _, rfl, ?_⟩ | refine WC.seq (fun K hK => ?_) | (refine hK _ _ _ ?_; clear hK K) | (refine hK _ _ _ _ rfl ?_; clear hK K) | (refine WX.thenExit (K := K) ?_; clear hK K) | (refine WX.thenExit (K := KL) ?_; clear hL KL)))
    exact WX.ret2 rfl rfl rfl (fun w sw => ⟨_, _, ⟨_, rfl, rfl, rfl⟩, sw.to⟩)
  rw [show putFE l most x = 0 from (if_neg h1).trans (if_neg h2), show putFL l most x = l ++ [x] from (if_neg h1).trans (if_neg h2)]
  refine Fun.enter Try.func76 (by kernel_rfl) rfl Try.ntmps76 rfl (fun B Gf Sf => ?_); (try simp only [List.cons_append]); (try simp only [List.nil_append]); simp only [argEnv]
  refine WC.ex (fun w sw => sw.oks (f := fun a : OpF => a.V) (ok := okOF) (R := opFT) (l := l) (v := v) RdSl.h) (fun okl => ?_)
  (repeat (first | refine vgo ?_ | refine ⟨_, rfl, rfl, ?_⟩ | refine ⟨_, rfl, ?_⟩ | refine ⟨rfl, ?_⟩ | intro hb | refine altA ?_ | refine altR ?_ | refine sideA ?_ | refine decTA ?_ | refine decFA ?_ | refine decNA ?_ | refine decBTA ?_ | refine decBFA ?_ | refine ⟨_, by assumption, ?_⟩ | refine ⟨_, _, _, rfl, ?_⟩ | refine WC.seq (fun K hK => ?_) | (refine hK _ _ _ ?_; clear hK K) | (refine hK _ _ _ _ rfl ?_; clear hK K) | (refine WX.thenExit (K := K) ?_; clear hK K) | (refine WX.thenExit (K := KL) ?_; clear hL KL)))
  (first | refine WL.boxA rfl rfl ?_ | refine WL.box rfl rfl rfl ?_); intro b1
  (repeat (first | refine vgo ?_ | refine ⟨_, rfl, rfl, ?_⟩ | refine ⟨_, rfl, ?_⟩ | refine ⟨rfl, ?_⟩ | intro hb | refine altA ?_ | refine altR ?_ | refine sideA ?_ | refine decTA ?_ | refine decFA ?_ | refine decNA ?_ | refine decBTA ?_ | refine decBFA ?_ | refine ⟨_, by assumption, ?_⟩ | refine ⟨_, _, _, rfl, ?_⟩ | refine WC.seq (fun K hK => ?_) | (refine hK _ _ _ ?_; clear hK K) | (refine hK _ _ _ _ rfl ?_; clear hK K) | (refine WX.thenExit (K := K) ?_; clear hK K) | (refine WX.thenExit (K := KL) ?_; clear hL KL)))
  (apply WC.drawE; exact rfl; focus (repeat (first | exact Wo.nil | (apply Wo.keep; exact rfl) | (apply Wo.drop; exact rfl)))); (repeat refine ObP3.c0A ?_); try (refine ObP3.nil ?_; (repeat (intro _)); (conv => whnf); (try dsimp only [envO, List.cons_append, List.nil_append]))
  (apply ObP3.cons1 [] [0]; (focus ((repeat (intro _)); (conv => whnf); (try dsimp only [envO, List.cons_append, List.nil_append]); (repeat (first | refine vgo ?_ | refine ⟨_, rfl, rfl, ?_⟩ | refine ⟨_, rfl, ?_⟩ | refine ⟨rfl, ?_⟩ | intro hb | refine altA ?_ | refine altR ?_ | refine sideA ?_ | refine decTA ?_ | refine decFA ?_ | refine decNA ?_ | refine decBTA ?_ | refine decBFA ?_ | refine ⟨_, by assumption, ?_⟩ | refine ⟨_, _, _, rfl, ?_⟩ | refine WC.seq (fun K hK => ?_) | (refine hK _ _ _ ?_; clear hK K) | (refine hK _ _ _ _ rfl ?_; clear hK K) | (refine WX.thenExit (K := K) ?_; clear hK K) | (refine WX.thenExit (K := KL) ?_; clear hL KL))); first | exact WX.pgHeadV rfl | exact WX.pgHead | exact WX.pgOwn rfl)); exact rfl)
  (repeat refine ObP3.c0A ?_); try (refine ObP3.nil ?_; (repeat (intro _)); (conv => whnf); (try dsimp only [envO, List.cons_append, List.nil_append]))
  (apply ObP3.cons1 [] [2, 4]; (focus ((repeat (intro _)); (conv => whnf); (try dsimp only [envO, List.cons_append, List.nil_append]); (repeat (first | refine vgo ?_ | refine ⟨_, rfl, rfl, ?_⟩ | refine ⟨_, rfl, ?_⟩ | refine ⟨rfl, ?_⟩ | intro hb | refine altA ?_ | refine altR ?_ | refine sideA ?_ | refine decTA ?_ | refine decFA ?_ | refine decNA ?_ | refine decBTA ?_ | refine decBFA ?_ | refine ⟨_, by assumption, ?_⟩ | refine ⟨_, _, _, rfl, ?_⟩ | refine WC.seq (fun K hK => ?_) | (refine hK _ _ _ ?_; clear hK K) | (refine hK _ _ _ _ rfl ?_; clear hK K) | (refine WX.thenExit (K := K) ?_; clear hK K) | (refine WX.thenExit (K := KL) ?_; clear hL KL))); first | exact WX.pgHeadV rfl | exact WX.pgHead | exact WX.pgOwn rfl)); exact rfl)
  (apply ObP3.cons1 [] [5]; (focus ((repeat (intro _)); (conv => whnf); (try dsimp only [envO, List.cons_append, List.nil_append]); (repeat (first | refine vgo ?_ | refine ⟨_, rfl, rfl, ?_⟩ | refine ⟨_, rfl, ?_⟩ | refine ⟨rfl, ?_⟩ | intro hb | refine altA ?_ | refine altR ?_ | refine sideA ?_ | refine decTA ?_ | refine decFA ?_ | refine decNA ?_ | refine decBTA ?_ | refine decBFA ?_ | refine ⟨_, by assumption, ?_⟩ | refine ⟨_, _, _, rfl, ?_⟩ | refine WC.seq (fun K hK => ?_) | (refine hK _ _ _ ?_; clear hK K) | (refine hK _ _ _ _ rfl ?_; clear hK K) | (refine WX.thenExit (K := K) ?_; clear hK K) | (refine WX.thenExit (K := KL) ?_; clear hL KL))); first | exact WX.pgHeadV rfl | exact WX.pgHead | exact WX.pgOwn rfl)); exact rfl)
  (repeat refine ObP3.c0B ?_); try (refine ObP3.nil ?_; (repeat (intro _)); (conv => whnf); (try dsimp only [envO, List.cons_append, List.nil_append]))
  (repeat (first | refine vgo ?_ | refine ⟨_, rfl, rfl, ?_⟩ | refine ⟨_, rfl, ?_⟩ | refine ⟨rfl, ?_⟩ | intro hb | refine altA ?_ | refine altR ?_ | refine sideA ?_ | refine decTA ?_ | refine decFA ?_ | refine decNA ?_ | refine decBTA ?_ | refine decBFA ?_ | refine ⟨_, by assumption, ?_⟩ | refine ⟨_, _, _, rfl, ?_⟩ | refine WC.seq (fun K hK => ?_) | (refine hK _ _ _ ?_; clear hK K) | (refine hK _ _ _ _ rfl ?_; clear hK K) | (refine WX.thenExit (K := K) ?_; clear hK K) | (refine WX.thenExit (K := KL) ?_; clear hL KL)))
  rename_i u _ _ _ _
  refine WX.ret2 rfl rfl rfl (fun w sw => ⟨_, _, ⟨u, rfl, rfl, rfl⟩, ?_⟩)
  have sw2 := sw.pub (R := opFT) (l := l ++ [x]) (v := u) SelOwn.h rfl (by rw [List.map_append, flat_app]; rfl) (by simp) (fun a ha => by
    rcases List.mem_append.1 ha with h | h
    · exact okl a h
    · simp at h; rw [h]; exact hx)
  exact sw2.to
def nextF (g : List Nat) : List OpF → Option Nat
  | l => l.findIdx? fun x => dueF g x.o x.n x.f
theorem results_tct {fn : Func} {p u v : Tmp} {ty : TypeId} (h : fn.results = #[.tmp u, .cell p ty, .tmp v]) (tmps : Array Value) (P : Program) (w : World) :
    (results fn tmps).run P w = ((asAddr (tmps.getD p undef)).run P w).andThen fun a w₁ => ((loadVar ty a).run P w₁).andThen fun x w₂ => .ok (.tuple #[tmps.getD u undef, x, tmps.getD v undef]) w₂ := by
  simp only [results, h]
  simp [Sem.run_bind, Result.andThen]
theorem WX.retTCT {P : Program} {n : Nat} {B : Base} {env : Env} {G : List Pers} {S S' : List Res} {fn : Func} {F : Value → World → Prop} {T E : TypeId} {u v : Value} {t r q : Nat} {b s : Nat} {cs : List Value} [hClean : Clean B] (hr : fn.results = #[.tmp q, .cell t T, .tmp r]) (hq : env.get q = some u) (hv : env.get t = some (.pointer (some ⟨b, 0, none⟩))) (hu : env.get r = some v) [hm : SelBox b S E cs S'] [hT : TA P T true] [hs : TS P T s] [hl : LenL cs s] (h : ∀ w, Sat B G S w → F (.tuple #[u, .agg cs.toArray, v]) w) :
    WX n (FPost P fn F) .ret B env G S :=
  ⟨fun ac w sa sw => by
    refine FEnd.clean (sa.defers.trans Clean.h) ⟨_, ?_, _, rfl, h w sw⟩
    have h0 := sa.get q _ hq
    have h1 := sa.get t _ hv
    have h2 := sa.get r _ hu
    have := run_loadVar_agg (P := P) (T := T) w (a := ⟨b, 0, none⟩) (cs := cs) hT.h (by rw [hs.h, hl.h]) (fun j c hj => by rw [Addr.add_none, sw.box_cell hm.h, Nat.zero_add]; exact hj)
    rw [results_tct hr]
    simp [h0, h1, h2, asAddr, this]⟩
def nextFL (g : List Nat) (l : List OpF) : List OpF := match nextF g l with | some i => l.eraseIdx i | none => l
def nextFX (g : List Nat) (l : List OpF) : OpF := match nextF g l with | some i => l.getD i zOF | none => zOF
def nextFB (g : List Nat) (l : List OpF) : Bool := match nextF g l with | some _ => true | none => false
theorem rnext_fun (l : List OpF) (v : Value) (g : List Nat) (hg : okF g) (hl : l.length ≤ 100000) : Fun Try.prog 97 [v, fV g] [rd (Ty.sl opFT) l v] [] (fun r G S => ∃ u, r = .tuple #[u, (nextFX g l).V, .bool (nextFB g l)] ∧ G = [rd (Ty.sl opFT) (nextFL g l) u] ∧ S = []) := by
  have hg1 := hg.1
  have i0 : Len64 g := ⟨hg1⟩
  refine Fun.enter Try.func97 (by kernel_rfl) rfl Try.ntmps97 rfl (fun B Gf Sf => ?_); (try simp only [List.cons_append]); (try simp only [List.nil_append]); simp only [argEnv]
  refine WC.ex (fun w sw => sw.oks (f := fun a : OpF => a.V) (ok := okOF) (R := opFT) (l := l) (v := v) RdSl.h) (fun okl => ?_)
  refine WC.ex (fun w sw => sw.len_le (RdSl.h (v := v))) (fun hlv => ?_)
  (repeat (first | refine vgo ?_ | refine ⟨_, rfl, rfl, ?_⟩ | refine ⟨_, rfl, ?_⟩ | refine ⟨rfl, ?_⟩ | intro hb | refine altA ?_ | refine altR ?_ | refine sideA ?_ | refine decTA ?_ | refine decFA ?_ | refine decNA ?_ | refine decBTA ?_ | refine decBFA ?_ | refine ⟨_, by assumption, ?_⟩ | refine ⟨_, _, _, rfl, ?_⟩ | refine WC.seq (fun K hK => ?_) | (refine hK _ _ _ ?_; clear hK K) | (refine hK _ _ _ _ rfl ?_; clear hK K) | (refine WX.thenExit (K := K) ?_; clear hK K) | (refine WX.thenExit (K := KL) ?_; clear hL KL)))
  (first | refine WL.boxA rfl rfl ?_ | refine WL.box rfl rfl rfl ?_); intro b1
  (repeat (first | refine vgo ?_ | refine ⟨_, rfl, rfl, ?_⟩ | refine ⟨_, rfl, ?_⟩ | refine ⟨rfl, ?_⟩ | intro hb | refine altA ?_ | refine altR ?_ | refine sideA ?_ | refine decTA ?_ | refine decFA ?_ | refine decNA ?_ | refine decBTA ?_ | refine decBFA ?_ | refine ⟨_, by assumption, ?_⟩ | refine ⟨_, _, _, rfl, ?_⟩ | refine WC.seq (fun K hK => ?_) | (refine hK _ _ _ ?_; clear hK K) | (refine hK _ _ _ _ rfl ?_; clear hK K) | (refine WX.thenExit (K := K) ?_; clear hK K) | (refine WX.thenExit (K := KL) ?_; clear hL KL)))
  refine WL.alloc rfl ?_; intro b2
  (repeat (first | refine vgo ?_ | refine ⟨_, rfl, rfl, ?_⟩ | refine ⟨_, rfl, ?_⟩ | refine ⟨rfl, ?_⟩ | intro hb | refine altA ?_ | refine altR ?_ | refine sideA ?_ | refine decTA ?_ | refine decFA ?_ | refine decNA ?_ | refine decBTA ?_ | refine decBFA ?_ | refine ⟨_, by assumption, ?_⟩ | refine ⟨_, _, _, rfl, ?_⟩ | refine WC.seq (fun K hK => ?_) | (refine hK _ _ _ ?_; clear hK K) | (refine hK _ _ _ _ rfl ?_; clear hK K) | (refine WX.thenExit (K := K) ?_; clear hK K) | (refine WX.thenExit (K := KL) ?_; clear hL KL)))
  refine WC.loop (I := Nat) (fun i => [(0, v), (3, .pointer (some ⟨b1, 0, none⟩)), (5, .pointer (some ⟨b2, 0, none⟩)), (7, .int .i64 (i : Nat))]) (fun _ => rd (Ty.sl opFT) l v :: Gf) (fun _ => box b2 66 zOF.C :: box b1 43 (g.map uV) :: Sf) (fun i => i ≤ l.length ∧ ∀ (j : Nat) (y : OpF), j < i → l[j]? = some y → dueF g y.o y.n y.f = false) (fun i => l.length - i) 0 ⟨Nat.zero_le _, fun j y h => absurd h (Nat.not_lt_zero _)⟩ (.cons rfl (.cons rfl (.cons rfl (.cons rfl .nil)))) (fun w h => h.to) ?_
  rintro i ⟨hi, hno⟩ KL hL
  by_cases gg : i < l.length
  · obtain ⟨x, hx⟩ : ∃ x, l[i]? = some x := ⟨_, List.getElem?_eq_getElem gg⟩
    have hxo := okl x (List.mem_of_getElem? hx)
    have hpre : okF x.f ∧ okF g := ⟨hxo.2.2.2.1, hg⟩
    have i1 : Len64 x.f := ⟨hxo.2.2.2.1.1⟩
    cases hd : dueF g x.o x.n x.f with
    | false =>
      (repeat (first | refine vgo ?_ | refine ⟨_, rfl, rfl, ?_⟩ | refine ⟨_, rfl, ?_⟩ | refine ⟨rfl, ?_⟩ | intro hb | refine altA ?_ | refine altR ?_ | refine sideA ?_ | refine decTA ?_ | refine decFA ?_ | refine decNA ?_ | refine decBTA ?_ | refine decBFA ?_ | refine ⟨_, by assumption, ?_⟩ | refine ⟨_, _, _, rfl, ?_⟩ | refine WC.seq (fun K hK => ?_) | (refine hK _ _ _ ?_; clear hK K) | (refine hK _ _ _ _ rfl ?_; clear hK K) | (refine WX.thenExit (K := K) ?_; clear hK K) | (refine WX.thenExit (K := KL) ?_; clear hL KL)))
      (apply WC.drawE; exact rfl; focus (repeat (first | exact Wo.nil | (apply Wo.keep; exact rfl) | (apply Wo.drop; exact rfl)))); (repeat refine ObP3.c0A ?_); try (refine ObP3.nil ?_; (repeat (intro _)); (conv => whnf); (try dsimp only [envO, List.cons_append, List.nil_append]))
      (repeat (first | refine vgo ?_ | refine ⟨_, rfl, rfl, ?_⟩ | refine ⟨_, rfl, ?_⟩ | refine ⟨rfl, ?_⟩ | intro hb | refine altA ?_ | refine altR ?_ | refine sideA ?_ | refine decTA ?_ | refine decFA ?_ | refine decNA ?_ | refine decBTA ?_ | refine decBFA ?_ | refine ⟨_, by assumption, ?_⟩ | refine ⟨_, _, _, rfl, ?_⟩ | refine WC.seq (fun K hK => ?_) | (refine hK _ _ _ ?_; clear hK K) | (refine hK _ _ _ _ rfl ?_; clear hK K) | (refine WX.thenExit (K := K) ?_; clear hK K) | (refine WX.thenExit (K := KL) ?_; clear hL KL)))
      exact (hL (i + 1) ⟨gg, fun j y hj hy => by
        by_cases e : j = i
        · subst e; rw [hx] at hy; cases hy; exact hd
        · exact hno j y (by omega) hy⟩ (by omega)).conv (.cons rfl (.cons rfl (.cons rfl (.cons rfl .nil)))) (fun w h => h.to)
    | true =>
      have htl : (l.take i).length = i := by rw [List.length_take]; omega
      have hdl : (l.drop (i + 1)).length = l.length - (i + 1) := List.length_drop
      have hn : nextF g l = some i := List.findIdx?_eq_some_iff_getElem.2 ⟨gg, by
        obtain ⟨_, e⟩ := List.getElem?_eq_some_iff.1 hx
        rw [e]; exact hd, fun j hj => by rw [hno j _ hj (List.getElem?_eq_getElem (by omega))]; decide⟩
      have e1 : nextFX g l = x := by unfold nextFX; rw [hn]; simp only []; rw [List.getD_eq_getElem?_getD, hx]; rfl
      have e2 : nextFB g l = true := by unfold nextFB; rw [hn]
      have e3 : nextFL g l = l.take i ++ l.drop (i + 1) := by unfold nextFL; rw [hn]; exact List.eraseIdx_eq_take_drop_succ ..
      (repeat (first | refine vgo ?_ | refine ⟨_, rfl, rfl, ?_⟩ | refine ⟨_, rfl, ?_⟩ | refine ⟨rfl, ?_⟩ | intro hb | refine altA ?_ | refine altR ?_ | refine sideA ?_ | refine decTA ?_ | refine decFA ?_ | refine decNA ?_ | refine decBTA ?_ | refine decBFA ?_ | refine ⟨_, by assumption, ?_⟩ | refine ⟨_, _, _, rfl, ?_⟩ | refine WC.seq (fun K hK => ?_) | (refine hK _ _ _ ?_; clear hK K) | (refine hK _ _ _ _ rfl ?_; clear hK K) | (refine WX.thenExit (K := K) ?_; clear hK K) | (refine WX.thenExit (K := KL) ?_; clear hL KL)))
      (apply WC.drawE; exact rfl; focus (repeat (first | exact Wo.nil | (apply Wo.keep; exact rfl) | (apply Wo.drop; exact rfl)))); (repeat refine ObP3.c0A ?_); try (refine ObP3.nil ?_; (repeat (intro _)); (conv => whnf); (try dsimp only [envO, List.cons_append, List.nil_append]))
      (repeat (first | refine vgo ?_ | refine ⟨_, rfl, rfl, ?_⟩ | refine ⟨_, rfl, ?_⟩ | refine ⟨rfl, ?_⟩ | intro hb | refine altA ?_ | refine altR ?_ | refine sideA ?_ | refine decTA ?_ | refine decFA ?_ | refine decNA ?_ | refine decBTA ?_ | refine decBFA ?_ | refine ⟨_, by assumption, ?_⟩ | refine ⟨_, _, _, rfl, ?_⟩ | refine WC.seq (fun K hK => ?_) | (refine hK _ _ _ ?_; clear hK K) | (refine hK _ _ _ _ rfl ?_; clear hK K) | (refine WX.thenExit (K := K) ?_; clear hK K) | (refine WX.thenExit (K := KL) ?_; clear hL KL)))
      refine WC.drawV (S := (box b1 43 (g.map uV) :: Sf)) ([[box b2 66 zOF.C]]) rfl (by repeat (first | exact Wo.nil | (apply Wo.keep; exact rfl) | (apply Wo.drop; exact rfl))) (fun w sw => by (try simp only [List.flatten_cons, List.flatten_nil, List.append_nil, List.cons_append, List.nil_append]); exact sw.to) ?_; (try dsimp only [chunks])
      (repeat refine ObP3.c0A ?_); try (refine ObP3.nil ?_; (repeat (intro _)); (conv => whnf); (try dsimp only [envO, List.cons_append, List.nil_append]))
      refine ObP3.cons1 [] [] (.kn (rd (Ty.sl opFT) (l.take i))) ?_ rfl ?_
      · (repeat (intro _)); (conv => whnf); (try dsimp only [envO, List.cons_append, List.nil_append])
        refine WL.slc rfl rfl rfl rfl rfl ?_; refine SliceV.high rfl (i) (by omega) (by omega) ?_; intro sh
        (repeat (first | refine vgo ?_ | refine ⟨_, rfl, rfl, ?_⟩ | refine ⟨_, rfl, ?_⟩ | refine ⟨rfl, ?_⟩ | intro hb | refine altA ?_ | refine altR ?_ | refine sideA ?_ | refine decTA ?_ | refine decFA ?_ | refine decNA ?_ | refine decBTA ?_ | refine decBFA ?_ | refine ⟨_, by assumption, ?_⟩ | refine ⟨_, _, _, rfl, ?_⟩ | refine WC.seq (fun K hK => ?_) | (refine hK _ _ _ ?_; clear hK K) | (refine hK _ _ _ _ rfl ?_; clear hK K) | (refine WX.thenExit (K := K) ?_; clear hK K) | (refine WX.thenExit (K := KL) ?_; clear hL KL)))
        exact WX.pgRd rfl
      (apply ObP3.cons1 [] [0]; (focus ((repeat (intro _)); (conv => whnf); (try dsimp only [envO, List.cons_append, List.nil_append]); (repeat (first | refine vgo ?_ | refine ⟨_, rfl, rfl, ?_⟩ | refine ⟨_, rfl, ?_⟩ | refine ⟨rfl, ?_⟩ | intro hb | refine altA ?_ | refine altR ?_ | refine sideA ?_ | refine decTA ?_ | refine decFA ?_ | refine decNA ?_ | refine decBTA ?_ | refine decBFA ?_ | refine ⟨_, by assumption, ?_⟩ | refine ⟨_, _, _, rfl, ?_⟩ | refine WC.seq (fun K hK => ?_) | (refine hK _ _ _ ?_; clear hK K) | (refine hK _ _ _ _ rfl ?_; clear hK K) | (refine WX.thenExit (K := K) ?_; clear hK K) | (refine WX.thenExit (K := KL) ?_; clear hL KL))); first | exact WX.pgHeadV rfl | exact WX.pgHead | exact WX.pgOwn rfl)); exact rfl)
      (repeat refine ObP3.c0A ?_); try (refine ObP3.nil ?_; (repeat (intro _)); (conv => whnf); (try dsimp only [envO, List.cons_append, List.nil_append]))
      refine ObP3.cons1 [] [] (.kn (rd (Ty.sl opFT) (l.drop (i + 1)))) ?_ rfl ?_
      · (repeat (intro _)); (conv => whnf); (try dsimp only [envO, List.cons_append, List.nil_append])
        refine WL.slc rfl rfl rfl rfl rfl ?_; refine SliceV.low rfl (i + 1) (by omega) (by omega) ?_; intro sh
        (repeat (first | refine vgo ?_ | refine ⟨_, rfl, rfl, ?_⟩ | refine ⟨_, rfl, ?_⟩ | refine ⟨rfl, ?_⟩ | intro hb | refine altA ?_ | refine altR ?_ | refine sideA ?_ | refine decTA ?_ | refine decFA ?_ | refine decNA ?_ | refine decBTA ?_ | refine decBFA ?_ | refine ⟨_, by assumption, ?_⟩ | refine ⟨_, _, _, rfl, ?_⟩ | refine WC.seq (fun K hK => ?_) | (refine hK _ _ _ ?_; clear hK K) | (refine hK _ _ _ _ rfl ?_; clear hK K) | (refine WX.thenExit (K := K) ?_; clear hK K) | (refine WX.thenExit (K := KL) ?_; clear hL KL)))
        exact WX.pgRd rfl
      (apply ObP3.cons1 [] [4]; (focus ((repeat (intro _)); (conv => whnf); (try dsimp only [envO, List.cons_append, List.nil_append]); (repeat (first | refine vgo ?_ | refine ⟨_, rfl, rfl, ?_⟩ | refine ⟨_, rfl, ?_⟩ | refine ⟨rfl, ?_⟩ | intro hb | refine altA ?_ | refine altR ?_ | refine sideA ?_ | refine decTA ?_ | refine decFA ?_ | refine decNA ?_ | refine decBTA ?_ | refine decBFA ?_ | refine ⟨_, by assumption, ?_⟩ | refine ⟨_, _, _, rfl, ?_⟩ | refine WC.seq (fun K hK => ?_) | (refine hK _ _ _ ?_; clear hK K) | (refine hK _ _ _ _ rfl ?_; clear hK K) | (refine WX.thenExit (K := K) ?_; clear hK K) | (refine WX.thenExit (K := KL) ?_; clear hL KL))); first | exact WX.pgHeadV rfl | exact WX.pgHead | exact WX.pgOwn rfl)); exact rfl)
      (repeat refine ObP3.c0A ?_); try (refine ObP3.nil ?_; (repeat (intro _)); (conv => whnf); (try dsimp only [envO, List.cons_append, List.nil_append]))
      (apply ObP3.cons1 [] [9]; (focus ((repeat (intro _)); (conv => whnf); (try dsimp only [envO, List.cons_append, List.nil_append]); (repeat (first | refine vgo ?_ | refine ⟨_, rfl, rfl, ?_⟩ | refine ⟨_, rfl, ?_⟩ | refine ⟨rfl, ?_⟩ | intro hb | refine altA ?_ | refine altR ?_ | refine sideA ?_ | refine decTA ?_ | refine decFA ?_ | refine decNA ?_ | refine decBTA ?_ | refine decBFA ?_ | refine ⟨_, by assumption, ?_⟩ | refine ⟨_, _, _, rfl, ?_⟩ | refine WC.seq (fun K hK => ?_) | (refine hK _ _ _ ?_; clear hK K) | (refine hK _ _ _ _ rfl ?_; clear hK K) | (refine WX.thenExit (K := K) ?_; clear hK K) | (refine WX.thenExit (K := KL) ?_; clear hL KL))); first | exact WX.pgHeadV rfl | exact WX.pgHead | exact WX.pgOwn rfl)); exact rfl)
      (apply ObP3.cons1 [] [1000]; (focus ((repeat (intro _)); (conv => whnf); (try dsimp only [envO, List.cons_append, List.nil_append]); (repeat (first | refine vgo ?_ | refine ⟨_, rfl, rfl, ?_⟩ | refine ⟨_, rfl, ?_⟩ | refine ⟨rfl, ?_⟩ | intro hb | refine altA ?_ | refine altR ?_ | refine sideA ?_ | refine decTA ?_ | refine decFA ?_ | refine decNA ?_ | refine decBTA ?_ | refine decBFA ?_ | refine ⟨_, by assumption, ?_⟩ | refine ⟨_, _, _, rfl, ?_⟩ | refine WC.seq (fun K hK => ?_) | (refine hK _ _ _ ?_; clear hK K) | (refine hK _ _ _ _ rfl ?_; clear hK K) | (refine WX.thenExit (K := K) ?_; clear hK K) | (refine WX.thenExit (K := KL) ?_; clear hL KL))); first | exact WX.pgHeadV rfl | exact WX.pgHead | exact WX.pgOwn rfl)); exact rfl)
      (repeat refine ObP3.c0B ?_); try (refine ObP3.nil ?_; (repeat (intro _)); (conv => whnf); (try dsimp only [envO, List.cons_append, List.nil_append]))
      (repeat (first | refine vgo ?_ | refine ⟨_, rfl, rfl, ?_⟩ | refine ⟨_, rfl, ?_⟩ | refine ⟨rfl, ?_⟩ | intro hb | refine altA ?_ | refine altR ?_ | refine sideA ?_ | refine decTA ?_ | refine decFA ?_ | refine decNA ?_ | refine decBTA ?_ | refine decBFA ?_ | refine ⟨_, by assumption, ?_⟩ | refine ⟨_, _, _, rfl, ?_⟩ | refine WC.seq (fun K hK => ?_) | (refine hK _ _ _ ?_; clear hK K) | (refine hK _ _ _ _ rfl ?_; clear hK K) | (refine WX.thenExit (K := K) ?_; clear hK K) | (refine WX.thenExit (K := KL) ?_; clear hL KL)))
      rename_i u _ _ _ _ _ _ _
      refine WX.retTCT rfl rfl rfl rfl (fun w sw => ⟨[rd (Ty.sl opFT) (nextFL g l) u], [], ⟨u, by rw [e1, e2], rfl, rfl⟩, ?_⟩)
      rw [e3]
      have sw2 := sw.pub (R := opFT) (l := l.take i ++ l.drop (i + 1)) (v := u) SelOwn.h rfl (by rw [List.map_append, flat_app]) (by rw [List.length_append]; omega) (fun a ha => by
        rcases List.mem_append.1 ha with h | h
        · exact okl a (List.mem_of_mem_take h)
        · exact okl a (List.mem_of_mem_drop h))
      exact sw2.to
  · have hn : nextF g l = none := List.findIdx?_eq_none_iff.2 fun y hy => by
      obtain ⟨j, hj, rfl⟩ := List.mem_iff_getElem.1 hy
      exact hno j _ (by omega) (List.getElem?_eq_getElem hj)
    have e1 : nextFX g l = zOF := by unfold nextFX; rw [hn]
    have e2 : nextFB g l = false := by unfold nextFB; rw [hn]
    have e3 : nextFL g l = l := by unfold nextFL; rw [hn]
    (repeat (first | refine vgo ?_ | refine ⟨_, rfl, rfl, ?_⟩ | refine ⟨_, rfl, ?_⟩ | refine ⟨rfl, ?_⟩ | intro hb | refine altA ?_ | refine altR ?_ | refine sideA ?_ | refine decTA ?_ | refine decFA ?_ | refine decNA ?_ | refine decBTA ?_ | refine decBFA ?_ | refine ⟨_, by assumption, ?_⟩ | refine ⟨_, _, _, rfl, ?_⟩ | refine WC.seq (fun K hK => ?_) | (refine hK _ _ _ ?_; clear hK K) | (refine hK _ _ _ _ rfl ?_; clear hK K) | (refine WX.thenExit (K := K) ?_; clear hK K) | (refine WX.thenExit (K := KL) ?_; clear hL KL)))
    refine WX.retTCT rfl rfl rfl rfl (fun w sw => ⟨[rd (Ty.sl opFT) (nextFL g l) v], [], ⟨v, by rw [e1, e2], rfl, rfl⟩, ?_⟩)
    rw [e3]
    exact sw.to
def dropF (g : List Nat) (l : List OpF) : List OpF := l.filter fun x => !decide (x.n ≤ getC g x.o)
theorem rdrop_fun (l : List OpF) (v : Value) (g : List Nat) (hg : okF g) (hl : l.length ≤ 100000) : Fun Try.prog 96 [v, fV g] [rd (Ty.sl opFT) l v] [] (fun r G S => G = [rd (Ty.sl opFT) (dropF g l) r] ∧ S = []) := by
  have hg1 := hg.1
  have i0 : Len64 g := ⟨hg1⟩
  refine Fun.enter Try.func96 (by kernel_rfl) rfl Try.ntmps96 rfl (fun B Gf Sf => ?_); (try simp only [List.cons_append]); (try simp only [List.nil_append]); simp only [argEnv]
  refine WC.ex (fun w sw => sw.oks (f := fun a : OpF => a.V) (ok := okOF) (R := opFT) (l := l) (v := v) RdSl.h) (fun okl => ?_)
  refine WC.ex (fun w sw => sw.len_le (RdSl.h (v := v))) (fun hlv => ?_)
  (repeat (first | refine vgo ?_ | refine ⟨_, rfl, rfl, ?_⟩ | refine ⟨_, rfl, ?_⟩ | refine ⟨rfl, ?_⟩ | intro hb | refine altA ?_ | refine altR ?_ | refine sideA ?_ | refine decTA ?_ | refine decFA ?_ | refine decNA ?_ | refine decBTA ?_ | refine decBFA ?_ | refine ⟨_, by assumption, ?_⟩ | refine ⟨_, _, _, rfl, ?_⟩ | refine WC.seq (fun K hK => ?_) | (refine hK _ _ _ ?_; clear hK K) | (refine hK _ _ _ _ rfl ?_; clear hK K) | (refine WX.thenExit (K := K) ?_; clear hK K) | (refine WX.thenExit (K := KL) ?_; clear hL KL)))
  (first | refine WL.boxA rfl rfl ?_ | refine WL.box rfl rfl rfl ?_); intro b1
  (repeat (first | refine vgo ?_ | refine ⟨_, rfl, rfl, ?_⟩ | refine ⟨_, rfl, ?_⟩ | refine ⟨rfl, ?_⟩ | intro hb | refine altA ?_ | refine altR ?_ | refine sideA ?_ | refine decTA ?_ | refine decFA ?_ | refine decNA ?_ | refine decBTA ?_ | refine decBFA ?_ | refine ⟨_, by assumption, ?_⟩ | refine ⟨_, _, _, rfl, ?_⟩ | refine WC.seq (fun K hK => ?_) | (refine hK _ _ _ ?_; clear hK K) | (refine hK _ _ _ _ rfl ?_; clear hK K) | (refine WX.thenExit (K := K) ?_; clear hK K) | (refine WX.thenExit (K := KL) ?_; clear hL KL)))
  refine WC.loop (I := Nat × Value) (fun i => [(0, v), (3, .pointer (some ⟨b1, 0, none⟩)), (5, i.2), (6, .int .i64 (i.1 : Nat))]) (fun _ => rd (Ty.sl opFT) l v :: Gf) (fun i => own 66 87 i.2 (dropF g (l.take i.1)).length (flat ((dropF g (l.take i.1)).map fun a => a.V)) :: box b1 43 (g.map uV) :: Sf) (fun i => i.1 ≤ l.length) (fun i => l.length - i.1) (0, .slice none 0 0) (Nat.zero_le _) (.cons rfl (.cons rfl (.cons rfl (.cons rfl .nil)))) (fun w h => by
    have h2 := h.ownNil 66 87
    dsimp only [List.take_zero, dropF, List.filter_nil, List.length_nil]
    rw [show flat (List.map (fun a : OpF => a.V) []) = [] from rfl]
    exact h2.to) ?_
  rintro ⟨i, ov⟩ hi KL hL
  dsimp only at hi
  have hlen : (dropF g (l.take i)).length ≤ i := Nat.le_trans (List.length_filter_le _ _) (by rw [List.length_take]; omega)
  by_cases gg : i < l.length
  · obtain ⟨x, hx⟩ : ∃ x, l[i]? = some x := ⟨_, List.getElem?_eq_getElem gg⟩
    have hxo := okl x (List.mem_of_getElem? hx)
    have hpre : okF x.f ∧ okF g := ⟨hxo.2.2.2.1, hg⟩
    have i1 : Len64 x.f := ⟨hxo.2.2.2.1.1⟩
    have htk : dropF g (l.take (i + 1)) = dropF g (l.take i) ++ (if x.n ≤ getC g x.o then [] else [x]) := by
      unfold dropF
      rw [take_snoc hx, List.filter_append, List.filter_cons]
      by_cases h : x.n ≤ getC g x.o <;> simp [h]
    by_cases hd : x.n ≤ getC g x.o
    · rw [if_pos hd, List.append_nil] at htk
      (repeat (first | refine vgo ?_ | refine ⟨_, rfl, rfl, ?_⟩ | refine ⟨_, rfl, ?_⟩ | refine ⟨rfl, ?_⟩ | intro hb | refine altA ?_ | refine altR ?_ | refine sideA ?_ | refine decTA ?_ | refine decFA ?_ | refine decNA ?_ | refine decBTA ?_ | refine decBFA ?_ | refine ⟨_, by assumption, ?_⟩ | refine ⟨_, _, _, rfl, ?_⟩ | refine WC.seq (fun K hK => ?_) | (refine hK _ _ _ ?_; clear hK K) | (refine hK _ _ _ _ rfl ?_; clear hK K) | (refine WX.thenExit (K := K) ?_; clear hK K) | (refine WX.thenExit (K := KL) ?_; clear hL KL)))
      (apply WC.drawE; exact rfl; focus (repeat (first | exact Wo.nil | (apply Wo.keep; exact rfl) | (apply Wo.drop; exact rfl)))); (repeat refine ObP3.c0A ?_); try (refine ObP3.nil ?_; (repeat (intro _)); (conv => whnf); (try dsimp only [envO, List.cons_append, List.nil_append]))
      (repeat (first | refine vgo ?_ | refine ⟨_, rfl, rfl, ?_⟩ | refine ⟨_, rfl, ?_⟩ | refine ⟨rfl, ?_⟩ | intro hb | refine altA ?_ | refine altR ?_ | refine sideA ?_ | refine decTA ?_ | refine decFA ?_ | refine decNA ?_ | refine decBTA ?_ | refine decBFA ?_ | refine ⟨_, by assumption, ?_⟩ | refine ⟨_, _, _, rfl, ?_⟩ | refine WC.seq (fun K hK => ?_) | (refine hK _ _ _ ?_; clear hK K) | (refine hK _ _ _ _ rfl ?_; clear hK K) | (refine WX.thenExit (K := K) ?_; clear hK K) | (refine WX.thenExit (K := KL) ?_; clear hL KL)))
      refine (hL (i + 1, ov) gg (by dsimp only; omega)).conv (.cons rfl (.cons rfl (.cons rfl (.cons rfl .nil)))) (fun w h => ?_)
      dsimp only
      rw [htk]
      exact h.to
    · rw [if_neg hd] at htk
      (repeat (first | refine vgo ?_ | refine ⟨_, rfl, rfl, ?_⟩ | refine ⟨_, rfl, ?_⟩ | refine ⟨rfl, ?_⟩ | intro hb | refine altA ?_ | refine altR ?_ | refine sideA ?_ | refine decTA ?_ | refine decFA ?_ | refine decNA ?_ | refine decBTA ?_ | refine decBFA ?_ | refine ⟨_, by assumption, ?_⟩ | refine ⟨_, _, _, rfl, ?_⟩ | refine WC.seq (fun K hK => ?_) | (refine hK _ _ _ ?_; clear hK K) | (refine hK _ _ _ _ rfl ?_; clear hK K) | (refine WX.thenExit (K := K) ?_; clear hK K) | (refine WX.thenExit (K := KL) ?_; clear hL KL)))
      (apply WC.drawE; exact rfl; focus (repeat (first | exact Wo.nil | (apply Wo.keep; exact rfl) | (apply Wo.drop; exact rfl)))); (repeat refine ObP3.c0A ?_); try (refine ObP3.nil ?_; (repeat (intro _)); (conv => whnf); (try dsimp only [envO, List.cons_append, List.nil_append]))
      (repeat (first | refine vgo ?_ | refine ⟨_, rfl, rfl, ?_⟩ | refine ⟨_, rfl, ?_⟩ | refine ⟨rfl, ?_⟩ | intro hb | refine altA ?_ | refine altR ?_ | refine sideA ?_ | refine decTA ?_ | refine decFA ?_ | refine decNA ?_ | refine decBTA ?_ | refine decBFA ?_ | refine ⟨_, by assumption, ?_⟩ | refine ⟨_, _, _, rfl, ?_⟩ | refine WC.seq (fun K hK => ?_) | (refine hK _ _ _ ?_; clear hK K) | (refine hK _ _ _ _ rfl ?_; clear hK K) | (refine WX.thenExit (K := K) ?_; clear hK K) | (refine WX.thenExit (K := KL) ?_; clear hL KL)))
      refine (hL (i + 1, hb) gg (by dsimp only; omega)).conv (.cons rfl (.cons rfl (.cons rfl (.cons rfl .nil)))) (fun w h => ?_)
      dsimp only
      rw [htk, List.map_append, flat_app, List.length_append, show flat (List.map (fun a : OpF => a.V) [x]) = opFC x.o x.n x.t x.f x.k ++ [] from rfl, show [x].length = 1 from rfl]
      exact h.to
  · obtain rfl : i = l.length := by omega
    (repeat (first | refine vgo ?_ | refine ⟨_, rfl, rfl, ?_⟩ | refine ⟨_, rfl, ?_⟩ | refine ⟨rfl, ?_⟩ | intro hb | refine altA ?_ | refine altR ?_ | refine sideA ?_ | refine decTA ?_ | refine decFA ?_ | refine decNA ?_ | refine decBTA ?_ | refine decBFA ?_ | refine ⟨_, by assumption, ?_⟩ | refine ⟨_, _, _, rfl, ?_⟩ | refine WC.seq (fun K hK => ?_) | (refine hK _ _ _ ?_; clear hK K) | (refine hK _ _ _ _ rfl ?_; clear hK K) | (refine WX.thenExit (K := K) ?_; clear hK K) | (refine WX.thenExit (K := KL) ?_; clear hL KL)))
    refine WX.ret1 rfl rfl (fun w sw => ⟨_, _, ⟨rfl, rfl⟩, ?_⟩)
    rw [List.take_length] at sw
    have sw2 := sw.pub (R := opFT) (l := dropF g l) (v := ov) SelOwn.h rfl rfl rfl (fun a ha => okl a (List.mem_filter.1 ha).1)
    exact sw2.to
end
end
end Go.Qd
