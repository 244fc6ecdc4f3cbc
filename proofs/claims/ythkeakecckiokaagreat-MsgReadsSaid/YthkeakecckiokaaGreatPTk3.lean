/-
  Trees that may be: signs, their levels, and names of functions, by the program and by the document.
-/
import Derived.Test.YthkeakecckiokaaGreatPTree7
import Derived.Test.YthkeakecckiokaaGreatQApp
namespace Go.Qd
/-! ### Trees that may be: signs, their levels, and names of functions, by the program and by the document. -/
section
open Go Go.Proofs
/-! ### Signs and levels -/
def sgn : Nat → List (List UInt8)
  | 1 => [[61], [60, 62], [60], [60, 61], [62], [62, 61]]
  | 2 => [[38]]
  | 3 => [[43], [45]]
  | 4 => [[42], [47]]
  | _ => []
/-- The level from 5 - n on. -/
noncomputable def levK (s : List UInt8) : Nat → Nat
  | 0 => 0
  | n + 1 => if s ∈ sgn (4 - n) then 4 - n else levK s n
noncomputable def levM (s : List UInt8) : Nat := levK s 4
theorem sgn_le (k : Nat) : (sgn k).length ≤ 6 ∧ ∀ s ∈ sgn k, s.length ≤ 2 := by
  unfold sgn
  split <;> decide
theorem sgn_ok (k : Nat) : ∀ s ∈ sgn k, s.length ≤ maxLen := fun s hs => Nat.le_trans ((sgn_le k).2 s hs) (by decide)
theorem indexS_fun (l : List (List UInt8)) (v : Value) (s : List UInt8) : Fun Tryz.prog 103 [v, .string (bs s)] [rd (Ty.sl Ty.str) l v] [] (fun z G S => (∃ j : Int, z = .int .i64 j ∧ (0 ≤ j ↔ s ∈ l)) ∧ G = [] ∧ S = []) := by
  refine Fun.enter Tryz.func103 (by kernel_rfl) rfl Tryz.ntmps103 rfl (fun B Gf Sf => ?_); (try simp only [List.cons_append]); (try simp only [List.nil_append]); simp only [argEnv]
  refine WC.ex (fun w sw => sw.len_le (RdSl.h (v := v))) (fun hlv => ?_)
  (repeat (first | refine vgo ?_ | refine ⟨_, rfl, rfl, ?_⟩ | refine ⟨_, rfl, ?_⟩ | refine ⟨rfl, ?_⟩ | intro hb | refine go2 ?_ | refine WC.seq (fun K hK => ?_) | ((first | refine hK _ _ _ ?_ | refine hK _ _ _ _ rfl ?_ | refine WX.thenExit (K := K) ?_); clear hK K) | (refine WX.thenExit (K := KL) ?_; clear hL KL)))
  refine WC.loop (I := Nat) (fun i => [(0, v), (1, .string (bs s)), (7, .int .i64 (l.length : Nat)), (8, .int .i64 (i : Nat))]) (fun _ => rd (Ty.sl Ty.str) l v :: Gf) (fun _ => Sf) (fun i => i ≤ l.length ∧ ¬ s ∈ l.take i) (fun i => l.length - i) 0 ⟨Nat.zero_le _, by simp⟩ (.cons rfl (.cons rfl (.cons rfl (.cons rfl .nil)))) (fun w h => h.to) ?_
  rintro i ⟨hi, hd⟩ KL hL
  by_cases g : i < l.length
  · obtain ⟨x, hx⟩ : ∃ x, l[i]? = some x := ⟨_, List.getElem?_eq_getElem g⟩
    by_cases hdx : s = x
    · have hm : s ∈ l := by rw [hdx]; exact List.mem_of_getElem? hx
      (repeat (first | refine vgo ?_ | refine ⟨_, rfl, rfl, ?_⟩ | refine ⟨_, rfl, ?_⟩ | refine ⟨rfl, ?_⟩ | intro hb | refine go2 ?_ | refine WC.seq (fun K hK => ?_) | ((first | refine hK _ _ _ ?_ | refine hK _ _ _ _ rfl ?_ | refine WX.thenExit (K := K) ?_); clear hK K) | (refine WX.thenExit (K := KL) ?_; clear hL KL)))
      exact WX.ret1 rfl rfl (fun w sw => ⟨[], [], ⟨⟨_, rfl, fun _ => hm, fun _ => by omega⟩, rfl, rfl⟩, sw.to⟩)
    · have hd2 : ¬ s ∈ l.take (i + 1) := by
        rw [List.take_add_one, hx]
        intro h
        rcases List.mem_append.1 h with h | h
        · exact hd h
        · simp only [Option.toList_some, List.mem_singleton] at h
          exact hdx h
      (repeat (first | refine vgo ?_ | refine ⟨_, rfl, rfl, ?_⟩ | refine ⟨_, rfl, ?_⟩ | refine ⟨rfl, ?_⟩ | intro hb | refine go2 ?_ | refine WC.seq (fun K hK => ?_) | ((first | refine hK _ _ _ ?_ | refine hK _ _ _ _ rfl ?_ | refine WX.thenExit (K := K) ?_); clear hK K) | (refine WX.thenExit (K := KL) ?_; clear hL KL)))
      exact (hL (i + 1) ⟨g, hd2⟩ (by omega)).conv (.cons rfl (.cons rfl (.cons rfl (.cons rfl .nil)))) (fun w h => h.to)
  · obtain rfl : i = l.length := by omega
    rw [List.take_of_length_le (Nat.le_refl _)] at hd
    (repeat (first | refine vgo ?_ | refine ⟨_, rfl, rfl, ?_⟩ | refine ⟨_, rfl, ?_⟩ | refine ⟨rfl, ?_⟩ | intro hb | refine go2 ?_ | refine WC.seq (fun K hK => ?_) | ((first | refine hK _ _ _ ?_ | refine hK _ _ _ _ rfl ?_ | refine WX.thenExit (K := K) ?_); clear hK K) | (refine WX.thenExit (K := KL) ?_; clear hL KL)))
    exact WX.ret1 rfl rfl (fun w sw => ⟨[], [], ⟨⟨_, rfl, fun h => absurd h (by decide), fun h => absurd h hd⟩, rfl, rfl⟩, sw.to⟩)
theorem containsS_fun (l : List (List UInt8)) (v : Value) (s : List UInt8) : Fun Tryz.prog 100 [v, .string (bs s)] [rd (Ty.sl Ty.str) l v] [] (fun z G S => z = .bool (decide (s ∈ l)) ∧ G = [] ∧ S = []) := by
  refine Fun.enter Tryz.func100 (by kernel_rfl) rfl Tryz.ntmps100 rfl (fun B Gf Sf => ?_); (try simp only [List.cons_append]); (try simp only [List.nil_append]); simp only [argEnv]
  (repeat (first | refine vgo ?_ | refine ⟨_, rfl, rfl, ?_⟩ | refine ⟨_, rfl, ?_⟩ | refine ⟨rfl, ?_⟩ | intro hb | refine go2 ?_ | refine WC.seq (fun K hK => ?_) | ((first | refine hK _ _ _ ?_ | refine hK _ _ _ _ rfl ?_ | refine WX.thenExit (K := K) ?_); clear hK K) | (refine WX.thenExit (K := KL) ?_; clear hL KL)))
  refine CallV.by' (indexS_fun l v s) ?_; rintro _ _ _ ⟨⟨j, rfl, hj⟩, rfl, rfl⟩; (try simp only [List.cons_append]); (try simp only [List.nil_append])
  have e : decide (0 ≤ j) = decide (s ∈ l) := decide_eq_decide.2 hj
  (repeat (first | refine vgo ?_ | refine ⟨_, rfl, rfl, ?_⟩ | refine ⟨_, rfl, ?_⟩ | refine ⟨rfl, ?_⟩ | intro hb | refine go2 ?_ | refine WC.seq (fun K hK => ?_) | ((first | refine hK _ _ _ ?_ | refine hK _ _ _ _ rfl ?_ | refine WX.thenExit (K := K) ?_); clear hK K) | (refine WX.thenExit (K := KL) ?_; clear hL KL)))
  exact WX.ret1 rfl rfl (fun w sw => ⟨[], [], ⟨by rw [e], rfl, rfl⟩, sw.to⟩)
instance containsS_pure {G : List Pers} {l : List (List UInt8)} {v : Value} {s : List UInt8} [i : RdSl v G Ty.str l] : PureF Tryz.prog 100 [v, .string (bs s)] G True (.bool (decide (s ∈ l))) := ⟨fun _ => ⟨_, by simpa using i.h, containsS_fun l v s⟩⟩
theorem tsigns_fun (k : Nat) (h1 : 1 ≤ k) (h4 : k ≤ 4) : Fun Tryz.prog 101 [.int .i64 (k : Nat)] [] [] (fun z G S => G = [rd (Ty.sl Ty.str) (sgn k) z] ∧ S = []) := by
  refine Fun.enter Tryz.func101 (by kernel_rfl) rfl Tryz.ntmps101 rfl (fun B Gf Sf => ?_); (try simp only [List.cons_append]); (try simp only [List.nil_append]); simp only [argEnv]
  obtain rfl | rfl | rfl | rfl : k = 1 ∨ k = 2 ∨ k = 3 ∨ k = 4 := by omega
  · (repeat (first | refine vgo ?_ | refine ⟨_, rfl, rfl, ?_⟩ | refine ⟨_, rfl, ?_⟩ | refine ⟨rfl, ?_⟩ | intro hb | refine go2 ?_ | refine WC.seq (fun K hK => ?_) | ((first | refine hK _ _ _ ?_ | refine hK _ _ _ _ rfl ?_ | refine WX.thenExit (K := K) ?_); clear hK K) | (refine WX.thenExit (K := KL) ?_; clear hL KL)))
    refine WX.sat (fun w sw => sw.pub (R := Ty.str) (l := sgn 1) (v := hb) SelOwn.h rfl rfl rfl (sgn_ok 1)) ?_
    exact WX.ret1 rfl rfl (fun w sw => ⟨_, [], ⟨rfl, rfl⟩, sw.to⟩)
  · (repeat (first | refine vgo ?_ | refine ⟨_, rfl, rfl, ?_⟩ | refine ⟨_, rfl, ?_⟩ | refine ⟨rfl, ?_⟩ | intro hb | refine go2 ?_ | refine WC.seq (fun K hK => ?_) | ((first | refine hK _ _ _ ?_ | refine hK _ _ _ _ rfl ?_ | refine WX.thenExit (K := K) ?_); clear hK K) | (refine WX.thenExit (K := KL) ?_; clear hL KL)))
    refine WX.sat (fun w sw => sw.pub (R := Ty.str) (l := sgn 2) (v := hb) SelOwn.h rfl rfl rfl (sgn_ok 2)) ?_
    exact WX.ret1 rfl rfl (fun w sw => ⟨_, [], ⟨rfl, rfl⟩, sw.to⟩)
  · (repeat (first | refine vgo ?_ | refine ⟨_, rfl, rfl, ?_⟩ | refine ⟨_, rfl, ?_⟩ | refine ⟨rfl, ?_⟩ | intro hb | refine go2 ?_ | refine WC.seq (fun K hK => ?_) | ((first | refine hK _ _ _ ?_ | refine hK _ _ _ _ rfl ?_ | refine WX.thenExit (K := K) ?_); clear hK K) | (refine WX.thenExit (K := KL) ?_; clear hL KL)))
    refine WX.sat (fun w sw => sw.pub (R := Ty.str) (l := sgn 3) (v := hb) SelOwn.h rfl rfl rfl (sgn_ok 3)) ?_
    exact WX.ret1 rfl rfl (fun w sw => ⟨_, [], ⟨rfl, rfl⟩, sw.to⟩)
  · (repeat (first | refine vgo ?_ | refine ⟨_, rfl, rfl, ?_⟩ | refine ⟨_, rfl, ?_⟩ | refine ⟨rfl, ?_⟩ | intro hb | refine go2 ?_ | refine WC.seq (fun K hK => ?_) | ((first | refine hK _ _ _ ?_ | refine hK _ _ _ _ rfl ?_ | refine WX.thenExit (K := K) ?_); clear hK K) | (refine WX.thenExit (K := KL) ?_; clear hL KL)))
    refine WX.sat (fun w sw => sw.pub (R := Ty.str) (l := sgn 4) (v := hb) SelOwn.h rfl rfl rfl (sgn_ok 4)) ?_
    exact WX.ret1 rfl rfl (fun w sw => ⟨_, [], ⟨rfl, rfl⟩, sw.to⟩)
theorem level_fun (s : List UInt8) : Fun Tryz.prog 94 [.string (bs s)] [] [] (fun z G S => z = .int .i64 (levM s : Nat) ∧ G = [] ∧ S = []) := by
  refine Fun.enter Tryz.func94 (by kernel_rfl) rfl Tryz.ntmps94 rfl (fun B Gf Sf => ?_); (try simp only [List.cons_append]); (try simp only [List.nil_append]); simp only [argEnv]
  (repeat (first | refine vgo ?_ | refine ⟨_, rfl, rfl, ?_⟩ | refine ⟨_, rfl, ?_⟩ | refine ⟨rfl, ?_⟩ | intro hb | refine go2 ?_ | refine WC.seq (fun K hK => ?_) | ((first | refine hK _ _ _ ?_ | refine hK _ _ _ _ rfl ?_ | refine WX.thenExit (K := K) ?_); clear hK K) | (refine WX.thenExit (K := KL) ?_; clear hL KL)))
  refine WC.loop (I := Nat) (fun i => [(0, .string (bs s)), (3, .int .i64 ((5 - i : Nat) : Int))]) (fun _ => Gf) (fun _ => Sf) (fun i => i ≤ 4 ∧ levM s = levK s i) (fun i => i) 4 ⟨Nat.le_refl _, rfl⟩ (.cons rfl (.cons rfl .nil)) (fun w h => h.to) ?_
  rintro i ⟨hi, he⟩ KL hL
  cases i with
  | zero =>
    (repeat (first | refine vgo ?_ | refine ⟨_, rfl, rfl, ?_⟩ | refine ⟨_, rfl, ?_⟩ | refine ⟨rfl, ?_⟩ | intro hb | refine go2 ?_ | refine WC.seq (fun K hK => ?_) | ((first | refine hK _ _ _ ?_ | refine hK _ _ _ _ rfl ?_ | refine WX.thenExit (K := K) ?_); clear hK K) | (refine WX.thenExit (K := KL) ?_; clear hL KL)))
    exact WX.ret1 rfl rfl (fun w sw => ⟨[], [], ⟨by rw [he]; rfl, rfl, rfl⟩, sw.to⟩)
  | succ i =>
    rw [levK] at he
    rw [show 5 - (i + 1) = 4 - i from by omega]
    have hk : 4 - i ≤ 4 ∧ 1 ≤ 4 - i := by omega
    (repeat (first | refine vgo ?_ | refine ⟨_, rfl, rfl, ?_⟩ | refine ⟨_, rfl, ?_⟩ | refine ⟨rfl, ?_⟩ | intro hb | refine go2 ?_ | refine WC.seq (fun K hK => ?_) | ((first | refine hK _ _ _ ?_ | refine hK _ _ _ _ rfl ?_ | refine WX.thenExit (K := K) ?_); clear hK K) | (refine WX.thenExit (K := KL) ?_; clear hL KL)))
    refine CallV.by' (tsigns_fun (4 - i) (by omega) (by omega)) ?_; rintro _ _ _ ⟨rfl, rfl⟩; (try simp only [List.cons_append]); (try simp only [List.nil_append])
    by_cases hm : s ∈ sgn (4 - i)
    · rw [if_pos hm] at he
      (repeat (first | refine vgo ?_ | refine ⟨_, rfl, rfl, ?_⟩ | refine ⟨_, rfl, ?_⟩ | refine ⟨rfl, ?_⟩ | intro hb | refine go2 ?_ | refine WC.seq (fun K hK => ?_) | ((first | refine hK _ _ _ ?_ | refine hK _ _ _ _ rfl ?_ | refine WX.thenExit (K := K) ?_); clear hK K) | (refine WX.thenExit (K := KL) ?_; clear hL KL)))
      exact WX.ret1 rfl rfl (fun w sw => ⟨[], [], ⟨by rw [he], rfl, rfl⟩, sw.to⟩)
    · rw [if_neg hm] at he
      (repeat (first | refine vgo ?_ | refine ⟨_, rfl, rfl, ?_⟩ | refine ⟨_, rfl, ?_⟩ | refine ⟨rfl, ?_⟩ | intro hb | refine go2 ?_ | refine WC.seq (fun K hK => ?_) | ((first | refine hK _ _ _ ?_ | refine hK _ _ _ _ rfl ?_ | refine WX.thenExit (K := K) ?_); clear hK K) | (refine WX.thenExit (K := KL) ?_; clear hL KL)))
      exact (hL i ⟨by omega, he⟩ (by omega)).conv (.cons rfl (.cons (by simp only [Env.get]; exact congrArg (fun z : Int => some (Value.int .i64 z)) (by omega)) .nil)) (fun w h => h.to)
instance level_pure {G : List Pers} {s : List UInt8} : PureF Tryz.prog 94 [.string (bs s)] G True (.int .i64 (levM s : Nat)) := ⟨fun _ => PureF.of0 (level_fun s)⟩
theorem AdrV.openOwn9 {P : Program} {n : Nat} {Q : Exit → Act → World → Prop} {B : Base} {env : Env} {G : List Pers} {S S' : List Res} {L rest : List Oper} {d : Nat} {T : TypeId} {u u' v : Value} {E sz m : Nat} {xs : List Value} [hm : SelOwn v S E sz m xs S'] (h0 : v = .slice none 0 0 → m = 0 → AdrV P n L Q rest B env G S d T u u')
    (h : ∀ b cp cs, v = .slice (some ⟨b, 0, none⟩) m cp → m ≤ cp → cp ≤ maxLen → cs.length = cp * sz → cs.take (m * sz) = xs → AdrV P n L Q rest B env G (Qd.box b E cs :: S') d T u u') : AdrV P n L Q rest B env G S d T u u' :=
  ⟨fun x y ty pos af h1 h2 h3 => WL.openOwn (v := v) (fun e m0 => (h0 e m0).go x y ty pos af h1 h2 h3) (fun b cp cs e hmc hcp hcl hct => (h b cp cs e hmc hcp hcl hct).go x y ty pos af h1 h2 h3)⟩
theorem rsigns_fun (k : Nat) (h1 : 1 ≤ k) (h4 : k ≤ 4) : Fun Tryz.prog 102 [.int .i64 (k : Nat)] [] [] (fun z G S => G = [rd (Ty.sl Ty.str) (sgn k) z] ∧ S = []) := by
  refine Fun.enter Tryz.func102 (by kernel_rfl) rfl Tryz.ntmps102 rfl (fun B Gf Sf => ?_); (try simp only [List.cons_append]); (try simp only [List.nil_append]); simp only [argEnv]
  obtain rfl | rfl | rfl | rfl : k = 1 ∨ k = 2 ∨ k = 3 ∨ k = 4 := by omega
  · (repeat (first | refine vgo ?_ | refine ⟨_, rfl, rfl, ?_⟩ | refine ⟨_, rfl, ?_⟩ | refine ⟨rfl, ?_⟩ | intro hb | refine go2 ?_ | refine WC.seq (fun K hK => ?_) | ((first | refine hK _ _ _ ?_ | refine hK _ _ _ _ rfl ?_ | refine WX.thenExit (K := K) ?_); clear hK K) | (refine WX.thenExit (K := KL) ?_; clear hL KL)))
    rename_i v3 v2 v1 v0
    refine AdrV.openOwn9 (v := hb) (fun e m0 => by omega) (fun b cp cs e hmc hcp hcl hct => ?_)
    subst e
    obtain ⟨sp, rfl⟩ : ∃ sp, cs = v3 :: v2 :: v1 :: v0 :: sp := ⟨cs.drop 4, by have := List.take_append_drop (4 * 1) cs; rw [hct] at this; exact this.symm⟩
    (repeat (first | refine vgo ?_ | refine ⟨_, rfl, rfl, ?_⟩ | refine ⟨_, rfl, ?_⟩ | refine ⟨rfl, ?_⟩ | intro hb | refine go2 ?_ | refine WC.seq (fun K hK => ?_) | ((first | refine hK _ _ _ ?_ | refine hK _ _ _ _ rfl ?_ | refine WX.thenExit (K := K) ?_); clear hK K) | (refine WX.thenExit (K := KL) ?_; clear hL KL)))
    refine WX.sat (fun w sw => sw.pub (R := Ty.str) (l := sgn 1) (v := v3) SelOwn.h rfl rfl rfl (sgn_ok 1)) ?_
    exact WX.ret1 rfl rfl (fun w sw => ⟨_, [], ⟨rfl, rfl⟩, sw.to⟩)
  · (repeat (first | refine vgo ?_ | refine ⟨_, rfl, rfl, ?_⟩ | refine ⟨_, rfl, ?_⟩ | refine ⟨rfl, ?_⟩ | intro hb | refine go2 ?_ | refine WC.seq (fun K hK => ?_) | ((first | refine hK _ _ _ ?_ | refine hK _ _ _ _ rfl ?_ | refine WX.thenExit (K := K) ?_); clear hK K) | (refine WX.thenExit (K := KL) ?_; clear hL KL)))
    rename_i v3 v2 v1 v0
    refine AdrV.openOwn9 (v := hb) (fun e m0 => by omega) (fun b cp cs e hmc hcp hcl hct => ?_)
    subst e
    obtain ⟨sp, rfl⟩ : ∃ sp, cs = v3 :: v2 :: v1 :: v0 :: sp := ⟨cs.drop 4, by have := List.take_append_drop (4 * 1) cs; rw [hct] at this; exact this.symm⟩
    (repeat (first | refine vgo ?_ | refine ⟨_, rfl, rfl, ?_⟩ | refine ⟨_, rfl, ?_⟩ | refine ⟨rfl, ?_⟩ | intro hb | refine go2 ?_ | refine WC.seq (fun K hK => ?_) | ((first | refine hK _ _ _ ?_ | refine hK _ _ _ _ rfl ?_ | refine WX.thenExit (K := K) ?_); clear hK K) | (refine WX.thenExit (K := KL) ?_; clear hL KL)))
    refine WX.sat (fun w sw => sw.pub (R := Ty.str) (l := sgn 2) (v := v2) SelOwn.h rfl rfl rfl (sgn_ok 2)) ?_
    exact WX.ret1 rfl rfl (fun w sw => ⟨_, [], ⟨rfl, rfl⟩, sw.to⟩)
  · (repeat (first | refine vgo ?_ | refine ⟨_, rfl, rfl, ?_⟩ | refine ⟨_, rfl, ?_⟩ | refine ⟨rfl, ?_⟩ | intro hb | refine go2 ?_ | refine WC.seq (fun K hK => ?_) | ((first | refine hK _ _ _ ?_ | refine hK _ _ _ _ rfl ?_ | refine WX.thenExit (K := K) ?_); clear hK K) | (refine WX.thenExit (K := KL) ?_; clear hL KL)))
    rename_i v3 v2 v1 v0
    refine AdrV.openOwn9 (v := hb) (fun e m0 => by omega) (fun b cp cs e hmc hcp hcl hct => ?_)
    subst e
    obtain ⟨sp, rfl⟩ : ∃ sp, cs = v3 :: v2 :: v1 :: v0 :: sp := ⟨cs.drop 4, by have := List.take_append_drop (4 * 1) cs; rw [hct] at this; exact this.symm⟩
    (repeat (first | refine vgo ?_ | refine ⟨_, rfl, rfl, ?_⟩ | refine ⟨_, rfl, ?_⟩ | refine ⟨rfl, ?_⟩ | intro hb | refine go2 ?_ | refine WC.seq (fun K hK => ?_) | ((first | refine hK _ _ _ ?_ | refine hK _ _ _ _ rfl ?_ | refine WX.thenExit (K := K) ?_); clear hK K) | (refine WX.thenExit (K := KL) ?_; clear hL KL)))
    refine WX.sat (fun w sw => sw.pub (R := Ty.str) (l := sgn 3) (v := v1) SelOwn.h rfl rfl rfl (sgn_ok 3)) ?_
    exact WX.ret1 rfl rfl (fun w sw => ⟨_, [], ⟨rfl, rfl⟩, sw.to⟩)
  · (repeat (first | refine vgo ?_ | refine ⟨_, rfl, rfl, ?_⟩ | refine ⟨_, rfl, ?_⟩ | refine ⟨rfl, ?_⟩ | intro hb | refine go2 ?_ | refine WC.seq (fun K hK => ?_) | ((first | refine hK _ _ _ ?_ | refine hK _ _ _ _ rfl ?_ | refine WX.thenExit (K := K) ?_); clear hK K) | (refine WX.thenExit (K := KL) ?_; clear hL KL)))
    rename_i v3 v2 v1 v0
    refine AdrV.openOwn9 (v := hb) (fun e m0 => by omega) (fun b cp cs e hmc hcp hcl hct => ?_)
    subst e
    obtain ⟨sp, rfl⟩ : ∃ sp, cs = v3 :: v2 :: v1 :: v0 :: sp := ⟨cs.drop 4, by have := List.take_append_drop (4 * 1) cs; rw [hct] at this; exact this.symm⟩
    (repeat (first | refine vgo ?_ | refine ⟨_, rfl, rfl, ?_⟩ | refine ⟨_, rfl, ?_⟩ | refine ⟨rfl, ?_⟩ | intro hb | refine go2 ?_ | refine WC.seq (fun K hK => ?_) | ((first | refine hK _ _ _ ?_ | refine hK _ _ _ _ rfl ?_ | refine WX.thenExit (K := K) ?_); clear hK K) | (refine WX.thenExit (K := KL) ?_; clear hL KL)))
    refine WX.sat (fun w sw => sw.pub (R := Ty.str) (l := sgn 4) (v := v0) SelOwn.h rfl rfl rfl (sgn_ok 4)) ?_
    exact WX.ret1 rfl rfl (fun w sw => ⟨_, [], ⟨rfl, rfl⟩, sw.to⟩)
theorem rlevel_fun (s : List UInt8) : Fun Tryz.prog 98 [.string (bs s)] [] [] (fun z G S => z = .int .i64 (levM s : Nat) ∧ G = [] ∧ S = []) := by
  refine Fun.enter Tryz.func98 (by kernel_rfl) rfl Tryz.ntmps98 rfl (fun B Gf Sf => ?_); (try simp only [List.cons_append]); (try simp only [List.nil_append]); simp only [argEnv]
  (repeat (first | refine vgo ?_ | refine ⟨_, rfl, rfl, ?_⟩ | refine ⟨_, rfl, ?_⟩ | refine ⟨rfl, ?_⟩ | intro hb | refine go2 ?_ | refine WC.seq (fun K hK => ?_) | ((first | refine hK _ _ _ ?_ | refine hK _ _ _ _ rfl ?_ | refine WX.thenExit (K := K) ?_); clear hK K) | (refine WX.thenExit (K := KL) ?_; clear hL KL)))
  refine WC.loop (I := Nat) (fun i => [(0, .string (bs s)), (3, .int .i64 ((5 - i : Nat) : Int))]) (fun _ => Gf) (fun _ => Sf) (fun i => i ≤ 4 ∧ levM s = levK s i) (fun i => i) 4 ⟨Nat.le_refl _, rfl⟩ (.cons rfl (.cons rfl .nil)) (fun w h => h.to) ?_
  rintro i ⟨hi, he⟩ KL hL
  cases i with
  | zero =>
    (repeat (first | refine vgo ?_ | refine ⟨_, rfl, rfl, ?_⟩ | refine ⟨_, rfl, ?_⟩ | refine ⟨rfl, ?_⟩ | intro hb | refine go2 ?_ | refine WC.seq (fun K hK => ?_) | ((first | refine hK _ _ _ ?_ | refine hK _ _ _ _ rfl ?_ | refine WX.thenExit (K := K) ?_); clear hK K) | (refine WX.thenExit (K := KL) ?_; clear hL KL)))
    exact WX.ret1 rfl rfl (fun w sw => ⟨[], [], ⟨by rw [he]; rfl, rfl, rfl⟩, sw.to⟩)
  | succ i =>
    rw [levK] at he
    rw [show 5 - (i + 1) = 4 - i from by omega]
    have hk : 4 - i ≤ 4 ∧ 1 ≤ 4 - i := by omega
    (repeat (first | refine vgo ?_ | refine ⟨_, rfl, rfl, ?_⟩ | refine ⟨_, rfl, ?_⟩ | refine ⟨rfl, ?_⟩ | intro hb | refine go2 ?_ | refine WC.seq (fun K hK => ?_) | ((first | refine hK _ _ _ ?_ | refine hK _ _ _ _ rfl ?_ | refine WX.thenExit (K := K) ?_); clear hK K) | (refine WX.thenExit (K := KL) ?_; clear hL KL)))
    refine CallV.by' (rsigns_fun (4 - i) (by omega) (by omega)) ?_; rintro _ _ _ ⟨rfl, rfl⟩; (try simp only [List.cons_append]); (try simp only [List.nil_append])
    (repeat (first | refine vgo ?_ | refine ⟨_, rfl, rfl, ?_⟩ | refine ⟨_, rfl, ?_⟩ | refine ⟨rfl, ?_⟩ | intro hb | refine go2 ?_ | refine WC.seq (fun K hK => ?_) | ((first | refine hK _ _ _ ?_ | refine hK _ _ _ _ rfl ?_ | refine WX.thenExit (K := K) ?_); clear hK K) | (refine WX.thenExit (K := KL) ?_; clear hL KL)))
    rename Value => lv
    have hsl := (sgn_le (4 - i)).1
    refine WC.loop (I := Nat) (fun j => [(0, .string (bs s)), (3, .int .i64 ((4 - i : Nat) : Int)), (4, lv), (5, .int .i64 (j : Nat))]) (fun _ => rd (Ty.sl Ty.str) (sgn (4 - i)) lv :: Gf) (fun _ => Sf) (fun j => j ≤ (sgn (4 - i)).length ∧ ¬ s ∈ (sgn (4 - i)).take j) (fun j => (sgn (4 - i)).length - j) 0 ⟨Nat.zero_le _, by simp⟩ (.cons rfl (.cons rfl (.cons rfl (.cons rfl .nil)))) (fun w h => h.to) ?_
    rintro j ⟨hj, hd⟩ KL2 hL2
    by_cases g : j < (sgn (4 - i)).length
    · obtain ⟨x, hx⟩ : ∃ x, (sgn (4 - i))[j]? = some x := ⟨_, List.getElem?_eq_getElem g⟩
      by_cases hdx : x = s
      · have hm : s ∈ sgn (4 - i) := by rw [← hdx]; exact List.mem_of_getElem? hx
        rw [if_pos hm] at he
        (repeat (first | refine vgo ?_ | refine ⟨_, rfl, rfl, ?_⟩ | refine ⟨_, rfl, ?_⟩ | refine ⟨rfl, ?_⟩ | intro hb | refine go2 ?_ | refine WC.seq (fun K hK => ?_) | ((first | refine hK _ _ _ ?_ | refine hK _ _ _ _ rfl ?_ | refine WX.thenExit (K := K) ?_); clear hK K) | (refine WX.thenExit (K := KL) ?_; clear hL KL)))
        exact WX.ret1 rfl rfl (fun w sw => ⟨[], [], ⟨by rw [he], rfl, rfl⟩, sw.to⟩)
      · have hd2 : ¬ s ∈ (sgn (4 - i)).take (j + 1) := by
          rw [List.take_add_one, hx]
          intro h
          rcases List.mem_append.1 h with h | h
          · exact hd h
          · simp only [Option.toList_some, List.mem_singleton] at h
            exact hdx h.symm
        (repeat (first | refine vgo ?_ | refine ⟨_, rfl, rfl, ?_⟩ | refine ⟨_, rfl, ?_⟩ | refine ⟨rfl, ?_⟩ | intro hb | refine go2 ?_ | refine WC.seq (fun K hK => ?_) | ((first | refine hK _ _ _ ?_ | refine hK _ _ _ _ rfl ?_ | refine WX.thenExit (K := K) ?_); clear hK K) | (refine WX.thenExit (K := KL) ?_; clear hL KL)))
        exact (hL2 (j + 1) ⟨g, hd2⟩ (by omega)).conv (.cons rfl (.cons rfl (.cons rfl (.cons rfl .nil)))) (fun w h => h.to)
    · rw [List.take_of_length_le (by omega)] at hd
      rw [if_neg hd] at he
      (repeat (first | refine vgo ?_ | refine ⟨_, rfl, rfl, ?_⟩ | refine ⟨_, rfl, ?_⟩ | refine ⟨rfl, ?_⟩ | intro hb | refine go2 ?_ | refine WC.seq (fun K hK => ?_) | ((first | refine hK _ _ _ ?_ | refine hK _ _ _ _ rfl ?_ | refine WX.thenExit (K := K) ?_); clear hK K) | (refine WX.thenExit (K := KL) ?_; clear hL KL)))
      refine WX.thenExit ?_
      (repeat (first | refine vgo ?_ | refine ⟨_, rfl, rfl, ?_⟩ | refine ⟨_, rfl, ?_⟩ | refine ⟨rfl, ?_⟩ | intro hb | refine go2 ?_ | refine WC.seq (fun K hK => ?_) | ((first | refine hK _ _ _ ?_ | refine hK _ _ _ _ rfl ?_ | refine WX.thenExit (K := K) ?_); clear hK K) | (refine WX.thenExit (K := KL) ?_; clear hL KL)))
      exact (hL i ⟨by omega, he⟩ (by omega)).conv (.cons rfl (.cons (by simp only [Env.get]; exact congrArg (fun z : Int => some (Value.int .i64 z)) (by omega)) .nil)) (fun w h => h.to)
instance rlevel_pure {G : List Pers} {s : List UInt8} : PureF Tryz.prog 98 [.string (bs s)] G True (.int .i64 (levM s : Nat)) := ⟨fun _ => PureF.of0 (rlevel_fun s)⟩
/-! ### Names -/
def chB (i : Nat) (c : UInt8) : Prop := (65 ≤ c.toNat ∧ c.toNat ≤ 90) ∨ (0 < i ∧ 48 ≤ c.toNat ∧ c.toNat ≤ 57)
def nameP (s : List UInt8) : Prop := 1 ≤ s.length ∧ s.length ≤ 32 ∧ ∀ i c, s[i]? = some c → chB i c
noncomputable instance (s : List UInt8) : Decidable (nameP s) := Classical.propDecidable _
theorem name_fun (s : List UInt8) (hs : s.length ≤ maxLen) : Fun Tryz.prog 95 [.string (bs s)] [] [] (fun z G S => z = .bool (decide (nameP s)) ∧ G = [] ∧ S = []) := by
  simp only [maxLen] at hs
  refine Fun.enter Tryz.func95 (by kernel_rfl) rfl Tryz.ntmps95 rfl (fun B Gf Sf => ?_); (try simp only [List.cons_append]); (try simp only [List.nil_append]); simp only [argEnv]
  (repeat (first | refine vgo ?_ | refine ⟨_, rfl, rfl, ?_⟩ | refine ⟨_, rfl, ?_⟩ | refine ⟨rfl, ?_⟩ | intro hb | refine go2 ?_ | refine WC.seq (fun K hK => ?_) | ((first | refine hK _ _ _ ?_ | refine hK _ _ _ _ rfl ?_ | refine WX.thenExit (K := K) ?_); clear hK K) | (refine WX.thenExit (K := KL) ?_; clear hL KL)))
  rename Value => bv
  refine WC.loop (I := Nat) (fun i => [(0, .string (bs s)), (6, bv), (7, .int .i64 (s.length : Nat)), (8, .int .i64 (i : Nat))]) (fun _ => rd (Ty.sl Ty.u8) s bv :: Gf) (fun _ => Sf) (fun i => i ≤ s.length ∧ ∀ j c, j < i → s[j]? = some c → chB j c) (fun i => s.length - i) 0 ⟨Nat.zero_le _, fun j c h => absurd h (by omega)⟩ (.cons rfl (.cons rfl (.cons rfl (.cons rfl .nil)))) (fun w h => h.to) ?_
  rintro i ⟨hi, hd⟩ KL hL
  by_cases g : i < s.length
  · obtain ⟨c, hc⟩ : ∃ c, s[i]? = some c := ⟨_, List.getElem?_eq_getElem g⟩
    have hc8 := c.toNat_lt
    by_cases hch : chB i c
    · have hn : ∀ j c, j < i + 1 → s[j]? = some c → chB j c := fun j c' h1 h2 => by
        by_cases hj : j = i
        · subst hj; rw [hc] at h2; cases h2; exact hch
        · exact hd j c' (by omega) h2
      by_cases c1 : 65 ≤ c.toNat
      · by_cases c2 : c.toNat ≤ 90
        · (repeat (first | refine vgo ?_ | refine ⟨_, rfl, rfl, ?_⟩ | refine ⟨_, rfl, ?_⟩ | refine ⟨rfl, ?_⟩ | intro hb | refine go2 ?_ | refine WC.seq (fun K hK => ?_) | ((first | refine hK _ _ _ ?_ | refine hK _ _ _ _ rfl ?_ | refine WX.thenExit (K := K) ?_); clear hK K) | (refine WX.thenExit (K := KL) ?_; clear hL KL)))
          exact (hL (i + 1) ⟨g, hn⟩ (by omega)).conv (.cons rfl (.cons rfl (.cons rfl (.cons rfl .nil)))) (fun w h => h.to)
        · obtain ⟨c3, c4, c5⟩ : 0 < i ∧ 48 ≤ c.toNat ∧ c.toNat ≤ 57 := Or.resolve_left hch (fun h => c2 h.2)
          omega
      · obtain ⟨c3, c4, c5⟩ : 0 < i ∧ 48 ≤ c.toNat ∧ c.toNat ≤ 57 := Or.resolve_left hch (fun h => c1 h.1)
        (repeat (first | refine vgo ?_ | refine ⟨_, rfl, rfl, ?_⟩ | refine ⟨_, rfl, ?_⟩ | refine ⟨rfl, ?_⟩ | intro hb | refine go2 ?_ | refine WC.seq (fun K hK => ?_) | ((first | refine hK _ _ _ ?_ | refine hK _ _ _ _ rfl ?_ | refine WX.thenExit (K := K) ?_); clear hK K) | (refine WX.thenExit (K := KL) ?_; clear hL KL)))
        exact (hL (i + 1) ⟨g, hn⟩ (by omega)).conv (.cons rfl (.cons rfl (.cons rfl (.cons rfl .nil)))) (fun w h => h.to)
    · have e : decide (nameP s) = false := decide_eq_false fun h => hch (h.2.2 i c hc)
      have e1 : ¬ (65 ≤ c.toNat ∧ c.toNat ≤ 90) := fun h => hch (.inl h)
      have e2 : ¬ (0 < i ∧ 48 ≤ c.toNat ∧ c.toNat ≤ 57) := fun h => hch (.inr h)
      by_cases c1 : c.toNat < 65
      · by_cases c2 : (i : Int) = 0
        · (repeat (first | refine vgo ?_ | refine ⟨_, rfl, rfl, ?_⟩ | refine ⟨_, rfl, ?_⟩ | refine ⟨rfl, ?_⟩ | intro hb | refine go2 ?_ | refine WC.seq (fun K hK => ?_) | ((first | refine hK _ _ _ ?_ | refine hK _ _ _ _ rfl ?_ | refine WX.thenExit (K := K) ?_); clear hK K) | (refine WX.thenExit (K := KL) ?_; clear hL KL)))
          exact WX.ret1 rfl rfl (fun w sw => ⟨[], [], ⟨by rw [e], rfl, rfl⟩, sw.to⟩)
        · by_cases c3 : c.toNat < 48
          · (repeat (first | refine vgo ?_ | refine ⟨_, rfl, rfl, ?_⟩ | refine ⟨_, rfl, ?_⟩ | refine ⟨rfl, ?_⟩ | intro hb | refine go2 ?_ | refine WC.seq (fun K hK => ?_) | ((first | refine hK _ _ _ ?_ | refine hK _ _ _ _ rfl ?_ | refine WX.thenExit (K := K) ?_); clear hK K) | (refine WX.thenExit (K := KL) ?_; clear hL KL)))
            exact WX.ret1 rfl rfl (fun w sw => ⟨[], [], ⟨by rw [e], rfl, rfl⟩, sw.to⟩)
          · (repeat (first | refine vgo ?_ | refine ⟨_, rfl, rfl, ?_⟩ | refine ⟨_, rfl, ?_⟩ | refine ⟨rfl, ?_⟩ | intro hb | refine go2 ?_ | refine WC.seq (fun K hK => ?_) | ((first | refine hK _ _ _ ?_ | refine hK _ _ _ _ rfl ?_ | refine WX.thenExit (K := K) ?_); clear hK K) | (refine WX.thenExit (K := KL) ?_; clear hL KL)))
            exact WX.ret1 rfl rfl (fun w sw => ⟨[], [], ⟨by rw [e], rfl, rfl⟩, sw.to⟩)
      · have c4 : 90 < c.toNat := by omega
        by_cases c2 : (i : Int) = 0
        · (repeat (first | refine vgo ?_ | refine ⟨_, rfl, rfl, ?_⟩ | refine ⟨_, rfl, ?_⟩ | refine ⟨rfl, ?_⟩ | intro hb | refine go2 ?_ | refine WC.seq (fun K hK => ?_) | ((first | refine hK _ _ _ ?_ | refine hK _ _ _ _ rfl ?_ | refine WX.thenExit (K := K) ?_); clear hK K) | (refine WX.thenExit (K := KL) ?_; clear hL KL)))
          exact WX.ret1 rfl rfl (fun w sw => ⟨[], [], ⟨by rw [e], rfl, rfl⟩, sw.to⟩)
        · (repeat (first | refine vgo ?_ | refine ⟨_, rfl, rfl, ?_⟩ | refine ⟨_, rfl, ?_⟩ | refine ⟨rfl, ?_⟩ | intro hb | refine go2 ?_ | refine WC.seq (fun K hK => ?_) | ((first | refine hK _ _ _ ?_ | refine hK _ _ _ _ rfl ?_ | refine WX.thenExit (K := K) ?_); clear hK K) | (refine WX.thenExit (K := KL) ?_; clear hL KL)))
          exact WX.ret1 rfl rfl (fun w sw => ⟨[], [], ⟨by rw [e], rfl, rfl⟩, sw.to⟩)
  · obtain rfl : i = s.length := by omega
    have hall : ∀ i c, s[i]? = some c → chB i c := fun i c h => hd i c (List.getElem?_eq_some_iff.1 h).1 h
    by_cases h1 : s = []
    · have e : decide (nameP s) = false := decide_eq_false fun h => by have := h.1; rw [h1] at this; simp at this
      (repeat (first | refine vgo ?_ | refine ⟨_, rfl, rfl, ?_⟩ | refine ⟨_, rfl, ?_⟩ | refine ⟨rfl, ?_⟩ | intro hb | refine go2 ?_ | refine WC.seq (fun K hK => ?_) | ((first | refine hK _ _ _ ?_ | refine hK _ _ _ _ rfl ?_ | refine WX.thenExit (K := K) ?_); clear hK K) | (refine WX.thenExit (K := KL) ?_; clear hL KL)))
      exact WX.ret1 rfl rfl (fun w sw => ⟨[], [], ⟨by rw [e], rfl, rfl⟩, sw.to⟩)
    · have h1l : 1 ≤ s.length := List.length_pos_iff.2 h1
      have e : decide (((s.length : Nat) : Int) ≤ 32) = decide (nameP s) := decide_eq_decide.2 ⟨fun h => ⟨h1l, by omega, hall⟩, fun h => by have := h.2.1; omega⟩
      (repeat (first | refine vgo ?_ | refine ⟨_, rfl, rfl, ?_⟩ | refine ⟨_, rfl, ?_⟩ | refine ⟨rfl, ?_⟩ | intro hb | refine go2 ?_ | refine WC.seq (fun K hK => ?_) | ((first | refine hK _ _ _ ?_ | refine hK _ _ _ _ rfl ?_ | refine WX.thenExit (K := K) ?_); clear hK K) | (refine WX.thenExit (K := KL) ?_; clear hL KL)))
      exact WX.ret1 rfl rfl (fun w sw => ⟨[], [], ⟨by rw [e], rfl, rfl⟩, sw.to⟩)
instance name_pure {G : List Pers} {s : List UInt8} : PureF Tryz.prog 95 [.string (bs s)] G (s.length ≤ maxLen) (.bool (decide (nameP s))) := ⟨fun h => PureF.of0 (name_fun s h)⟩
theorem rname_fun (s : List UInt8) (hs : s.length ≤ maxLen) : Fun Tryz.prog 99 [.string (bs s)] [] [] (fun z G S => z = .bool (decide (nameP s)) ∧ G = [] ∧ S = []) := by
  simp only [maxLen] at hs
  refine Fun.enter Tryz.func99 (by kernel_rfl) rfl Tryz.ntmps99 rfl (fun B Gf Sf => ?_); (try simp only [List.cons_append]); (try simp only [List.nil_append]); simp only [argEnv]
  (repeat (first | refine vgo ?_ | refine ⟨_, rfl, rfl, ?_⟩ | refine ⟨_, rfl, ?_⟩ | refine ⟨rfl, ?_⟩ | intro hb | refine go2 ?_ | refine WC.seq (fun K hK => ?_) | ((first | refine hK _ _ _ ?_ | refine hK _ _ _ _ rfl ?_ | refine WX.thenExit (K := K) ?_); clear hK K) | (refine WX.thenExit (K := KL) ?_; clear hL KL)))
  refine WC.loop (I := Nat) (fun i => [(0, .string (bs s)), (3, .int .i64 (i : Nat))]) (fun _ => Gf) (fun _ => Sf) (fun i => i ≤ s.length ∧ ∀ j c, j < i → s[j]? = some c → chB j c) (fun i => s.length - i) 0 ⟨Nat.zero_le _, fun j c h => absurd h (by omega)⟩ (.cons rfl (.cons rfl .nil)) (fun w h => h.to) ?_
  rintro i ⟨hi, hd⟩ KL hL
  by_cases g : i < s.length
  · obtain ⟨c, hc⟩ : ∃ c, s[i]? = some c := ⟨_, List.getElem?_eq_getElem g⟩
    have hc8 := c.toNat_lt
    by_cases hch : chB i c
    · have hn : ∀ j c, j < i + 1 → s[j]? = some c → chB j c := fun j c' h1 h2 => by
        by_cases hj : j = i
        · subst hj; rw [hc] at h2; cases h2; exact hch
        · exact hd j c' (by omega) h2
      by_cases c1 : 65 ≤ c.toNat
      · by_cases c2 : c.toNat ≤ 90
        · (repeat (first | refine vgo ?_ | refine ⟨_, rfl, rfl, ?_⟩ | refine ⟨_, rfl, ?_⟩ | refine ⟨rfl, ?_⟩ | intro hb | refine go2 ?_ | refine WC.seq (fun K hK => ?_) | ((first | refine hK _ _ _ ?_ | refine hK _ _ _ _ rfl ?_ | refine WX.thenExit (K := K) ?_); clear hK K) | (refine WX.thenExit (K := KL) ?_; clear hL KL)))
          exact (hL (i + 1) ⟨g, hn⟩ (by omega)).conv (.cons rfl (.cons rfl .nil)) (fun w h => h.to)
        · obtain ⟨c3, c4, c5⟩ : 0 < i ∧ 48 ≤ c.toNat ∧ c.toNat ≤ 57 := Or.resolve_left hch (fun h => c2 h.2)
          omega
      · obtain ⟨c3, c4, c5⟩ : 0 < i ∧ 48 ≤ c.toNat ∧ c.toNat ≤ 57 := Or.resolve_left hch (fun h => c1 h.1)
        (repeat (first | refine vgo ?_ | refine ⟨_, rfl, rfl, ?_⟩ | refine ⟨_, rfl, ?_⟩ | refine ⟨rfl, ?_⟩ | intro hb | refine go2 ?_ | refine WC.seq (fun K hK => ?_) | ((first | refine hK _ _ _ ?_ | refine hK _ _ _ _ rfl ?_ | refine WX.thenExit (K := K) ?_); clear hK K) | (refine WX.thenExit (K := KL) ?_; clear hL KL)))
        exact (hL (i + 1) ⟨g, hn⟩ (by omega)).conv (.cons rfl (.cons rfl .nil)) (fun w h => h.to)
    · have e : decide (nameP s) = false := decide_eq_false fun h => hch (h.2.2 i c hc)
      have e1 : ¬ (65 ≤ c.toNat ∧ c.toNat ≤ 90) := fun h => hch (.inl h)
      have e2 : ¬ (0 < i ∧ 48 ≤ c.toNat ∧ c.toNat ≤ 57) := fun h => hch (.inr h)
      by_cases c1 : 65 ≤ c.toNat
      · have c2 : ¬ c.toNat ≤ 90 := by omega
        by_cases c3 : 48 ≤ c.toNat
        · by_cases c4 : c.toNat ≤ 57
          · omega
          · (repeat (first | refine vgo ?_ | refine ⟨_, rfl, rfl, ?_⟩ | refine ⟨_, rfl, ?_⟩ | refine ⟨rfl, ?_⟩ | intro hb | refine go2 ?_ | refine WC.seq (fun K hK => ?_) | ((first | refine hK _ _ _ ?_ | refine hK _ _ _ _ rfl ?_ | refine WX.thenExit (K := K) ?_); clear hK K) | (refine WX.thenExit (K := KL) ?_; clear hL KL)))
            exact WX.ret1 rfl rfl (fun w sw => ⟨[], [], ⟨by rw [e], rfl, rfl⟩, sw.to⟩)
        · omega
      · by_cases c3 : 48 ≤ c.toNat
        · by_cases c4 : c.toNat ≤ 57
          · have c5 : ¬ 0 < i := by omega
            (repeat (first | refine vgo ?_ | refine ⟨_, rfl, rfl, ?_⟩ | refine ⟨_, rfl, ?_⟩ | refine ⟨rfl, ?_⟩ | intro hb | refine go2 ?_ | refine WC.seq (fun K hK => ?_) | ((first | refine hK _ _ _ ?_ | refine hK _ _ _ _ rfl ?_ | refine WX.thenExit (K := K) ?_); clear hK K) | (refine WX.thenExit (K := KL) ?_; clear hL KL)))
            exact WX.ret1 rfl rfl (fun w sw => ⟨[], [], ⟨by rw [e], rfl, rfl⟩, sw.to⟩)
          · (repeat (first | refine vgo ?_ | refine ⟨_, rfl, rfl, ?_⟩ | refine ⟨_, rfl, ?_⟩ | refine ⟨rfl, ?_⟩ | intro hb | refine go2 ?_ | refine WC.seq (fun K hK => ?_) | ((first | refine hK _ _ _ ?_ | refine hK _ _ _ _ rfl ?_ | refine WX.thenExit (K := K) ?_); clear hK K) | (refine WX.thenExit (K := KL) ?_; clear hL KL)))
            exact WX.ret1 rfl rfl (fun w sw => ⟨[], [], ⟨by rw [e], rfl, rfl⟩, sw.to⟩)
        · (repeat (first | refine vgo ?_ | refine ⟨_, rfl, rfl, ?_⟩ | refine ⟨_, rfl, ?_⟩ | refine ⟨rfl, ?_⟩ | intro hb | refine go2 ?_ | refine WC.seq (fun K hK => ?_) | ((first | refine hK _ _ _ ?_ | refine hK _ _ _ _ rfl ?_ | refine WX.thenExit (K := K) ?_); clear hK K) | (refine WX.thenExit (K := KL) ?_; clear hL KL)))
          exact WX.ret1 rfl rfl (fun w sw => ⟨[], [], ⟨by rw [e], rfl, rfl⟩, sw.to⟩)
  · obtain rfl : i = s.length := by omega
    have hall : ∀ i c, s[i]? = some c → chB i c := fun i c h => hd i c (List.getElem?_eq_some_iff.1 h).1 h
    by_cases h1 : 1 ≤ s.length
    · have e : decide (((s.length : Nat) : Int) ≤ 32) = decide (nameP s) := decide_eq_decide.2 ⟨fun h => ⟨h1, by omega, hall⟩, fun h => by have := h.2.1; omega⟩
      (repeat (first | refine vgo ?_ | refine ⟨_, rfl, rfl, ?_⟩ | refine ⟨_, rfl, ?_⟩ | refine ⟨rfl, ?_⟩ | intro hb | refine go2 ?_ | refine WC.seq (fun K hK => ?_) | ((first | refine hK _ _ _ ?_ | refine hK _ _ _ _ rfl ?_ | refine WX.thenExit (K := K) ?_); clear hK K) | (refine WX.thenExit (K := KL) ?_; clear hL KL)))
      exact WX.ret1 rfl rfl (fun w sw => ⟨[], [], ⟨by rw [e], rfl, rfl⟩, sw.to⟩)
    · have e : decide (nameP s) = false := decide_eq_false fun h => h1 h.1
      (repeat (first | refine vgo ?_ | refine ⟨_, rfl, rfl, ?_⟩ | refine ⟨_, rfl, ?_⟩ | refine ⟨rfl, ?_⟩ | intro hb | refine go2 ?_ | refine WC.seq (fun K hK => ?_) | ((first | refine hK _ _ _ ?_ | refine hK _ _ _ _ rfl ?_ | refine WX.thenExit (K := K) ?_); clear hK K) | (refine WX.thenExit (K := KL) ?_; clear hL KL)))
      exact WX.ret1 rfl rfl (fun w sw => ⟨[], [], ⟨by rw [e], rfl, rfl⟩, sw.to⟩)
instance rname_pure {G : List Pers} {s : List UInt8} : PureF Tryz.prog 99 [.string (bs s)] G (s.length ≤ maxLen) (.bool (decide (nameP s))) := ⟨fun h => PureF.of0 (rname_fun s h)⟩
end
/-! ### Trees that may be: the program's Right, the document's over shapes. -/
section
open Go Go.Proofs
/-! ### Shapes of trees, as the document's trees over numbers -/
abbrev shC (k n : Int) (s : List UInt8) (u : Value) : List Value := [.int .i64 k, .int .i64 n, .string (bs s), .int .i64 0, .int .i64 0, u]
abbrev shV (k n : Int) (s : List UInt8) (u : Value) : Value := .agg (shC k n s u).toArray
def shpB (R : Ty Nd) : Ty Nd := ⟨6, true, fun a v h => ∃ u, (v = shV a.k a.n a.s u ∧ a.s.length ≤ maxLen) ∧ slRel R a.ar u h, fun le ⟨u, e, x⟩ => ⟨u, e, x.mono le⟩, fun ⟨u, e, _⟩ => by rw [e.1]; rfl, fun ⟨u, e, _⟩ => by rw [e.1]; exact ⟨_, rfl⟩, fun ⟨u, e, x⟩ c hc => by
    obtain ⟨p, q, rfl, _⟩ := x.shape
    rw [e.1] at hc
    simp only [Value.cells, List.mem_cons, List.not_mem_nil, or_false] at hc
    rcases hc with rfl | rfl | rfl | rfl | rfl | rfl <;> rfl⟩
def shpD : Nat → Ty Nd
  | 0 => ⟨6, true, fun _ _ _ => False, fun _ h => h, fun h => h.elim, fun h => h.elim, fun h => h.elim⟩
  | d + 1 => shpB (shpD d)
theorem shpD_sz : ∀ d, (shpD d).sz = 6
  | 0 => rfl
  | _ + 1 => rfl
theorem shpD_agg : ∀ d, (shpD d).agg = true
  | 0 => rfl
  | _ + 1 => rfl
theorem shpD_up {h : Hp} : ∀ (d : Nat) {a : Nd} {v : Value}, (shpD d).rel a v h → (shpD (d + 1)).rel a v h
  | 0, _, _, x => x.elim
  | d + 1, _, _, ⟨u, e, x⟩ => ⟨u, e, slRel.imp (by rw [shpD_sz, shpD_sz]) (fun _ _ => shpD_up d) x⟩
theorem shpD_le {h : Hp} {d e : Nat} (hde : d ≤ e) {a : Nd} {v : Value} (x : (shpD d).rel a v h) : (shpD e).rel a v h := by
  induction hde with
  | refl => exact x
  | step _ ih => exact shpD_up _ ih
def shpT : Ty Nd := ⟨6, true, fun a v h => ∃ d, (shpD d).rel a v h, fun le ⟨d, x⟩ => ⟨d, (shpD d).mono le x⟩, fun ⟨d, x⟩ => by rw [← shpD_sz d]; exact (shpD d).size x,
  fun ⟨d, x⟩ => by have := (shpD d).form x; rw [shpD_agg d] at this; exact this, fun ⟨d, x⟩ => (shpD d).ones x⟩
theorem allSh {h : Hp} : ∀ {l : List Nd} {vs : List Value}, AllR shpT l vs h → ∃ d, AllR (shpD d) l vs h
  | [], [], _ => ⟨0, trivial⟩
  | _ :: _, _ :: _, ⟨⟨d, x⟩, y⟩ => by
    obtain ⟨e, y⟩ := allSh y
    exact ⟨max d e, shpD_le (Nat.le_max_left _ _) x, y.imp fun _ _ => shpD_le (Nat.le_max_right _ _)⟩
  | [], _ :: _, x => x.elim
  | _ :: _, [], x => x.elim
theorem shp_rel {a : Nd} {v : Value} {h : Hp} : shpT.rel a v h ↔ ∃ u, (v = shV a.k a.n a.s u ∧ a.s.length ≤ maxLen) ∧ slRel shpT a.ar u h := by
  constructor
  · rintro ⟨d, x⟩
    cases d with
    | zero => exact x.elim
    | succ d =>
      obtain ⟨u, e, x⟩ := x
      exact ⟨u, e, slRel.imp (R' := shpT) (shpD_sz d) (fun _ _ y => ⟨d, y⟩) x⟩
  · rintro ⟨u, ⟨rfl, hs⟩, hz⟩
    have : ∃ d, slRel (shpD d) a.ar u h := by
      rcases hz with x | ⟨b, o, c, cs, E, fr, vs, h1, h2, h3, h4, h5, h6⟩
      · exact ⟨0, .inl x⟩
      · obtain ⟨d, h5⟩ := allSh h5
        exact ⟨d, .inr ⟨b, o, c, cs, E, fr, vs, h1, h2, h3, h4, h5, by rw [shpD_sz]; exact h6⟩⟩
    obtain ⟨d, hz⟩ := this
    exact ⟨d + 1, u, ⟨rfl, hs⟩, hz⟩
instance : Ty.Sz shpT 6 := ⟨rfl, by decide⟩
theorem Sat.shp {B w : World} {G : List Pers} {S : List Res} {a : Nd} {v : Value} (h : Sat B G S w) (hm : Qd.rd shpT a v ∈ G) : ∃ sv, v = shV a.k a.n a.s sv ∧ a.s.length ≤ maxLen :=
  h.pure fun m hg => by
    obtain ⟨u, h1, _⟩ := shp_rel.1 (hg _ hm)
    exact ⟨u, h1⟩
theorem Sat.shpK {B w : World} {G : List Pers} {S : List Res} {a : Nd} {sv : Value} (h : Sat B G S w) (hm : Qd.rd shpT a (shV a.k a.n a.s sv) ∈ G) : Sat B (Qd.rd (Ty.sl shpT) a.ar sv :: G) S w :=
  h.more fun m hg => by
    obtain ⟨u', ⟨h1, _⟩, h2⟩ := shp_rel.1 (hg _ hm)
    have h3 := List.toArray_inj (Value.agg.inj h1)
    simp only [List.cons.injEq, and_true, true_and] at h3
    rw [h3]; exact h2
theorem CallV.ex9 {P : Program} {n : Nat} {Q : Exit → Act → World → Prop} {B : Base} {env : Env} {G : List Pers} {S : List Res} {L rest : List Oper} {dst : Option Nat} {f : FuncId} {vs : List Value} {p : Prop} (hp : ∀ w, Sat B.w G S w → p) (h : p → CallV P n L Q rest B env G S dst f vs) : CallV P n L Q rest B env G S dst f vs := ⟨fun ty pos af op h1 h2 => WL.ex hp (fun e => (h e).go ty pos af op h1 h2)⟩
/-! ### Trees that may be -/
def loP (k : Int) : Int := if k = 5 then 1 else if k = 6 then 2 else 0
def hiP (k : Int) : Int := if k = 5 then 1 else if k = 6 then 2 else if k = 7 then 16 else 0
def tRd : Nat → Nd → Prop
  | 0, _ => False
  | d + 1, a => (1 ≤ a.k ∧ a.k ≤ 8) ∧ (loP a.k ≤ (a.ar.length : Int) ∧ (a.ar.length : Int) ≤ hiP a.k) ∧ ((a.k = 1 → 0 ≤ a.n) ∧ (a.k = 6 → levM a.s ≠ 0) ∧ (a.k = 7 → nameP a.s)) ∧ ∀ x ∈ a.ar, tRd d x
noncomputable instance (d : Nat) (a : Nd) : Decidable (tRd d a) := Classical.propDecidable _
theorem tRd_up : ∀ {d : Nat} {a : Nd}, tRd d a → tRd (d + 1) a
  | 0, _, h => h.elim
  | _ + 1, _, h => ⟨h.1, h.2.1, h.2.2.1, fun x hx => tRd_up (h.2.2.2 x hx)⟩
theorem tRd_le {d e : Nat} (hde : d ≤ e) {a : Nd} (h : tRd d a) : tRd e a := by
  induction hde with
  | refl => exact h
  | step _ ih => exact tRd_up ih
theorem parts_fun (k : Int) : Fun Tryz.prog 93 [.int .i64 k] [] [] (fun z G S => z = .tuple #[.int .i64 (loP k), .int .i64 (hiP k)] ∧ G = [] ∧ S = []) := by
  refine Fun.enter Tryz.func93 (by kernel_rfl) rfl Tryz.ntmps93 rfl (fun B Gf Sf => ?_); (try simp only [List.cons_append]); (try simp only [List.nil_append]); simp only [argEnv]
  by_cases h5 : k = 5
  · subst h5
    (repeat (first | refine vgo ?_ | refine ⟨_, rfl, rfl, ?_⟩ | refine ⟨_, rfl, ?_⟩ | refine ⟨rfl, ?_⟩ | intro hb | refine go2 ?_ | refine WC.seq (fun K hK => ?_) | ((first | refine hK _ _ _ ?_ | refine hK _ _ _ _ rfl ?_ | refine WX.thenExit (K := K) ?_); clear hK K) | (refine WX.thenExit (K := KL) ?_; clear hL KL)))
    exact WX.ret2 rfl rfl rfl (fun w sw => ⟨[], [], ⟨rfl, rfl, rfl⟩, sw.to⟩)
  by_cases h6 : k = 6
  · subst h6
    (repeat (first | refine vgo ?_ | refine ⟨_, rfl, rfl, ?_⟩ | refine ⟨_, rfl, ?_⟩ | refine ⟨rfl, ?_⟩ | intro hb | refine go2 ?_ | refine WC.seq (fun K hK => ?_) | ((first | refine hK _ _ _ ?_ | refine hK _ _ _ _ rfl ?_ | refine WX.thenExit (K := K) ?_); clear hK K) | (refine WX.thenExit (K := KL) ?_; clear hL KL)))
    exact WX.ret2 rfl rfl rfl (fun w sw => ⟨[], [], ⟨rfl, rfl, rfl⟩, sw.to⟩)
  by_cases h7 : k = 7
  · subst h7
    (repeat (first | refine vgo ?_ | refine ⟨_, rfl, rfl, ?_⟩ | refine ⟨_, rfl, ?_⟩ | refine ⟨rfl, ?_⟩ | intro hb | refine go2 ?_ | refine WC.seq (fun K hK => ?_) | ((first | refine hK _ _ _ ?_ | refine hK _ _ _ _ rfl ?_ | refine WX.thenExit (K := K) ?_); clear hK K) | (refine WX.thenExit (K := KL) ?_; clear hL KL)))
    exact WX.ret2 rfl rfl rfl (fun w sw => ⟨[], [], ⟨rfl, rfl, rfl⟩, sw.to⟩)
  (repeat (first | refine vgo ?_ | refine ⟨_, rfl, rfl, ?_⟩ | refine ⟨_, rfl, ?_⟩ | refine ⟨rfl, ?_⟩ | intro hb | refine go2 ?_ | refine WC.seq (fun K hK => ?_) | ((first | refine hK _ _ _ ?_ | refine hK _ _ _ _ rfl ?_ | refine WX.thenExit (K := K) ?_); clear hK K) | (refine WX.thenExit (K := KL) ?_; clear hL KL)))
  exact WX.ret2 rfl rfl rfl (fun w sw => ⟨[], [], ⟨by unfold loP hiP; rw [if_neg h5, if_neg h6, if_neg h5, if_neg h6, if_neg h7], rfl, rfl⟩, sw.to⟩)
instance parts_pure {G : List Pers} {k : Int} : PureF Tryz.prog 93 [.int .i64 k] G True (.tuple #[.int .i64 (loP k), .int .i64 (hiP k)]) := ⟨fun _ => PureF.of0 (parts_fun k)⟩
set_option maxRecDepth 100000 in
set_option maxHeartbeats 1600000 in
theorem tright_fun (d : Nat) (hd : d ≤ 1000) (a : Nd) (u : Value) (ha : a.s.length ≤ maxLen) : Fun Tryz.prog 86 [ndV a.k a.n a.s a.f a.t u, .int .i64 (d : Nat)] [rd (Ty.sl nodeT) a.ar u] [] (fun z G S => z = .bool (decide (tRd d a)) ∧ G = [] ∧ S = []) := by
  refine Fun.enter Tryz.func86 (by kernel_rfl) rfl Tryz.ntmps86 rfl (fun B Gf Sf => ?_); (try simp only [List.cons_append]); (try simp only [List.nil_append]); simp only [argEnv]
  refine WC.ex (fun w sw => sw.slOne (v := u) RdSl.h) (fun hu1 => ?_)
  refine WC.ex (fun w sw => sw.len_le (RdSl.h (v := u))) (fun hlu => ?_)
  (repeat (first | refine vgo ?_ | refine ⟨_, rfl, rfl, ?_⟩ | refine ⟨_, rfl, ?_⟩ | refine ⟨rfl, ?_⟩ | intro hb | refine go2 ?_ | refine WC.seq (fun K hK => ?_) | ((first | refine hK _ _ _ ?_ | refine hK _ _ _ _ rfl ?_ | refine WX.thenExit (K := K) ?_); clear hK K) | (refine WX.thenExit (K := KL) ?_; clear hL KL)))
  (first | refine WL.boxA rfl rfl ?_ | refine WL.box rfl rfl rfl ?_); intro b1
  cases d with
  | zero =>
    have e : decide (tRd 0 a) = false := decide_eq_false fun h => h
    (repeat (first | refine vgo ?_ | refine ⟨_, rfl, rfl, ?_⟩ | refine ⟨_, rfl, ?_⟩ | refine ⟨rfl, ?_⟩ | intro hb | refine go2 ?_ | refine WC.seq (fun K hK => ?_) | ((first | refine hK _ _ _ ?_ | refine hK _ _ _ _ rfl ?_ | refine WX.thenExit (K := K) ?_); clear hK K) | (refine WX.thenExit (K := KL) ?_; clear hL KL)))
    exact WX.ret1 rfl rfl (fun w sw => ⟨[], [], ⟨by rw [e], rfl, rfl⟩, sw.to⟩)
  | succ d =>
    have ih : ∀ (x : Nd) (v : Value), x.s.length ≤ maxLen → Fun Tryz.prog 86 [ndV x.k x.n x.s x.f x.t v, .int .i64 (d : Nat)] [rd (Ty.sl nodeT) x.ar v] [] (fun z G S => z = .bool (decide (tRd d x)) ∧ G = [] ∧ S = []) := fun x v hx => tright_fun d (by omega) x v hx
    by_cases h1 : 1 ≤ a.k
    rotate_left
    · have e : decide (tRd (d + 1) a) = false := decide_eq_false fun h => h1 h.1.1
      (repeat (first | refine vgo ?_ | refine ⟨_, rfl, rfl, ?_⟩ | refine ⟨_, rfl, ?_⟩ | refine ⟨rfl, ?_⟩ | intro hb | refine go2 ?_ | refine WC.seq (fun K hK => ?_) | ((first | refine hK _ _ _ ?_ | refine hK _ _ _ _ rfl ?_ | refine WX.thenExit (K := K) ?_); clear hK K) | (refine WX.thenExit (K := KL) ?_; clear hL KL)))
      exact WX.ret1 rfl rfl (fun w sw => ⟨[], [], ⟨by rw [e], rfl, rfl⟩, sw.to⟩)
    by_cases h2 : a.k ≤ 8
    rotate_left
    · have e : decide (tRd (d + 1) a) = false := decide_eq_false fun h => h2 h.1.2
      (repeat (first | refine vgo ?_ | refine ⟨_, rfl, rfl, ?_⟩ | refine ⟨_, rfl, ?_⟩ | refine ⟨rfl, ?_⟩ | intro hb | refine go2 ?_ | refine WC.seq (fun K hK => ?_) | ((first | refine hK _ _ _ ?_ | refine hK _ _ _ _ rfl ?_ | refine WX.thenExit (K := K) ?_); clear hK K) | (refine WX.thenExit (K := KL) ?_; clear hL KL)))
      exact WX.ret1 rfl rfl (fun w sw => ⟨[], [], ⟨by rw [e], rfl, rfl⟩, sw.to⟩)
    by_cases h3 : loP a.k ≤ (a.ar.length : Int)
    rotate_left
    · have e : decide (tRd (d + 1) a) = false := decide_eq_false fun h => h3 h.2.1.1
      (repeat (first | refine vgo ?_ | refine ⟨_, rfl, rfl, ?_⟩ | refine ⟨_, rfl, ?_⟩ | refine ⟨rfl, ?_⟩ | intro hb | refine go2 ?_ | refine WC.seq (fun K hK => ?_) | ((first | refine hK _ _ _ ?_ | refine hK _ _ _ _ rfl ?_ | refine WX.thenExit (K := K) ?_); clear hK K) | (refine WX.thenExit (K := KL) ?_; clear hL KL)))
      exact WX.ret1 rfl rfl (fun w sw => ⟨[], [], ⟨by rw [e], rfl, rfl⟩, sw.to⟩)
    by_cases h4 : (a.ar.length : Int) ≤ hiP a.k
    rotate_left
    · have e : decide (tRd (d + 1) a) = false := decide_eq_false fun h => h4 h.2.1.2
      (repeat (first | refine vgo ?_ | refine ⟨_, rfl, rfl, ?_⟩ | refine ⟨_, rfl, ?_⟩ | refine ⟨rfl, ?_⟩ | intro hb | refine go2 ?_ | refine WC.seq (fun K hK => ?_) | ((first | refine hK _ _ _ ?_ | refine hK _ _ _ _ rfl ?_ | refine WX.thenExit (K := K) ?_); clear hK K) | (refine WX.thenExit (K := KL) ?_; clear hL KL)))
      exact WX.ret1 rfl rfl (fun w sw => ⟨[], [], ⟨by rw [e], rfl, rfl⟩, sw.to⟩)
    (repeat (first | refine vgo ?_ | refine ⟨_, rfl, rfl, ?_⟩ | refine ⟨_, rfl, ?_⟩ | refine ⟨rfl, ?_⟩ | intro hb | refine go2 ?_ | refine WC.seq (fun K hK => ?_) | ((first | refine hK _ _ _ ?_ | refine hK _ _ _ _ rfl ?_ | refine WX.thenExit (K := K) ?_); clear hK K) | (refine WX.thenExit (K := KL) ?_; clear hL KL)))
    have hR : ((a.k = 1 → 0 ≤ a.n) ∧ (a.k = 6 → levM a.s ≠ 0) ∧ (a.k = 7 → nameP a.s)) → WK 73 K { w := B, r := none, ds := [] } [(1, .int .i64 ((d + 1 : Nat) : Int)), (2, .pointer (some ⟨b1, 0, none⟩))] (rd (Ty.sl nodeT) a.ar u :: Gf) (box b1 58 (ndC a.k a.n a.s a.f a.t u) :: Sf) := fun hc => hK _ _ _ (by
      clear hK
      have hall : (∀ x ∈ a.ar, tRd d x) → decide (tRd (d + 1) a) = true := fun h => decide_eq_true ⟨⟨h1, h2⟩, ⟨h3, h4⟩, hc, h⟩
      (repeat (first | refine vgo ?_ | refine ⟨_, rfl, rfl, ?_⟩ | refine ⟨_, rfl, ?_⟩ | refine ⟨rfl, ?_⟩ | intro hb | refine go2 ?_ | refine WC.seq (fun K hK => ?_) | ((first | refine hK _ _ _ ?_ | refine hK _ _ _ _ rfl ?_ | refine WX.thenExit (K := K) ?_); clear hK K) | (refine WX.thenExit (K := KL) ?_; clear hL KL)))
      refine WC.loop (I := Nat) (fun i => [(1, .int .i64 ((d + 1 : Nat) : Int)), (61, u), (62, .int .i64 (a.ar.length : Nat)), (63, .int .i64 (i : Nat))]) (fun _ => rd (Ty.sl nodeT) a.ar u :: Gf) (fun _ => Sf) (fun i => i ≤ a.ar.length ∧ ∀ j x, j < i → a.ar[j]? = some x → tRd d x) (fun i => a.ar.length - i) 0 ⟨Nat.zero_le _, fun j x h => absurd h (by omega)⟩ (.cons rfl (.cons rfl (.cons rfl (.cons rfl .nil)))) (fun w h => h.to) ?_
      rintro i ⟨hi, hq⟩ KL hL
      by_cases g : i < a.ar.length
      · obtain ⟨x, hx⟩ : ∃ x, a.ar[i]? = some x := ⟨_, List.getElem?_eq_getElem g⟩
        have hd1 : ((d + 1 : Nat) : Int) - 1 = ((d : Nat) : Int) := by omega
        (repeat (first | refine vgo ?_ | refine ⟨_, rfl, rfl, ?_⟩ | refine ⟨_, rfl, ?_⟩ | refine ⟨rfl, ?_⟩ | intro hb | refine go2 ?_ | refine WC.seq (fun K hK => ?_) | ((first | refine hK _ _ _ ?_ | refine hK _ _ _ _ rfl ?_ | refine WX.thenExit (K := K) ?_); clear hK K) | (refine WX.thenExit (K := KL) ?_; clear hL KL)))
        refine WL.ex (fun w sw => sw.node (a := x) (v := hb) Rd.h) (fun hsx => ?_)
        obtain ⟨sx, rfl, hxs⟩ := hsx
        refine WL.sat (fun w sw => sw.nodeK (a := x) (sv := sx) Rd.h) ?_
        refine WL.alloc rfl ?_; intro bx
        (repeat (first | refine vgo ?_ | refine ⟨_, rfl, rfl, ?_⟩ | refine ⟨_, rfl, ?_⟩ | refine ⟨rfl, ?_⟩ | intro hb | refine go2 ?_ | refine WC.seq (fun K hK => ?_) | ((first | refine hK _ _ _ ?_ | refine hK _ _ _ _ rfl ?_ | refine WX.thenExit (K := K) ?_); clear hK K) | (refine WX.thenExit (K := KL) ?_; clear hL KL)))
        rw [hd1]
        refine CallV.by' (ih x sx hxs) ?_; rintro _ _ _ ⟨rfl, rfl, rfl⟩; (try simp only [List.cons_append]); (try simp only [List.nil_append])
        by_cases hxy : tRd d x
        · rw [decide_eq_true hxy]
          (repeat (first | refine vgo ?_ | refine ⟨_, rfl, rfl, ?_⟩ | refine ⟨_, rfl, ?_⟩ | refine ⟨rfl, ?_⟩ | intro hb | refine go2 ?_ | refine WC.seq (fun K hK => ?_) | ((first | refine hK _ _ _ ?_ | refine hK _ _ _ _ rfl ?_ | refine WX.thenExit (K := K) ?_); clear hK K) | (refine WX.thenExit (K := KL) ?_; clear hL KL)))
          exact (hL (i + 1) ⟨g, fun j y h1 h2 => by
            by_cases hj : j = i
            · subst hj; rw [hx] at h2; cases h2; exact hxy
            · exact hq j y (by omega) h2⟩ (by omega)).conv (.cons rfl (.cons rfl (.cons rfl (.cons rfl .nil)))) (fun w h => h.to)
        · rw [decide_eq_false hxy]
          have e : decide (tRd (d + 1) a) = false := decide_eq_false fun h => hxy (h.2.2.2 x (List.mem_of_getElem? hx))
          (repeat (first | refine vgo ?_ | refine ⟨_, rfl, rfl, ?_⟩ | refine ⟨_, rfl, ?_⟩ | refine ⟨rfl, ?_⟩ | intro hb | refine go2 ?_ | refine WC.seq (fun K hK => ?_) | ((first | refine hK _ _ _ ?_ | refine hK _ _ _ _ rfl ?_ | refine WX.thenExit (K := K) ?_); clear hK K) | (refine WX.thenExit (K := KL) ?_; clear hL KL)))
          exact WX.ret1 rfl rfl (fun w sw => ⟨[], [], ⟨by rw [e], rfl, rfl⟩, sw.to⟩)
      · have e := hall (fun x hx => by
          obtain ⟨j, hj, hjx⟩ := List.getElem_of_mem hx
          exact hq j x (by omega) (by rw [← hjx]; exact List.getElem?_eq_getElem hj))
        (repeat (first | refine vgo ?_ | refine ⟨_, rfl, rfl, ?_⟩ | refine ⟨_, rfl, ?_⟩ | refine ⟨rfl, ?_⟩ | intro hb | refine go2 ?_ | refine WC.seq (fun K hK => ?_) | ((first | refine hK _ _ _ ?_ | refine hK _ _ _ _ rfl ?_ | refine WX.thenExit (K := K) ?_); clear hK K) | (refine WX.thenExit (K := KL) ?_; clear hL KL)))
        exact WX.ret1 rfl rfl (fun w sw => ⟨[], [], ⟨by rw [e], rfl, rfl⟩, sw.to⟩))
    clear hK
    by_cases k1 : a.k = 1
    · by_cases n0 : a.n < 0
      · have e : decide (tRd (d + 1) a) = false := decide_eq_false fun h => by have := h.2.2.1.1 k1; omega
        (repeat (first | refine vgo ?_ | refine ⟨_, rfl, rfl, ?_⟩ | refine ⟨_, rfl, ?_⟩ | refine ⟨rfl, ?_⟩ | intro hb | refine go2 ?_ | refine WC.seq (fun K hK => ?_) | ((first | refine hK _ _ _ ?_ | refine hK _ _ _ _ rfl ?_ | refine WX.thenExit (K := K) ?_); clear hK K) | (refine WX.thenExit (K := KL) ?_; clear hL KL)))
        exact WX.ret1 rfl rfl (fun w sw => ⟨[], [], ⟨by rw [e], rfl, rfl⟩, sw.to⟩)
      · (repeat (first | refine vgo ?_ | refine ⟨_, rfl, rfl, ?_⟩ | refine ⟨_, rfl, ?_⟩ | refine ⟨rfl, ?_⟩ | intro hb | refine go2 ?_ | refine WC.seq (fun K hK => ?_) | ((first | refine hK _ _ _ ?_ | refine hK _ _ _ _ rfl ?_ | refine WX.thenExit (K := K) ?_); clear hK K) | (refine WX.thenExit (K := KL) ?_; clear hL KL)))
        exact (hR ⟨fun _ => by omega, fun h => by omega, fun h => by omega⟩).conv (.cons rfl (.cons rfl .nil)) (fun w h => h.to)
    by_cases k6 : a.k = 6
    · by_cases l0 : levM a.s = 0
      · have e : decide (tRd (d + 1) a) = false := decide_eq_false fun h => h.2.2.1.2.1 k6 l0
        (repeat (first | refine vgo ?_ | refine ⟨_, rfl, rfl, ?_⟩ | refine ⟨_, rfl, ?_⟩ | refine ⟨rfl, ?_⟩ | intro hb | refine go2 ?_ | refine WC.seq (fun K hK => ?_) | ((first | refine hK _ _ _ ?_ | refine hK _ _ _ _ rfl ?_ | refine WX.thenExit (K := K) ?_); clear hK K) | (refine WX.thenExit (K := KL) ?_; clear hL KL)))
        exact WX.ret1 rfl rfl (fun w sw => ⟨[], [], ⟨by rw [e], rfl, rfl⟩, sw.to⟩)
      · (repeat (first | refine vgo ?_ | refine ⟨_, rfl, rfl, ?_⟩ | refine ⟨_, rfl, ?_⟩ | refine ⟨rfl, ?_⟩ | intro hb | refine go2 ?_ | refine WC.seq (fun K hK => ?_) | ((first | refine hK _ _ _ ?_ | refine hK _ _ _ _ rfl ?_ | refine WX.thenExit (K := K) ?_); clear hK K) | (refine WX.thenExit (K := KL) ?_; clear hL KL)))
        exact (hR ⟨fun h => by omega, fun _ => l0, fun h => by omega⟩).conv (.cons rfl (.cons rfl .nil)) (fun w h => h.to)
    by_cases k7 : a.k = 7
    · by_cases nm : nameP a.s
      · have nmD : decide (nameP a.s) = true := decide_eq_true nm
        (repeat (first | refine vgo ?_ | refine ⟨_, rfl, rfl, ?_⟩ | refine ⟨_, rfl, ?_⟩ | refine ⟨rfl, ?_⟩ | intro hb | refine go2 ?_ | refine WC.seq (fun K hK => ?_) | ((first | refine hK _ _ _ ?_ | refine hK _ _ _ _ rfl ?_ | refine WX.thenExit (K := K) ?_); clear hK K) | (refine WX.thenExit (K := KL) ?_; clear hL KL)))
        rw [nmD]
        (repeat (first | refine vgo ?_ | refine ⟨_, rfl, rfl, ?_⟩ | refine ⟨_, rfl, ?_⟩ | refine ⟨rfl, ?_⟩ | intro hb | refine go2 ?_ | refine WC.seq (fun K hK => ?_) | ((first | refine hK _ _ _ ?_ | refine hK _ _ _ _ rfl ?_ | refine WX.thenExit (K := K) ?_); clear hK K) | (refine WX.thenExit (K := KL) ?_; clear hL KL)))
        exact (hR ⟨fun h => by omega, fun h => by omega, fun _ => nm⟩).conv (.cons rfl (.cons rfl .nil)) (fun w h => h.to)
      · have nmD : decide (nameP a.s) = false := decide_eq_false nm
        have e : decide (tRd (d + 1) a) = false := decide_eq_false fun h => nm (h.2.2.1.2.2 k7)
        (repeat (first | refine vgo ?_ | refine ⟨_, rfl, rfl, ?_⟩ | refine ⟨_, rfl, ?_⟩ | refine ⟨rfl, ?_⟩ | intro hb | refine go2 ?_ | refine WC.seq (fun K hK => ?_) | ((first | refine hK _ _ _ ?_ | refine hK _ _ _ _ rfl ?_ | refine WX.thenExit (K := K) ?_); clear hK K) | (refine WX.thenExit (K := KL) ?_; clear hL KL)))
        rw [nmD]
        (repeat (first | refine vgo ?_ | refine ⟨_, rfl, rfl, ?_⟩ | refine ⟨_, rfl, ?_⟩ | refine ⟨rfl, ?_⟩ | intro hb | refine go2 ?_ | refine WC.seq (fun K hK => ?_) | ((first | refine hK _ _ _ ?_ | refine hK _ _ _ _ rfl ?_ | refine WX.thenExit (K := K) ?_); clear hK K) | (refine WX.thenExit (K := KL) ?_; clear hL KL)))
        exact WX.ret1 rfl rfl (fun w sw => ⟨[], [], ⟨by rw [e], rfl, rfl⟩, sw.to⟩)
    (repeat (first | refine vgo ?_ | refine ⟨_, rfl, rfl, ?_⟩ | refine ⟨_, rfl, ?_⟩ | refine ⟨rfl, ?_⟩ | intro hb | refine go2 ?_ | refine WC.seq (fun K hK => ?_) | ((first | refine hK _ _ _ ?_ | refine hK _ _ _ _ rfl ?_ | refine WX.thenExit (K := K) ?_); clear hK K) | (refine WX.thenExit (K := KL) ?_; clear hL KL)))
    exact (hR ⟨fun h => absurd h k1, fun h => absurd h k6, fun h => absurd h k7⟩).conv (.cons rfl (.cons rfl .nil)) (fun w h => h.to)
theorem tRight_fun (a : Nd) (u : Value) (ha : a.s.length ≤ maxLen) : Fun Tryz.prog 73 [ndV a.k a.n a.s a.f a.t u] [rd (Ty.sl nodeT) a.ar u] [] (fun z G S => z = .bool (decide (tRd 64 a)) ∧ G = [] ∧ S = []) := by
  refine Fun.enter Tryz.func73 (by kernel_rfl) rfl Tryz.ntmps73 rfl (fun B Gf Sf => ?_); (try simp only [List.cons_append]); (try simp only [List.nil_append]); simp only [argEnv]
  refine WC.ex (fun w sw => sw.slOne (v := u) RdSl.h) (fun hu1 => ?_)
  (repeat (first | refine vgo ?_ | refine ⟨_, rfl, rfl, ?_⟩ | refine ⟨_, rfl, ?_⟩ | refine ⟨rfl, ?_⟩ | intro hb | refine go2 ?_ | refine WC.seq (fun K hK => ?_) | ((first | refine hK _ _ _ ?_ | refine hK _ _ _ _ rfl ?_ | refine WX.thenExit (K := K) ?_); clear hK K) | (refine WX.thenExit (K := KL) ?_; clear hL KL)))
  (first | refine WL.boxA rfl rfl ?_ | refine WL.box rfl rfl rfl ?_); intro b1
  (repeat (first | refine vgo ?_ | refine ⟨_, rfl, rfl, ?_⟩ | refine ⟨_, rfl, ?_⟩ | refine ⟨rfl, ?_⟩ | intro hb | refine go2 ?_ | refine WC.seq (fun K hK => ?_) | ((first | refine hK _ _ _ ?_ | refine hK _ _ _ _ rfl ?_ | refine WX.thenExit (K := K) ?_); clear hK K) | (refine WX.thenExit (K := KL) ?_; clear hL KL)))
  refine CallV.by' (tright_fun 64 (by omega) a u ha) ?_; rintro _ _ _ ⟨rfl, rfl, rfl⟩; (try simp only [List.cons_append]); (try simp only [List.nil_append])
  (repeat (first | refine vgo ?_ | refine ⟨_, rfl, rfl, ?_⟩ | refine ⟨_, rfl, ?_⟩ | refine ⟨rfl, ?_⟩ | intro hb | refine go2 ?_ | refine WC.seq (fun K hK => ?_) | ((first | refine hK _ _ _ ?_ | refine hK _ _ _ _ rfl ?_ | refine WX.thenExit (K := K) ?_); clear hK K) | (refine WX.thenExit (K := KL) ?_; clear hL KL)))
  exact WX.ret1 rfl rfl (fun w sw => ⟨[], [], ⟨rfl, rfl, rfl⟩, sw.to⟩)
instance tRight_pure {G : List Pers} {a : Nd} {u : Value} [i : RdSl u G nodeT a.ar] : PureF Tryz.prog 73 [ndV a.k a.n a.s a.f a.t u] G (a.s.length ≤ maxLen) (.bool (decide (tRd 64 a))) := ⟨fun h => ⟨_, by simpa using i.h, tRight_fun a u h⟩⟩
set_option maxRecDepth 100000 in
set_option maxHeartbeats 1600000 in
theorem rright9_fun (d : Nat) (hd : d ≤ 1000) (a : Nd) (u : Value) (ha : a.s.length ≤ maxLen) : Fun Tryz.prog 91 [shV a.k a.n a.s u, .int .i64 (d : Nat)] [rd (Ty.sl shpT) a.ar u] [] (fun z G S => z = .bool (decide (tRd d a)) ∧ G = [] ∧ S = []) := by
  refine Fun.enter Tryz.func91 (by kernel_rfl) rfl Tryz.ntmps91 rfl (fun B Gf Sf => ?_); (try simp only [List.cons_append]); (try simp only [List.nil_append]); simp only [argEnv]
  refine WC.ex (fun w sw => sw.slOne (v := u) RdSl.h) (fun hu1 => ?_)
  refine WC.ex (fun w sw => sw.len_le (RdSl.h (v := u))) (fun hlu => ?_)
  (repeat (first | refine vgo ?_ | refine ⟨_, rfl, rfl, ?_⟩ | refine ⟨_, rfl, ?_⟩ | refine ⟨rfl, ?_⟩ | intro hb | refine go2 ?_ | refine WC.seq (fun K hK => ?_) | ((first | refine hK _ _ _ ?_ | refine hK _ _ _ _ rfl ?_ | refine WX.thenExit (K := K) ?_); clear hK K) | (refine WX.thenExit (K := KL) ?_; clear hL KL)))
  (first | refine WL.boxA rfl rfl ?_ | refine WL.box rfl rfl rfl ?_); intro b1
  cases d with
  | zero =>
    have e : decide (tRd 0 a) = false := decide_eq_false fun h => h
    (repeat (first | refine vgo ?_ | refine ⟨_, rfl, rfl, ?_⟩ | refine ⟨_, rfl, ?_⟩ | refine ⟨rfl, ?_⟩ | intro hb | refine go2 ?_ | refine WC.seq (fun K hK => ?_) | ((first | refine hK _ _ _ ?_ | refine hK _ _ _ _ rfl ?_ | refine WX.thenExit (K := K) ?_); clear hK K) | (refine WX.thenExit (K := KL) ?_; clear hL KL)))
    exact WX.ret1 rfl rfl (fun w sw => ⟨[], [], ⟨by rw [e], rfl, rfl⟩, sw.to⟩)
  | succ d =>
    have ih : ∀ (x : Nd) (v : Value), x.s.length ≤ maxLen → Fun Tryz.prog 91 [shV x.k x.n x.s v, .int .i64 (d : Nat)] [rd (Ty.sl shpT) x.ar v] [] (fun z G S => z = .bool (decide (tRd d x)) ∧ G = [] ∧ S = []) := fun x v hx => rright9_fun d (by omega) x v hx
    by_cases h1 : 1 ≤ a.k
    rotate_left
    · have e : decide (tRd (d + 1) a) = false := decide_eq_false fun h => h1 h.1.1
      (repeat (first | refine vgo ?_ | refine ⟨_, rfl, rfl, ?_⟩ | refine ⟨_, rfl, ?_⟩ | refine ⟨rfl, ?_⟩ | intro hb | refine go2 ?_ | refine WC.seq (fun K hK => ?_) | ((first | refine hK _ _ _ ?_ | refine hK _ _ _ _ rfl ?_ | refine WX.thenExit (K := K) ?_); clear hK K) | (refine WX.thenExit (K := KL) ?_; clear hL KL)))
      exact WX.ret1 rfl rfl (fun w sw => ⟨[], [], ⟨by rw [e], rfl, rfl⟩, sw.to⟩)
    by_cases h2 : a.k ≤ 8
    rotate_left
    · have e : decide (tRd (d + 1) a) = false := decide_eq_false fun h => h2 h.1.2
      (repeat (first | refine vgo ?_ | refine ⟨_, rfl, rfl, ?_⟩ | refine ⟨_, rfl, ?_⟩ | refine ⟨rfl, ?_⟩ | intro hb | refine go2 ?_ | refine WC.seq (fun K hK => ?_) | ((first | refine hK _ _ _ ?_ | refine hK _ _ _ _ rfl ?_ | refine WX.thenExit (K := K) ?_); clear hK K) | (refine WX.thenExit (K := KL) ?_; clear hL KL)))
      exact WX.ret1 rfl rfl (fun w sw => ⟨[], [], ⟨by rw [e], rfl, rfl⟩, sw.to⟩)
    by_cases h3 : loP a.k ≤ (a.ar.length : Int) ∧ (a.ar.length : Int) ≤ hiP a.k
    rotate_left
    · have e : decide (tRd (d + 1) a) = false := decide_eq_false fun h => h3 h.2.1
      have key : (a.k = 5 ∧ ¬ (a.ar.length : Int) = 1) ∨ (a.k = 6 ∧ ¬ (a.ar.length : Int) = 2) ∨ (a.k = 7 ∧ 16 < (a.ar.length : Int)) ∨ ((a.k < 5 ∨ a.k = 8) ∧ ¬ (a.ar.length : Int) = 0) := by
        unfold loP hiP at h3
        by_cases k5 : a.k = 5
        · rw [if_pos k5, if_pos k5] at h3; omega
        · by_cases k6 : a.k = 6
          · rw [if_neg k5, if_pos k6, if_neg k5, if_pos k6] at h3; omega
          · by_cases k7 : a.k = 7
            · rw [if_neg k5, if_neg k6, if_neg k5, if_neg k6, if_pos k7] at h3; omega
            · rw [if_neg k5, if_neg k6, if_neg k5, if_neg k6, if_neg k7] at h3; omega
      rcases key with ⟨q1, q2⟩ | ⟨q1, q2⟩ | ⟨q1, q2⟩ | ⟨q1 | q1, q2⟩
      · (repeat (first | refine vgo ?_ | refine ⟨_, rfl, rfl, ?_⟩ | refine ⟨_, rfl, ?_⟩ | refine ⟨rfl, ?_⟩ | intro hb | refine go2 ?_ | refine WC.seq (fun K hK => ?_) | ((first | refine hK _ _ _ ?_ | refine hK _ _ _ _ rfl ?_ | refine WX.thenExit (K := K) ?_); clear hK K) | (refine WX.thenExit (K := KL) ?_; clear hL KL)))
        exact WX.ret1 rfl rfl (fun w sw => ⟨[], [], ⟨by rw [e], rfl, rfl⟩, sw.to⟩)
      · (repeat (first | refine vgo ?_ | refine ⟨_, rfl, rfl, ?_⟩ | refine ⟨_, rfl, ?_⟩ | refine ⟨rfl, ?_⟩ | intro hb | refine go2 ?_ | refine WC.seq (fun K hK => ?_) | ((first | refine hK _ _ _ ?_ | refine hK _ _ _ _ rfl ?_ | refine WX.thenExit (K := K) ?_); clear hK K) | (refine WX.thenExit (K := KL) ?_; clear hL KL)))
        exact WX.ret1 rfl rfl (fun w sw => ⟨[], [], ⟨by rw [e], rfl, rfl⟩, sw.to⟩)
      · (repeat (first | refine vgo ?_ | refine ⟨_, rfl, rfl, ?_⟩ | refine ⟨_, rfl, ?_⟩ | refine ⟨rfl, ?_⟩ | intro hb | refine go2 ?_ | refine WC.seq (fun K hK => ?_) | ((first | refine hK _ _ _ ?_ | refine hK _ _ _ _ rfl ?_ | refine WX.thenExit (K := K) ?_); clear hK K) | (refine WX.thenExit (K := KL) ?_; clear hL KL)))
        exact WX.ret1 rfl rfl (fun w sw => ⟨[], [], ⟨by rw [e], rfl, rfl⟩, sw.to⟩)
      · (repeat (first | refine vgo ?_ | refine ⟨_, rfl, rfl, ?_⟩ | refine ⟨_, rfl, ?_⟩ | refine ⟨rfl, ?_⟩ | intro hb | refine go2 ?_ | refine WC.seq (fun K hK => ?_) | ((first | refine hK _ _ _ ?_ | refine hK _ _ _ _ rfl ?_ | refine WX.thenExit (K := K) ?_); clear hK K) | (refine WX.thenExit (K := KL) ?_; clear hL KL)))
        exact WX.ret1 rfl rfl (fun w sw => ⟨[], [], ⟨by rw [e], rfl, rfl⟩, sw.to⟩)
      · (repeat (first | refine vgo ?_ | refine ⟨_, rfl, rfl, ?_⟩ | refine ⟨_, rfl, ?_⟩ | refine ⟨rfl, ?_⟩ | intro hb | refine go2 ?_ | refine WC.seq (fun K hK => ?_) | ((first | refine hK _ _ _ ?_ | refine hK _ _ _ _ rfl ?_ | refine WX.thenExit (K := K) ?_); clear hK K) | (refine WX.thenExit (K := KL) ?_; clear hL KL)))
        exact WX.ret1 rfl rfl (fun w sw => ⟨[], [], ⟨by rw [e], rfl, rfl⟩, sw.to⟩)
    have hall0 : ((a.k = 1 → 0 ≤ a.n) ∧ (a.k = 6 → levM a.s ≠ 0) ∧ (a.k = 7 → nameP a.s)) → (∀ x ∈ a.ar, tRd d x) → decide (tRd (d + 1) a) = true := fun hc h => decide_eq_true ⟨⟨h1, h2⟩, h3, hc, h⟩
    unfold loP hiP at h3
    by_cases k5 : a.k = 5
    · rw [if_pos k5, if_pos k5] at h3
      have hlen : (a.ar.length : Int) = 1 := by omega
      have hall := hall0 ⟨fun h => by omega, fun h => by omega, fun h => by omega⟩
      (repeat (first | refine vgo ?_ | refine ⟨_, rfl, rfl, ?_⟩ | refine ⟨_, rfl, ?_⟩ | refine ⟨rfl, ?_⟩ | intro hb | refine go2 ?_ | refine WC.seq (fun K hK => ?_) | ((first | refine hK _ _ _ ?_ | refine hK _ _ _ _ rfl ?_ | refine WX.thenExit (K := K) ?_); clear hK K) | (refine WX.thenExit (K := KL) ?_; clear hL KL)))
      refine WC.loop (I := Nat) (fun i => [(1, .int .i64 ((d + 1 : Nat) : Int)), (2, .pointer (some ⟨b1, 0, none⟩)), (5, .int .i64 (a.ar.length : Nat)), (6, .int .i64 (i : Nat))]) (fun _ => rd (Ty.sl shpT) a.ar u :: Gf) (fun _ => box b1 163 (shC a.k a.n a.s u) :: Sf) (fun i => i ≤ a.ar.length ∧ ∀ j x, j < i → a.ar[j]? = some x → tRd d x) (fun i => a.ar.length - i) 0 ⟨Nat.zero_le _, fun j x h => absurd h (by omega)⟩ (.cons rfl (.cons rfl (.cons rfl (.cons rfl .nil)))) (fun w h => h.to) ?_
      rintro i ⟨hi, hq⟩ KL hL
      by_cases g : i < a.ar.length
      · obtain ⟨x, hx⟩ : ∃ x, a.ar[i]? = some x := ⟨_, List.getElem?_eq_getElem g⟩
        have hd1 : ((d + 1 : Nat) : Int) - 1 = ((d : Nat) : Int) := by omega
        (repeat (first | refine vgo ?_ | refine ⟨_, rfl, rfl, ?_⟩ | refine ⟨_, rfl, ?_⟩ | refine ⟨rfl, ?_⟩ | intro hb | refine go2 ?_ | refine WC.seq (fun K hK => ?_) | ((first | refine hK _ _ _ ?_ | refine hK _ _ _ _ rfl ?_ | refine WX.thenExit (K := K) ?_); clear hK K) | (refine WX.thenExit (K := KL) ?_; clear hL KL)))
        refine CallV.ex9 (fun w sw => sw.shp (a := x) (v := hb) Rd.h) (fun hsx => ?_)
        obtain ⟨sx, rfl, hxs⟩ := hsx
        refine CallV.sat (fun w sw => sw.shpK (a := x) (sv := sx) Rd.h) ?_
        rw [hd1]
        refine CallV.by' (ih x sx hxs) ?_; rintro _ _ _ ⟨rfl, rfl, rfl⟩; (try simp only [List.cons_append]); (try simp only [List.nil_append])
        by_cases hxy : tRd d x
        · rw [decide_eq_true hxy]
          (repeat (first | refine vgo ?_ | refine ⟨_, rfl, rfl, ?_⟩ | refine ⟨_, rfl, ?_⟩ | refine ⟨rfl, ?_⟩ | intro hb | refine go2 ?_ | refine WC.seq (fun K hK => ?_) | ((first | refine hK _ _ _ ?_ | refine hK _ _ _ _ rfl ?_ | refine WX.thenExit (K := K) ?_); clear hK K) | (refine WX.thenExit (K := KL) ?_; clear hL KL)))
          exact (hL (i + 1) ⟨g, fun j y h1 h2 => by
            by_cases hj : j = i
            · subst hj; rw [hx] at h2; cases h2; exact hxy
            · exact hq j y (by omega) h2⟩ (by omega)).conv (.cons rfl (.cons rfl (.cons rfl (.cons rfl .nil)))) (fun w h => h.to)
        · rw [decide_eq_false hxy]
          have e : decide (tRd (d + 1) a) = false := decide_eq_false fun h => hxy (h.2.2.2 x (List.mem_of_getElem? hx))
          (repeat (first | refine vgo ?_ | refine ⟨_, rfl, rfl, ?_⟩ | refine ⟨_, rfl, ?_⟩ | refine ⟨rfl, ?_⟩ | intro hb | refine go2 ?_ | refine WC.seq (fun K hK => ?_) | ((first | refine hK _ _ _ ?_ | refine hK _ _ _ _ rfl ?_ | refine WX.thenExit (K := K) ?_); clear hK K) | (refine WX.thenExit (K := KL) ?_; clear hL KL)))
          exact WX.ret1 rfl rfl (fun w sw => ⟨[], [], ⟨by rw [e], rfl, rfl⟩, sw.to⟩)
      · have e := hall (fun x hx => by
          obtain ⟨j, hj, hjx⟩ := List.getElem_of_mem hx
          exact hq j x (by omega) (by rw [← hjx]; exact List.getElem?_eq_getElem hj))
        (repeat (first | refine vgo ?_ | refine ⟨_, rfl, rfl, ?_⟩ | refine ⟨_, rfl, ?_⟩ | refine ⟨rfl, ?_⟩ | intro hb | refine go2 ?_ | refine WC.seq (fun K hK => ?_) | ((first | refine hK _ _ _ ?_ | refine hK _ _ _ _ rfl ?_ | refine WX.thenExit (K := K) ?_); clear hK K) | (refine WX.thenExit (K := KL) ?_; clear hL KL)))
        exact WX.ret1 rfl rfl (fun w sw => ⟨[], [], ⟨by rw [e], rfl, rfl⟩, sw.to⟩)
    by_cases k6 : a.k = 6
    · rw [if_neg k5, if_pos k6, if_neg k5, if_pos k6] at h3
      have hlen : (a.ar.length : Int) = 2 := by omega
      by_cases l0 : levM a.s = 0
      · have e : decide (tRd (d + 1) a) = false := decide_eq_false fun h => h.2.2.1.2.1 k6 l0
        (repeat (first | refine vgo ?_ | refine ⟨_, rfl, rfl, ?_⟩ | refine ⟨_, rfl, ?_⟩ | refine ⟨rfl, ?_⟩ | intro hb | refine go2 ?_ | refine WC.seq (fun K hK => ?_) | ((first | refine hK _ _ _ ?_ | refine hK _ _ _ _ rfl ?_ | refine WX.thenExit (K := K) ?_); clear hK K) | (refine WX.thenExit (K := KL) ?_; clear hL KL)))
        exact WX.ret1 rfl rfl (fun w sw => ⟨[], [], ⟨by rw [e], rfl, rfl⟩, sw.to⟩)
      · have hall := hall0 ⟨fun h => by omega, fun _ => l0, fun h => by omega⟩
        (repeat (first | refine vgo ?_ | refine ⟨_, rfl, rfl, ?_⟩ | refine ⟨_, rfl, ?_⟩ | refine ⟨rfl, ?_⟩ | intro hb | refine go2 ?_ | refine WC.seq (fun K hK => ?_) | ((first | refine hK _ _ _ ?_ | refine hK _ _ _ _ rfl ?_ | refine WX.thenExit (K := K) ?_); clear hK K) | (refine WX.thenExit (K := KL) ?_; clear hL KL)))
        refine WC.loop (I := Nat) (fun i => [(1, .int .i64 ((d + 1 : Nat) : Int)), (2, .pointer (some ⟨b1, 0, none⟩)), (5, .int .i64 (a.ar.length : Nat)), (6, .int .i64 (i : Nat))]) (fun _ => rd (Ty.sl shpT) a.ar u :: Gf) (fun _ => box b1 163 (shC a.k a.n a.s u) :: Sf) (fun i => i ≤ a.ar.length ∧ ∀ j x, j < i → a.ar[j]? = some x → tRd d x) (fun i => a.ar.length - i) 0 ⟨Nat.zero_le _, fun j x h => absurd h (by omega)⟩ (.cons rfl (.cons rfl (.cons rfl (.cons rfl .nil)))) (fun w h => h.to) ?_
        rintro i ⟨hi, hq⟩ KL hL
        by_cases g : i < a.ar.length
        · obtain ⟨x, hx⟩ : ∃ x, a.ar[i]? = some x := ⟨_, List.getElem?_eq_getElem g⟩
          have hd1 : ((d + 1 : Nat) : Int) - 1 = ((d : Nat) : Int) := by omega
          (repeat (first | refine vgo ?_ | refine ⟨_, rfl, rfl, ?_⟩ | refine ⟨_, rfl, ?_⟩ | refine ⟨rfl, ?_⟩ | intro hb | refine go2 ?_ | refine WC.seq (fun K hK => ?_) | ((first | refine hK _ _ _ ?_ | refine hK _ _ _ _ rfl ?_ | refine WX.thenExit (K := K) ?_); clear hK K) | (refine WX.thenExit (K := KL) ?_; clear hL KL)))
          refine CallV.ex9 (fun w sw => sw.shp (a := x) (v := hb) Rd.h) (fun hsx => ?_)
          obtain ⟨sx, rfl, hxs⟩ := hsx
          refine CallV.sat (fun w sw => sw.shpK (a := x) (sv := sx) Rd.h) ?_
          rw [hd1]
          refine CallV.by' (ih x sx hxs) ?_; rintro _ _ _ ⟨rfl, rfl, rfl⟩; (try simp only [List.cons_append]); (try simp only [List.nil_append])
          by_cases hxy : tRd d x
          · rw [decide_eq_true hxy]
            (repeat (first | refine vgo ?_ | refine ⟨_, rfl, rfl, ?_⟩ | refine ⟨_, rfl, ?_⟩ | refine ⟨rfl, ?_⟩ | intro hb | refine go2 ?_ | refine WC.seq (fun K hK => ?_) | ((first | refine hK _ _ _ ?_ | refine hK _ _ _ _ rfl ?_ | refine WX.thenExit (K := K) ?_); clear hK K) | (refine WX.thenExit (K := KL) ?_; clear hL KL)))
            exact (hL (i + 1) ⟨g, fun j y h1 h2 => by
              by_cases hj : j = i
              · subst hj; rw [hx] at h2; cases h2; exact hxy
              · exact hq j y (by omega) h2⟩ (by omega)).conv (.cons rfl (.cons rfl (.cons rfl (.cons rfl .nil)))) (fun w h => h.to)
          · rw [decide_eq_false hxy]
            have e : decide (tRd (d + 1) a) = false := decide_eq_false fun h => hxy (h.2.2.2 x (List.mem_of_getElem? hx))
            (repeat (first | refine vgo ?_ | refine ⟨_, rfl, rfl, ?_⟩ | refine ⟨_, rfl, ?_⟩ | refine ⟨rfl, ?_⟩ | intro hb | refine go2 ?_ | refine WC.seq (fun K hK => ?_) | ((first | refine hK _ _ _ ?_ | refine hK _ _ _ _ rfl ?_ | refine WX.thenExit (K := K) ?_); clear hK K) | (refine WX.thenExit (K := KL) ?_; clear hL KL)))
            exact WX.ret1 rfl rfl (fun w sw => ⟨[], [], ⟨by rw [e], rfl, rfl⟩, sw.to⟩)
        · have e := hall (fun x hx => by
            obtain ⟨j, hj, hjx⟩ := List.getElem_of_mem hx
            exact hq j x (by omega) (by rw [← hjx]; exact List.getElem?_eq_getElem hj))
          (repeat (first | refine vgo ?_ | refine ⟨_, rfl, rfl, ?_⟩ | refine ⟨_, rfl, ?_⟩ | refine ⟨rfl, ?_⟩ | intro hb | refine go2 ?_ | refine WC.seq (fun K hK => ?_) | ((first | refine hK _ _ _ ?_ | refine hK _ _ _ _ rfl ?_ | refine WX.thenExit (K := K) ?_); clear hK K) | (refine WX.thenExit (K := KL) ?_; clear hL KL)))
          exact WX.ret1 rfl rfl (fun w sw => ⟨[], [], ⟨by rw [e], rfl, rfl⟩, sw.to⟩)
    by_cases k7 : a.k = 7
    · rw [if_neg k5, if_neg k6, if_neg k5, if_neg k6, if_pos k7] at h3
      have hlen : ¬ 16 < (a.ar.length : Int) := by omega
      by_cases nm : nameP a.s
      · have nmD : decide (nameP a.s) = true := decide_eq_true nm
        have hall := hall0 ⟨fun h => by omega, fun h => by omega, fun _ => nm⟩
        (repeat (first | refine vgo ?_ | refine ⟨_, rfl, rfl, ?_⟩ | refine ⟨_, rfl, ?_⟩ | refine ⟨rfl, ?_⟩ | intro hb | refine go2 ?_ | refine WC.seq (fun K hK => ?_) | ((first | refine hK _ _ _ ?_ | refine hK _ _ _ _ rfl ?_ | refine WX.thenExit (K := K) ?_); clear hK K) | (refine WX.thenExit (K := KL) ?_; clear hL KL)))
        refine WC.loop (I := Nat) (fun i => [(1, .int .i64 ((d + 1 : Nat) : Int)), (2, .pointer (some ⟨b1, 0, none⟩)), (5, .int .i64 (a.ar.length : Nat)), (6, .int .i64 (i : Nat))]) (fun _ => rd (Ty.sl shpT) a.ar u :: Gf) (fun _ => box b1 163 (shC a.k a.n a.s u) :: Sf) (fun i => i ≤ a.ar.length ∧ ∀ j x, j < i → a.ar[j]? = some x → tRd d x) (fun i => a.ar.length - i) 0 ⟨Nat.zero_le _, fun j x h => absurd h (by omega)⟩ (.cons rfl (.cons rfl (.cons rfl (.cons rfl .nil)))) (fun w h => h.to) ?_
        rintro i ⟨hi, hq⟩ KL hL
        by_cases g : i < a.ar.length
        · obtain ⟨x, hx⟩ : ∃ x, a.ar[i]? = some x := ⟨_, List.getElem?_eq_getElem g⟩
          have hd1 : ((d + 1 : Nat) : Int) - 1 = ((d : Nat) : Int) := by omega
          (repeat (first | refine vgo ?_ | refine ⟨_, rfl, rfl, ?_⟩ | refine ⟨_, rfl, ?_⟩ | refine ⟨rfl, ?_⟩ | intro hb | refine go2 ?_ | refine WC.seq (fun K hK => ?_) | ((first | refine hK _ _ _ ?_ | refine hK _ _ _ _ rfl ?_ | refine WX.thenExit (K := K) ?_); clear hK K) | (refine WX.thenExit (K := KL) ?_; clear hL KL)))
          refine CallV.ex9 (fun w sw => sw.shp (a := x) (v := hb) Rd.h) (fun hsx => ?_)
          obtain ⟨sx, rfl, hxs⟩ := hsx
          refine CallV.sat (fun w sw => sw.shpK (a := x) (sv := sx) Rd.h) ?_
          rw [hd1]
          refine CallV.by' (ih x sx hxs) ?_; rintro _ _ _ ⟨rfl, rfl, rfl⟩; (try simp only [List.cons_append]); (try simp only [List.nil_append])
          by_cases hxy : tRd d x
          · rw [decide_eq_true hxy]
            (repeat (first | refine vgo ?_ | refine ⟨_, rfl, rfl, ?_⟩ | refine ⟨_, rfl, ?_⟩ | refine ⟨rfl, ?_⟩ | intro hb | refine go2 ?_ | refine WC.seq (fun K hK => ?_) | ((first | refine hK _ _ _ ?_ | refine hK _ _ _ _ rfl ?_ | refine WX.thenExit (K := K) ?_); clear hK K) | (refine WX.thenExit (K := KL) ?_; clear hL KL)))
            exact (hL (i + 1) ⟨g, fun j y h1 h2 => by
              by_cases hj : j = i
              · subst hj; rw [hx] at h2; cases h2; exact hxy
              · exact hq j y (by omega) h2⟩ (by omega)).conv (.cons rfl (.cons rfl (.cons rfl (.cons rfl .nil)))) (fun w h => h.to)
          · rw [decide_eq_false hxy]
            have e : decide (tRd (d + 1) a) = false := decide_eq_false fun h => hxy (h.2.2.2 x (List.mem_of_getElem? hx))
            (repeat (first | refine vgo ?_ | refine ⟨_, rfl, rfl, ?_⟩ | refine ⟨_, rfl, ?_⟩ | refine ⟨rfl, ?_⟩ | intro hb | refine go2 ?_ | refine WC.seq (fun K hK => ?_) | ((first | refine hK _ _ _ ?_ | refine hK _ _ _ _ rfl ?_ | refine WX.thenExit (K := K) ?_); clear hK K) | (refine WX.thenExit (K := KL) ?_; clear hL KL)))
            exact WX.ret1 rfl rfl (fun w sw => ⟨[], [], ⟨by rw [e], rfl, rfl⟩, sw.to⟩)
        · have e := hall (fun x hx => by
            obtain ⟨j, hj, hjx⟩ := List.getElem_of_mem hx
            exact hq j x (by omega) (by rw [← hjx]; exact List.getElem?_eq_getElem hj))
          (repeat (first | refine vgo ?_ | refine ⟨_, rfl, rfl, ?_⟩ | refine ⟨_, rfl, ?_⟩ | refine ⟨rfl, ?_⟩ | intro hb | refine go2 ?_ | refine WC.seq (fun K hK => ?_) | ((first | refine hK _ _ _ ?_ | refine hK _ _ _ _ rfl ?_ | refine WX.thenExit (K := K) ?_); clear hK K) | (refine WX.thenExit (K := KL) ?_; clear hL KL)))
          exact WX.ret1 rfl rfl (fun w sw => ⟨[], [], ⟨by rw [e], rfl, rfl⟩, sw.to⟩)
      · have nmD : decide (nameP a.s) = false := decide_eq_false nm
        have e : decide (tRd (d + 1) a) = false := decide_eq_false fun h => nm (h.2.2.1.2.2 k7)
        (repeat (first | refine vgo ?_ | refine ⟨_, rfl, rfl, ?_⟩ | refine ⟨_, rfl, ?_⟩ | refine ⟨rfl, ?_⟩ | intro hb | refine go2 ?_ | refine WC.seq (fun K hK => ?_) | ((first | refine hK _ _ _ ?_ | refine hK _ _ _ _ rfl ?_ | refine WX.thenExit (K := K) ?_); clear hK K) | (refine WX.thenExit (K := KL) ?_; clear hL KL)))
        exact WX.ret1 rfl rfl (fun w sw => ⟨[], [], ⟨by rw [e], rfl, rfl⟩, sw.to⟩)
    rw [if_neg k5, if_neg k6, if_neg k5, if_neg k6, if_neg k7] at h3
    have hlen : (a.ar.length : Int) = 0 := by omega
    by_cases k8 : a.k = 8
    · have hall := hall0 ⟨fun h => by omega, fun h => by omega, fun h => by omega⟩
      (repeat (first | refine vgo ?_ | refine ⟨_, rfl, rfl, ?_⟩ | refine ⟨_, rfl, ?_⟩ | refine ⟨rfl, ?_⟩ | intro hb | refine go2 ?_ | refine WC.seq (fun K hK => ?_) | ((first | refine hK _ _ _ ?_ | refine hK _ _ _ _ rfl ?_ | refine WX.thenExit (K := K) ?_); clear hK K) | (refine WX.thenExit (K := KL) ?_; clear hL KL)))
      refine WC.loop (I := Nat) (fun i => [(1, .int .i64 ((d + 1 : Nat) : Int)), (2, .pointer (some ⟨b1, 0, none⟩)), (5, .int .i64 (a.ar.length : Nat)), (6, .int .i64 (i : Nat))]) (fun _ => rd (Ty.sl shpT) a.ar u :: Gf) (fun _ => box b1 163 (shC a.k a.n a.s u) :: Sf) (fun i => i ≤ a.ar.length ∧ ∀ j x, j < i → a.ar[j]? = some x → tRd d x) (fun i => a.ar.length - i) 0 ⟨Nat.zero_le _, fun j x h => absurd h (by omega)⟩ (.cons rfl (.cons rfl (.cons rfl (.cons rfl .nil)))) (fun w h => h.to) ?_
      rintro i ⟨hi, hq⟩ KL hL
      by_cases g : i < a.ar.length
      · obtain ⟨x, hx⟩ : ∃ x, a.ar[i]? = some x := ⟨_, List.getElem?_eq_getElem g⟩
        have hd1 : ((d + 1 : Nat) : Int) - 1 = ((d : Nat) : Int) := by omega
        (repeat (first | refine vgo ?_ | refine ⟨_, rfl, rfl, ?_⟩ | refine ⟨_, rfl, ?_⟩ | refine ⟨rfl, ?_⟩ | intro hb | refine go2 ?_ | refine WC.seq (fun K hK => ?_) | ((first | refine hK _ _ _ ?_ | refine hK _ _ _ _ rfl ?_ | refine WX.thenExit (K := K) ?_); clear hK K) | (refine WX.thenExit (K := KL) ?_; clear hL KL)))
        refine CallV.ex9 (fun w sw => sw.shp (a := x) (v := hb) Rd.h) (fun hsx => ?_)
        obtain ⟨sx, rfl, hxs⟩ := hsx
        refine CallV.sat (fun w sw => sw.shpK (a := x) (sv := sx) Rd.h) ?_
        rw [hd1]
        refine CallV.by' (ih x sx hxs) ?_; rintro _ _ _ ⟨rfl, rfl, rfl⟩; (try simp only [List.cons_append]); (try simp only [List.nil_append])
        by_cases hxy : tRd d x
        · rw [decide_eq_true hxy]
          (repeat (first | refine vgo ?_ | refine ⟨_, rfl, rfl, ?_⟩ | refine ⟨_, rfl, ?_⟩ | refine ⟨rfl, ?_⟩ | intro hb | refine go2 ?_ | refine WC.seq (fun K hK => ?_) | ((first | refine hK _ _ _ ?_ | refine hK _ _ _ _ rfl ?_ | refine WX.thenExit (K := K) ?_); clear hK K) | (refine WX.thenExit (K := KL) ?_; clear hL KL)))
          exact (hL (i + 1) ⟨g, fun j y h1 h2 => by
            by_cases hj : j = i
            · subst hj; rw [hx] at h2; cases h2; exact hxy
            · exact hq j y (by omega) h2⟩ (by omega)).conv (.cons rfl (.cons rfl (.cons rfl (.cons rfl .nil)))) (fun w h => h.to)
        · rw [decide_eq_false hxy]
          have e : decide (tRd (d + 1) a) = false := decide_eq_false fun h => hxy (h.2.2.2 x (List.mem_of_getElem? hx))
          (repeat (first | refine vgo ?_ | refine ⟨_, rfl, rfl, ?_⟩ | refine ⟨_, rfl, ?_⟩ | refine ⟨rfl, ?_⟩ | intro hb | refine go2 ?_ | refine WC.seq (fun K hK => ?_) | ((first | refine hK _ _ _ ?_ | refine hK _ _ _ _ rfl ?_ | refine WX.thenExit (K := K) ?_); clear hK K) | (refine WX.thenExit (K := KL) ?_; clear hL KL)))
          exact WX.ret1 rfl rfl (fun w sw => ⟨[], [], ⟨by rw [e], rfl, rfl⟩, sw.to⟩)
      · have e := hall (fun x hx => by
          obtain ⟨j, hj, hjx⟩ := List.getElem_of_mem hx
          exact hq j x (by omega) (by rw [← hjx]; exact List.getElem?_eq_getElem hj))
        (repeat (first | refine vgo ?_ | refine ⟨_, rfl, rfl, ?_⟩ | refine ⟨_, rfl, ?_⟩ | refine ⟨rfl, ?_⟩ | intro hb | refine go2 ?_ | refine WC.seq (fun K hK => ?_) | ((first | refine hK _ _ _ ?_ | refine hK _ _ _ _ rfl ?_ | refine WX.thenExit (K := K) ?_); clear hK K) | (refine WX.thenExit (K := KL) ?_; clear hL KL)))
        exact WX.ret1 rfl rfl (fun w sw => ⟨[], [], ⟨by rw [e], rfl, rfl⟩, sw.to⟩)
    have k4 : a.k < 5 := by omega
    by_cases k1 : a.k = 1
    · by_cases n0 : a.n < 0
      · have e : decide (tRd (d + 1) a) = false := decide_eq_false fun h => by have := h.2.2.1.1 k1; omega
        (repeat (first | refine vgo ?_ | refine ⟨_, rfl, rfl, ?_⟩ | refine ⟨_, rfl, ?_⟩ | refine ⟨rfl, ?_⟩ | intro hb | refine go2 ?_ | refine WC.seq (fun K hK => ?_) | ((first | refine hK _ _ _ ?_ | refine hK _ _ _ _ rfl ?_ | refine WX.thenExit (K := K) ?_); clear hK K) | (refine WX.thenExit (K := KL) ?_; clear hL KL)))
        exact WX.ret1 rfl rfl (fun w sw => ⟨[], [], ⟨by rw [e], rfl, rfl⟩, sw.to⟩)
      · have hall := hall0 ⟨fun _ => by omega, fun h => by omega, fun h => by omega⟩
        (repeat (first | refine vgo ?_ | refine ⟨_, rfl, rfl, ?_⟩ | refine ⟨_, rfl, ?_⟩ | refine ⟨rfl, ?_⟩ | intro hb | refine go2 ?_ | refine WC.seq (fun K hK => ?_) | ((first | refine hK _ _ _ ?_ | refine hK _ _ _ _ rfl ?_ | refine WX.thenExit (K := K) ?_); clear hK K) | (refine WX.thenExit (K := KL) ?_; clear hL KL)))
        refine WC.loop (I := Nat) (fun i => [(1, .int .i64 ((d + 1 : Nat) : Int)), (2, .pointer (some ⟨b1, 0, none⟩)), (5, .int .i64 (a.ar.length : Nat)), (6, .int .i64 (i : Nat))]) (fun _ => rd (Ty.sl shpT) a.ar u :: Gf) (fun _ => box b1 163 (shC a.k a.n a.s u) :: Sf) (fun i => i ≤ a.ar.length ∧ ∀ j x, j < i → a.ar[j]? = some x → tRd d x) (fun i => a.ar.length - i) 0 ⟨Nat.zero_le _, fun j x h => absurd h (by omega)⟩ (.cons rfl (.cons rfl (.cons rfl (.cons rfl .nil)))) (fun w h => h.to) ?_
        rintro i ⟨hi, hq⟩ KL hL
        by_cases g : i < a.ar.length
        · obtain ⟨x, hx⟩ : ∃ x, a.ar[i]? = some x := ⟨_, List.getElem?_eq_getElem g⟩
          have hd1 : ((d + 1 : Nat) : Int) - 1 = ((d : Nat) : Int) := by omega
          (repeat (first | refine vgo ?_ | refine ⟨_, rfl, rfl, ?_⟩ | refine ⟨_, rfl, ?_⟩ | refine ⟨rfl, ?_⟩ | intro hb | refine go2 ?_ | refine WC.seq (fun K hK => ?_) | ((first | refine hK _ _ _ ?_ | refine hK _ _ _ _ rfl ?_ | refine WX.thenExit (K := K) ?_); clear hK K) | (refine WX.thenExit (K := KL) ?_; clear hL KL)))
          refine CallV.ex9 (fun w sw => sw.shp (a := x) (v := hb) Rd.h) (fun hsx => ?_)
          obtain ⟨sx, rfl, hxs⟩ := hsx
          refine CallV.sat (fun w sw => sw.shpK (a := x) (sv := sx) Rd.h) ?_
          rw [hd1]
          refine CallV.by' (ih x sx hxs) ?_; rintro _ _ _ ⟨rfl, rfl, rfl⟩; (try simp only [List.cons_append]); (try simp only [List.nil_append])
          by_cases hxy : tRd d x
          · rw [decide_eq_true hxy]
            (repeat (first | refine vgo ?_ | refine ⟨_, rfl, rfl, ?_⟩ | refine ⟨_, rfl, ?_⟩ | refine ⟨rfl, ?_⟩ | intro hb | refine go2 ?_ | refine WC.seq (fun K hK => ?_) | ((first | refine hK _ _ _ ?_ | refine hK _ _ _ _ rfl ?_ | refine WX.thenExit (K := K) ?_); clear hK K) | (refine WX.thenExit (K := KL) ?_; clear hL KL)))
            exact (hL (i + 1) ⟨g, fun j y h1 h2 => by
              by_cases hj : j = i
              · subst hj; rw [hx] at h2; cases h2; exact hxy
              · exact hq j y (by omega) h2⟩ (by omega)).conv (.cons rfl (.cons rfl (.cons rfl (.cons rfl .nil)))) (fun w h => h.to)
          · rw [decide_eq_false hxy]
            have e : decide (tRd (d + 1) a) = false := decide_eq_false fun h => hxy (h.2.2.2 x (List.mem_of_getElem? hx))
            (repeat (first | refine vgo ?_ | refine ⟨_, rfl, rfl, ?_⟩ | refine ⟨_, rfl, ?_⟩ | refine ⟨rfl, ?_⟩ | intro hb | refine go2 ?_ | refine WC.seq (fun K hK => ?_) | ((first | refine hK _ _ _ ?_ | refine hK _ _ _ _ rfl ?_ | refine WX.thenExit (K := K) ?_); clear hK K) | (refine WX.thenExit (K := KL) ?_; clear hL KL)))
            exact WX.ret1 rfl rfl (fun w sw => ⟨[], [], ⟨by rw [e], rfl, rfl⟩, sw.to⟩)
        · have e := hall (fun x hx => by
            obtain ⟨j, hj, hjx⟩ := List.getElem_of_mem hx
            exact hq j x (by omega) (by rw [← hjx]; exact List.getElem?_eq_getElem hj))
          (repeat (first | refine vgo ?_ | refine ⟨_, rfl, rfl, ?_⟩ | refine ⟨_, rfl, ?_⟩ | refine ⟨rfl, ?_⟩ | intro hb | refine go2 ?_ | refine WC.seq (fun K hK => ?_) | ((first | refine hK _ _ _ ?_ | refine hK _ _ _ _ rfl ?_ | refine WX.thenExit (K := K) ?_); clear hK K) | (refine WX.thenExit (K := KL) ?_; clear hL KL)))
          exact WX.ret1 rfl rfl (fun w sw => ⟨[], [], ⟨by rw [e], rfl, rfl⟩, sw.to⟩)
    have hall := hall0 ⟨fun h => absurd h k1, fun h => absurd h k6, fun h => absurd h k7⟩
    (repeat (first | refine vgo ?_ | refine ⟨_, rfl, rfl, ?_⟩ | refine ⟨_, rfl, ?_⟩ | refine ⟨rfl, ?_⟩ | intro hb | refine go2 ?_ | refine WC.seq (fun K hK => ?_) | ((first | refine hK _ _ _ ?_ | refine hK _ _ _ _ rfl ?_ | refine WX.thenExit (K := K) ?_); clear hK K) | (refine WX.thenExit (K := KL) ?_; clear hL KL)))
    refine WC.loop (I := Nat) (fun i => [(1, .int .i64 ((d + 1 : Nat) : Int)), (2, .pointer (some ⟨b1, 0, none⟩)), (5, .int .i64 (a.ar.length : Nat)), (6, .int .i64 (i : Nat))]) (fun _ => rd (Ty.sl shpT) a.ar u :: Gf) (fun _ => box b1 163 (shC a.k a.n a.s u) :: Sf) (fun i => i ≤ a.ar.length ∧ ∀ j x, j < i → a.ar[j]? = some x → tRd d x) (fun i => a.ar.length - i) 0 ⟨Nat.zero_le _, fun j x h => absurd h (by omega)⟩ (.cons rfl (.cons rfl (.cons rfl (.cons rfl .nil)))) (fun w h => h.to) ?_
    rintro i ⟨hi, hq⟩ KL hL
    by_cases g : i < a.ar.length
    · obtain ⟨x, hx⟩ : ∃ x, a.ar[i]? = some x := ⟨_, List.getElem?_eq_getElem g⟩
      have hd1 : ((d + 1 : Nat) : Int) - 1 = ((d : Nat) : Int) := by omega
      (repeat (first | refine vgo ?_ | refine ⟨_, rfl, rfl, ?_⟩ | refine ⟨_, rfl, ?_⟩ | refine ⟨rfl, ?_⟩ | intro hb | refine go2 ?_ | refine WC.seq (fun K hK => ?_) | ((first | refine hK _ _ _ ?_ | refine hK _ _ _ _ rfl ?_ | refine WX.thenExit (K := K) ?_); clear hK K) | (refine WX.thenExit (K := KL) ?_; clear hL KL)))
      refine CallV.ex9 (fun w sw => sw.shp (a := x) (v := hb) Rd.h) (fun hsx => ?_)
      obtain ⟨sx, rfl, hxs⟩ := hsx
      refine CallV.sat (fun w sw => sw.shpK (a := x) (sv := sx) Rd.h) ?_
      rw [hd1]
      refine CallV.by' (ih x sx hxs) ?_; rintro _ _ _ ⟨rfl, rfl, rfl⟩; (try simp only [List.cons_append]); (try simp only [List.nil_append])
      by_cases hxy : tRd d x
      · rw [decide_eq_true hxy]
        (repeat (first | refine vgo ?_ | refine ⟨_, rfl, rfl, ?_⟩ | refine ⟨_, rfl, ?_⟩ | refine ⟨rfl, ?_⟩ | intro hb | refine go2 ?_ | refine WC.seq (fun K hK => ?_) | ((first | refine hK _ _ _ ?_ | refine hK _ _ _ _ rfl ?_ | refine WX.thenExit (K := K) ?_); clear hK K) | (refine WX.thenExit (K := KL) ?_; clear hL KL)))
        exact (hL (i + 1) ⟨g, fun j y h1 h2 => by
          by_cases hj : j = i
          · subst hj; rw [hx] at h2; cases h2; exact hxy
          · exact hq j y (by omega) h2⟩ (by omega)).conv (.cons rfl (.cons rfl (.cons rfl (.cons rfl .nil)))) (fun w h => h.to)
      · rw [decide_eq_false hxy]
        have e : decide (tRd (d + 1) a) = false := decide_eq_false fun h => hxy (h.2.2.2 x (List.mem_of_getElem? hx))
        (repeat (first | refine vgo ?_ | refine ⟨_, rfl, rfl, ?_⟩ | refine ⟨_, rfl, ?_⟩ | refine ⟨rfl, ?_⟩ | intro hb | refine go2 ?_ | refine WC.seq (fun K hK => ?_) | ((first | refine hK _ _ _ ?_ | refine hK _ _ _ _ rfl ?_ | refine WX.thenExit (K := K) ?_); clear hK K) | (refine WX.thenExit (K := KL) ?_; clear hL KL)))
        exact WX.ret1 rfl rfl (fun w sw => ⟨[], [], ⟨by rw [e], rfl, rfl⟩, sw.to⟩)
    · have e := hall (fun x hx => by
        obtain ⟨j, hj, hjx⟩ := List.getElem_of_mem hx
        exact hq j x (by omega) (by rw [← hjx]; exact List.getElem?_eq_getElem hj))
      (repeat (first | refine vgo ?_ | refine ⟨_, rfl, rfl, ?_⟩ | refine ⟨_, rfl, ?_⟩ | refine ⟨rfl, ?_⟩ | intro hb | refine go2 ?_ | refine WC.seq (fun K hK => ?_) | ((first | refine hK _ _ _ ?_ | refine hK _ _ _ _ rfl ?_ | refine WX.thenExit (K := K) ?_); clear hK K) | (refine WX.thenExit (K := KL) ?_; clear hL KL)))
      exact WX.ret1 rfl rfl (fun w sw => ⟨[], [], ⟨by rw [e], rfl, rfl⟩, sw.to⟩)
end
/-! ### Shapes made by the document; the document's Right. -/
section
open Go Go.Proofs
abbrev shZ : List Value := [.int .i64 0, .int .i64 0, .string .empty, .int .i64 0, .int .i64 0, .slice none 0 0]
theorem shp_mk {a : Nd} {sv : Value} {m : Hp} (ho : a.s.length ≤ maxLen) (h : (rd (Ty.sl shpT) a.ar sv).holds m) : (rd shpT a (shV a.k a.n a.s sv)).holds m := shp_rel.2 ⟨sv, ⟨rfl, ho⟩, h⟩
set_option maxRecDepth 100000 in
theorem shape_fun {M : Nat} (d : Nat) (hM : M ≤ upM) (a : Nd) (ha : smN M d a) (u : Value) : Fun Tryz.prog 92 [ndV a.k a.n a.s a.f a.t u] [rd (Ty.sl nodeT) a.ar u] [] (fun r G S => ∃ sv, r = shV a.k a.n a.s sv ∧ G = [rd (Ty.sl shpT) a.ar sv] ∧ S = []) := by
  obtain ⟨d, rfl⟩ : ∃ e, d = e + 1 := by
    cases d with
    | zero => exact ha.elim
    | succ e => exact ⟨e, rfl⟩
  have ih : ∀ x ∈ a.ar, ∀ va : Value, Fun Tryz.prog 92 [va] [rd nodeT x va] [] (fun r G S => ∃ sv, r = shV x.k x.n x.s sv ∧ G = [rd (Ty.sl shpT) x.ar sv] ∧ S = []) := fun x hx => Fun.node1 (fun u => shape_fun d hM x (ha.2.2 x hx) u)
  have hoks : ∀ x ∈ a.ar, okNd x := fun x hx => by
    have := ha.2.2 x hx
    cases d with
    | zero => exact this.elim
    | succ e => exact this.1
  have hal := ha.2.1
  simp only [upM] at hM
  refine Fun.enter Tryz.func92 (by kernel_rfl) rfl Tryz.ntmps92 rfl (fun B Gf Sf => ?_); (try simp only [List.cons_append]); (try simp only [List.nil_append]); simp only [argEnv]
  refine WC.ex (fun w sw => sw.slOne (v := u) RdSl.h) (fun hu1 => ?_)
  refine WC.ex (fun w sw => sw.len_le (RdSl.h (v := u))) (fun hlu => ?_)
  (repeat (first | refine vgo ?_ | refine ⟨_, rfl, rfl, ?_⟩ | refine ⟨_, rfl, ?_⟩ | refine ⟨rfl, ?_⟩ | intro hb | refine go2 ?_ | refine WC.seq (fun K hK => ?_) | ((first | refine hK _ _ _ ?_ | refine hK _ _ _ _ rfl ?_ | refine WX.thenExit (K := K) ?_); clear hK K) | (refine WX.thenExit (K := KL) ?_; clear hL KL)))
  (first | refine WL.boxA rfl rfl ?_ | refine WL.box rfl rfl rfl ?_); intro b1
  (repeat (first | refine vgo ?_ | refine ⟨_, rfl, rfl, ?_⟩ | refine ⟨_, rfl, ?_⟩ | refine ⟨rfl, ?_⟩ | intro hb | refine go2 ?_ | refine WC.seq (fun K hK => ?_) | ((first | refine hK _ _ _ ?_ | refine hK _ _ _ _ rfl ?_ | refine WX.thenExit (K := K) ?_); clear hK K) | (refine WX.thenExit (K := KL) ?_; clear hL KL)))
  refine WL.alloc rfl ?_; intro b2
  (repeat (first | refine vgo ?_ | refine ⟨_, rfl, rfl, ?_⟩ | refine ⟨_, rfl, ?_⟩ | refine ⟨rfl, ?_⟩ | intro hb | refine go2 ?_ | refine WC.seq (fun K hK => ?_) | ((first | refine hK _ _ _ ?_ | refine hK _ _ _ _ rfl ?_ | refine WX.thenExit (K := K) ?_); clear hK K) | (refine WX.thenExit (K := KL) ?_; clear hL KL)))
  refine WL.alloc rfl ?_; intro b3
  (repeat (first | refine vgo ?_ | refine ⟨_, rfl, rfl, ?_⟩ | refine ⟨_, rfl, ?_⟩ | refine ⟨rfl, ?_⟩ | intro hb | refine go2 ?_ | refine WC.seq (fun K hK => ?_) | ((first | refine hK _ _ _ ?_ | refine hK _ _ _ _ rfl ?_ | refine WX.thenExit (K := K) ?_); clear hK K) | (refine WX.thenExit (K := KL) ?_; clear hL KL)))
  refine WC.loop (I := Nat × Value × List Value) (fun i => [(1, .pointer (some ⟨b1, 0, none⟩)), (2, .pointer (some ⟨b2, 0, none⟩)), (3, .pointer (some ⟨b3, 0, none⟩)), (4, .int .i64 (i.1 : Nat))]) (fun i => rdAll shpT (a.ar.take i.1) i.2.2 :: rd (Ty.sl nodeT) a.ar u :: Gf)
    (fun i => own 163 6 i.2.1 i.1 (flat i.2.2) :: box b3 163 (shC a.k a.n a.s i.2.1) :: box b2 163 shZ :: box b1 73 (ndC a.k a.n a.s a.f a.t u) :: Sf) (fun i => i.1 ≤ a.ar.length) (fun i => a.ar.length - i.1) (0, .slice none 0 0, []) (Nat.zero_le _) (.cons rfl (.cons rfl (.cons rfl (.cons rfl .nil)))) (fun w h => by
    have h2 := Sat.rdAllNil shpT (h.ownNil 163 6)
    dsimp only [List.take_zero, flat_nil]
    exact h2.to) ?_
  rintro ⟨i, sv, vs⟩ hi KL hL
  dsimp only at hi
  by_cases g : i < a.ar.length
  · obtain ⟨x, hx⟩ : ∃ x, a.ar[i]? = some x := ⟨_, List.getElem?_eq_getElem g⟩
    have hpx := ih x (List.mem_of_getElem? hx)
    have hox := hoks x (List.mem_of_getElem? hx)
    (repeat (first | refine vgo ?_ | refine ⟨_, rfl, rfl, ?_⟩ | refine ⟨_, rfl, ?_⟩ | refine ⟨rfl, ?_⟩ | intro hb | refine go2 ?_ | refine WC.seq (fun K hK => ?_) | ((first | refine hK _ _ _ ?_ | refine hK _ _ _ _ rfl ?_ | refine WX.thenExit (K := K) ?_); clear hK K) | (refine WX.thenExit (K := KL) ?_; clear hL KL)))
    refine WC.drawV (S := (box b2 163 shZ :: box b1 73 (ndC a.k a.n a.s a.f a.t u) :: Sf)) ([[box b3 163 (shC a.k a.n a.s sv)], [own 163 6 sv i (flat vs)]]) rfl (by repeat (first | exact Wo.nil | (apply Wo.keep; exact rfl) | (apply Wo.drop; exact rfl))) (fun w sw => by (try simp only [List.flatten_cons, List.flatten_nil, List.append_nil, List.cons_append, List.nil_append]); exact sw.to) ?_; (try dsimp only [chunks])
    (repeat (first | refine ObP3.c0A ?_ | (apply ObP3.cons1 [1000] []; (focus ((repeat (intro _)); (conv => whnf); (try dsimp only [envO, List.cons_append, List.nil_append]); (repeat (first | refine vgo ?_ | refine ⟨_, rfl, rfl, ?_⟩ | refine ⟨_, rfl, ?_⟩ | refine ⟨rfl, ?_⟩ | intro hb | refine go2 ?_ | refine WC.seq (fun K hK => ?_) | ((first | refine hK _ _ _ ?_ | refine hK _ _ _ _ rfl ?_ | refine WX.thenExit (K := K) ?_); clear hK K) | (refine WX.thenExit (K := KL) ?_; clear hL KL))); first | exact WX.pgIs rfl | exact WX.pgRd rfl | exact WX.pgCell rfl | exact WX.pgNone | exact WX.pgOwn rfl)); exact rfl))); try (refine ObP3.nil ?_; (repeat (intro _)); (conv => whnf); (try dsimp only [envO, List.cons_append, List.nil_append]))
    refine ObP3.cons1 [] [] (.ex Value (fun v => shV x.k x.n x.s v) (fun v => [rd (Ty.sl shpT) x.ar v]) (fun _ => [])) ?_ rfl ?_
    · (repeat (intro _)); (conv => whnf); (try dsimp only [envO, List.cons_append, List.nil_append])
      (repeat (first | refine vgo ?_ | refine ⟨_, rfl, rfl, ?_⟩ | refine ⟨_, rfl, ?_⟩ | refine ⟨rfl, ?_⟩ | intro hb | refine go2 ?_ | refine WC.seq (fun K hK => ?_) | ((first | refine hK _ _ _ ?_ | refine hK _ _ _ _ rfl ?_ | refine WX.thenExit (K := K) ?_); clear hK K) | (refine WX.thenExit (K := KL) ?_; clear hL KL)))
      refine CallV.by' (hpx _) ?_; rintro _ _ _ ⟨s', rfl, rfl, rfl⟩; (try simp only [List.cons_append]); (try simp only [List.nil_append])
      (repeat (first | refine vgo ?_ | refine ⟨_, rfl, rfl, ?_⟩ | refine ⟨_, rfl, ?_⟩ | refine ⟨rfl, ?_⟩ | intro hb | refine go2 ?_ | refine WC.seq (fun K hK => ?_) | ((first | refine hK _ _ _ ?_ | refine hK _ _ _ _ rfl ?_ | refine WX.thenExit (K := K) ?_); clear hK K) | (refine WX.thenExit (K := KL) ?_; clear hL KL)))
      exact WX.pgEx s' rfl (fun w sw => sw.to)
    refine ObP3.cons1 [] [] (.ex (Value × Value) (fun p => p.1) (fun p => [rd (Ty.sl shpT) x.ar p.2]) (fun p => [own 163 6 p.1 1 (shC x.k x.n x.s p.2)])) ?_ rfl ?_
    · (repeat (intro _)); (conv => whnf); (try dsimp only [envO, List.cons_append, List.nil_append])
      (repeat (first | refine vgo ?_ | refine ⟨_, rfl, rfl, ?_⟩ | refine ⟨_, rfl, ?_⟩ | refine ⟨rfl, ?_⟩ | intro hb | refine go2 ?_ | refine WC.seq (fun K hK => ?_) | ((first | refine hK _ _ _ ?_ | refine hK _ _ _ _ rfl ?_ | refine WX.thenExit (K := K) ?_); clear hK K) | (refine WX.thenExit (K := KL) ?_; clear hL KL)))
      rename_i s' _ _
      simp only [List.append_nil]
      exact WX.pgEx (fv := fun p : Value × Value => p.1) (hb, s') rfl (fun w sw => sw.to)
    refine ObP3.cons1 [] [8, 1001] (.ex (Value × Value) (fun p => p.1) (fun p => [rd (Ty.sl shpT) x.ar p.2]) (fun p => [own 163 6 p.1 (i + 1) (flat vs ++ shC x.k x.n x.s p.2)])) ?_ rfl ?_
    · (repeat (intro _)); (conv => whnf); (try dsimp only [envO, List.cons_append, List.nil_append])
      (repeat (first | refine vgo ?_ | refine ⟨_, rfl, rfl, ?_⟩ | refine ⟨_, rfl, ?_⟩ | refine ⟨rfl, ?_⟩ | intro hb | refine go2 ?_ | refine WC.seq (fun K hK => ?_) | ((first | refine hK _ _ _ ?_ | refine hK _ _ _ _ rfl ?_ | refine WX.thenExit (K := K) ?_); clear hK K) | (refine WX.thenExit (K := KL) ?_; clear hL KL)))
      rename_i p8 _ _ _ _ _
      exact WX.pgEx (fv := fun p : Value × Value => p.1) (hb, p8.2) rfl (fun w sw => sw.to)
    (repeat refine ObP3.c0B ?_); try (refine ObP3.nil ?_; (repeat (intro _)); (conv => whnf); (try dsimp only [envO, List.cons_append, List.nil_append]))
    refine ObP3.cons1 [] [9, 1000] (.ex (Value × Value) (fun _ => undef) (fun p => [rd (Ty.sl shpT) x.ar p.2]) (fun p => [own 163 6 p.1 (i + 1) (flat vs ++ shC x.k x.n x.s p.2), box b3 163 (shC a.k a.n a.s p.1)])) ?_ rfl ?_
    · (repeat (intro _)); (conv => whnf); (try dsimp only [envO, List.cons_append, List.nil_append])
      (repeat (first | refine vgo ?_ | refine ⟨_, rfl, rfl, ?_⟩ | refine ⟨_, rfl, ?_⟩ | refine ⟨rfl, ?_⟩ | intro hb | refine go2 ?_ | refine WC.seq (fun K hK => ?_) | ((first | refine hK _ _ _ ?_ | refine hK _ _ _ _ rfl ?_ | refine WX.thenExit (K := K) ?_); clear hK K) | (refine WX.thenExit (K := KL) ?_; clear hL KL)))
      rename_i p9 _ _ _ _ _ _
      exact WX.pgEx0 p9 (fun w sw => sw.to)
    (repeat refine ObP3.c0B ?_); try (refine ObP3.nil ?_; (repeat (intro _)); (conv => whnf); (try dsimp only [envO, List.cons_append, List.nil_append]))
    (repeat (first | refine vgo ?_ | refine ⟨_, rfl, rfl, ?_⟩ | refine ⟨_, rfl, ?_⟩ | refine ⟨rfl, ?_⟩ | intro hb | refine go2 ?_ | refine WC.seq (fun K hK => ?_) | ((first | refine hK _ _ _ ?_ | refine hK _ _ _ _ rfl ?_ | refine WX.thenExit (K := K) ?_); clear hK K) | (refine WX.thenExit (K := KL) ?_; clear hL KL)))
    rename_i q _ _ _ _ _ _ _
    have htk : a.ar.take (i + 1) = a.ar.take i ++ [x] := by rw [List.take_add_one, hx]; rfl
    refine (hL (i + 1, q.1, vs ++ [shV x.k x.n x.s q.2]) g (by dsimp only; omega)).conv (.cons rfl (.cons rfl (.cons rfl (.cons rfl .nil)))) (fun w h => ?_)
    dsimp only
    rw [flat_snoc, htk, show (shV x.k x.n x.s q.2).cells.toList = shC x.k x.n x.s q.2 from rfl]
    have h2 := h.more (p := rdAll shpT (a.ar.take i ++ [x]) (vs ++ [shV x.k x.n x.s q.2])) (fun m hm => AllR.snoc (hm (rdAll shpT (a.ar.take i) vs) InG.h) (shp_mk hox.2.2.1 (hm (rd (Ty.sl shpT) x.ar q.2) InG.h)))
    exact h2.to
  · have e : a.ar.take i = a.ar := List.take_of_length_le (by omega)
    rw [e]
    obtain rfl : i = a.ar.length := by omega
    (repeat (first | refine vgo ?_ | refine ⟨_, rfl, rfl, ?_⟩ | refine ⟨_, rfl, ?_⟩ | refine ⟨rfl, ?_⟩ | intro hb | refine go2 ?_ | refine WC.seq (fun K hK => ?_) | ((first | refine hK _ _ _ ?_ | refine hK _ _ _ _ rfl ?_ | refine WX.thenExit (K := K) ?_); clear hK K) | (refine WX.thenExit (K := KL) ?_; clear hL KL)))
    refine WX.retC rfl rfl rfl (fun w sw => ⟨_, _, ⟨sv, rfl, rfl, rfl⟩, ?_⟩)
    have h2 := sw.pubR (R := shpT) (l := a.ar) (v := sv) (vs := vs) SelOwn.h rfl rfl rfl (fun mm hm => hm (rdAll shpT a.ar vs) InG.h)
    exact h2.to
termination_by SizeOf.sizeOf a
decreasing_by
  obtain ⟨k, n, s, f, t, ar⟩ := a
  have := List.sizeOf_lt_of_mem hx
  simp only [Nd.ar, Nd.mk.sizeOf_spec] at this ⊢
  omega
/-! ### Stamps of references -/
def R2 (f : Ref2) : Prop := idRight f.1 ∧ idRight f.2
noncomputable instance (f : Ref2) : Decidable (R2 f) := Classical.propDecidable _
def okF9 (a : Nd) : Prop := (a.k = 3 ∨ a.k = 4 → R2 a.f) ∧ (a.k = 4 → R2 a.t)
noncomputable instance (a : Nd) : Decidable (okF9 a) := Classical.propDecidable _
def stD : Nat → Nd → Prop
  | 0, _ => True
  | d + 1, a => okF9 a ∧ ∀ x ∈ a.ar, stD d x
noncomputable instance (d : Nat) (a : Nd) : Decidable (stD d a) := Classical.propDecidable _
set_option maxRecDepth 100000 in
set_option maxHeartbeats 1600000 in
theorem rr11_fun {M D : Nat} (hM : M ≤ upM) (d : Nat) (hd : d ≤ 64) (a : Nd) (u : Value) (ht : tRd d a) (hs : smN M D a) : Fun Tryz.prog 78 [ndV a.k a.n a.s a.f a.t u] [rd (Ty.sl nodeT) a.ar u] [] (fun z G S => z = .bool (decide (stD d a)) ∧ G = [] ∧ S = []) := by
  obtain ⟨d, rfl⟩ : ∃ e, d = e + 1 := by
    cases d with
    | zero => exact ht.elim
    | succ e => exact ⟨e, rfl⟩
  obtain ⟨D, rfl⟩ : ∃ e, D = e + 1 := by
    cases D with
    | zero => exact hs.elim
    | succ e => exact ⟨e, rfl⟩
  have ih : ∀ x ∈ a.ar, ∀ va : Value, Fun Tryz.prog 78 [va] [rd nodeT x va] [] (fun z G S => z = .bool (decide (stD d x)) ∧ G = [] ∧ S = []) := fun x hx => Fun.node1 (fun u => rr11_fun hM d (by omega) x u (ht.2.2.2 x hx) (hs.2.2 x hx))
  have h64 : tRd 64 a := tRd_le hd ht
  refine Fun.enter Tryz.func78 (by kernel_rfl) rfl Tryz.ntmps78 rfl (fun B Gf Sf => ?_); (try simp only [List.cons_append]); (try simp only [List.nil_append]); simp only [argEnv]
  refine WC.ex (fun w sw => sw.slOne (v := u) RdSl.h) (fun hu1 => ?_)
  refine WC.ex (fun w sw => sw.len_le (RdSl.h (v := u))) (fun hlu => ?_)
  (repeat (first | refine vgo ?_ | refine ⟨_, rfl, rfl, ?_⟩ | refine ⟨_, rfl, ?_⟩ | refine ⟨rfl, ?_⟩ | intro hb | refine go2 ?_ | refine WC.seq (fun K hK => ?_) | ((first | refine hK _ _ _ ?_ | refine hK _ _ _ _ rfl ?_ | refine WX.thenExit (K := K) ?_); clear hK K) | (refine WX.thenExit (K := KL) ?_; clear hL KL)))
  (first | refine WL.boxA rfl rfl ?_ | refine WL.box rfl rfl rfl ?_); intro b1
  (repeat (first | refine vgo ?_ | refine ⟨_, rfl, rfl, ?_⟩ | refine ⟨_, rfl, ?_⟩ | refine ⟨rfl, ?_⟩ | intro hb | refine go2 ?_ | refine WC.seq (fun K hK => ?_) | ((first | refine hK _ _ _ ?_ | refine hK _ _ _ _ rfl ?_ | refine WX.thenExit (K := K) ?_); clear hK K) | (refine WX.thenExit (K := KL) ?_; clear hL KL)))
  refine CallV.by' (shape_fun (D + 1) hM a hs u) ?_; rintro _ _ _ ⟨s', rfl, rfl, rfl⟩; (try simp only [List.cons_append]); (try simp only [List.nil_append])
  (repeat (first | refine vgo ?_ | refine ⟨_, rfl, rfl, ?_⟩ | refine ⟨_, rfl, ?_⟩ | refine ⟨rfl, ?_⟩ | intro hb | refine go2 ?_ | refine WC.seq (fun K hK => ?_) | ((first | refine hK _ _ _ ?_ | refine hK _ _ _ _ rfl ?_ | refine WX.thenExit (K := K) ?_); clear hK K) | (refine WX.thenExit (K := KL) ?_; clear hL KL)))
  refine CallV.by' (rright9_fun 64 (by omega) a s' hs.1.2.2.1) ?_; rintro _ _ _ ⟨rfl, rfl, rfl⟩; (try simp only [List.cons_append]); (try simp only [List.nil_append])
  rw [decide_eq_true h64]
  (repeat (first | refine vgo ?_ | refine ⟨_, rfl, rfl, ?_⟩ | refine ⟨_, rfl, ?_⟩ | refine ⟨rfl, ?_⟩ | intro hb | refine go2 ?_ | refine WC.seq (fun K hK => ?_) | ((first | refine hK _ _ _ ?_ | refine hK _ _ _ _ rfl ?_ | refine WX.thenExit (K := K) ?_); clear hK K) | (refine WX.thenExit (K := KL) ?_; clear hL KL)))
  rename_i Ko hKo
  have hA : ∀ ok : Bool, ok = decide (a.k = 3 ∨ a.k = 4 → R2 a.f) → WK 60 Ko { w := B, r := none, ds := [] } [(1, .pointer (some ⟨b1, 0, none⟩)), (3, .bool ok)] (rd (Ty.sl nodeT) a.ar u :: Gf) (box b1 73 (ndC a.k a.n a.s a.f a.t u) :: Sf) := fun ok hok => hKo _ _ _ (by
    clear hKo hK
    (repeat (first | refine vgo ?_ | refine ⟨_, rfl, rfl, ?_⟩ | refine ⟨_, rfl, ?_⟩ | refine ⟨rfl, ?_⟩ | intro hb | refine go2 ?_ | refine WC.seq (fun K hK => ?_) | ((first | refine hK _ _ _ ?_ | refine hK _ _ _ _ rfl ?_ | refine WX.thenExit (K := K) ?_); clear hK K) | (refine WX.thenExit (K := KL) ?_; clear hL KL)))
    have hB : ∀ ok2 : Bool, ok2 = decide (okF9 a) → WK 60 K { w := B, r := none, ds := [] } [(1, .pointer (some ⟨b1, 0, none⟩)), (3, .bool ok2)] (rd (Ty.sl nodeT) a.ar u :: Gf) (box b1 73 (ndC a.k a.n a.s a.f a.t u) :: Sf) := fun ok2 hok2 => hK _ _ _ (by
      clear hK
      (repeat (first | refine vgo ?_ | refine ⟨_, rfl, rfl, ?_⟩ | refine ⟨_, rfl, ?_⟩ | refine ⟨rfl, ?_⟩ | intro hb | refine go2 ?_ | refine WC.seq (fun K hK => ?_) | ((first | refine hK _ _ _ ?_ | refine hK _ _ _ _ rfl ?_ | refine WX.thenExit (K := K) ?_); clear hK K) | (refine WX.thenExit (K := KL) ?_; clear hL KL)))
      refine WC.loop (I := Nat × Bool) (fun i => [(1, .pointer (some ⟨b1, 0, none⟩)), (3, .bool i.2), (4, .int .i64 (i.1 : Nat))]) (fun _ => rd (Ty.sl nodeT) a.ar u :: Gf) (fun _ => box b1 73 (ndC a.k a.n a.s a.f a.t u) :: Sf) (fun i => i.1 ≤ a.ar.length ∧ (i.2 = true → okF9 a ∧ ∀ j x, j < i.1 → a.ar[j]? = some x → stD d x) ∧ (i.2 = false → ¬ stD (d + 1) a)) (fun i => a.ar.length - i.1) (0, ok2) ⟨Nat.zero_le _, fun h => ⟨of_decide_eq_true (hok2.symm.trans h), fun j x h => absurd h (by dsimp only; omega)⟩, fun h q => of_decide_eq_false (hok2.symm.trans h) q.1⟩ (.cons rfl (.cons rfl (.cons rfl .nil))) (fun w h => h.to) ?_
      rintro ⟨i, b⟩ ⟨hi, hqt, hqf⟩ KL hL
      dsimp only at hi hqt hqf ⊢
      cases b with
      | true =>
        obtain ⟨hq1, hq2⟩ := hqt rfl
        by_cases g : i < a.ar.length
        · obtain ⟨x, hx⟩ : ∃ x, a.ar[i]? = some x := ⟨_, List.getElem?_eq_getElem g⟩
          have hpx := ih x (List.mem_of_getElem? hx)
          (repeat (first | refine vgo ?_ | refine ⟨_, rfl, rfl, ?_⟩ | refine ⟨_, rfl, ?_⟩ | refine ⟨rfl, ?_⟩ | intro hb | refine go2 ?_ | refine WC.seq (fun K hK => ?_) | ((first | refine hK _ _ _ ?_ | refine hK _ _ _ _ rfl ?_ | refine WX.thenExit (K := K) ?_); clear hK K) | (refine WX.thenExit (K := KL) ?_; clear hL KL)))
          refine CallV.by' (hpx _) ?_; rintro _ _ _ ⟨rfl, rfl, rfl⟩; (try simp only [List.cons_append]); (try simp only [List.nil_append])
          (repeat (first | refine vgo ?_ | refine ⟨_, rfl, rfl, ?_⟩ | refine ⟨_, rfl, ?_⟩ | refine ⟨rfl, ?_⟩ | intro hb | refine go2 ?_ | refine WC.seq (fun K hK => ?_) | ((first | refine hK _ _ _ ?_ | refine hK _ _ _ _ rfl ?_ | refine WX.thenExit (K := K) ?_); clear hK K) | (refine WX.thenExit (K := KL) ?_; clear hL KL)))
          exact (hL (i + 1, decide (stD d x)) ⟨g, fun h => ⟨hq1, fun j y h1 h2 => by
            by_cases hj : j = i
            · subst hj; rw [hx] at h2; cases h2; exact of_decide_eq_true h
            · exact hq2 j y (by dsimp only at h1; omega) h2⟩, fun h q => of_decide_eq_false h (q.2 x (List.mem_of_getElem? hx))⟩ (by dsimp only; omega)).conv (.cons rfl (.cons rfl (.cons rfl .nil))) (fun w h => h.to)
        · have e : decide (stD (d + 1) a) = true := decide_eq_true ⟨hq1, fun x hx => by
            obtain ⟨j, hj, hjx⟩ := List.getElem_of_mem hx
            exact hq2 j x (by omega) (by rw [← hjx]; exact List.getElem?_eq_getElem hj)⟩
          (repeat (first | refine vgo ?_ | refine ⟨_, rfl, rfl, ?_⟩ | refine ⟨_, rfl, ?_⟩ | refine ⟨rfl, ?_⟩ | intro hb | refine go2 ?_ | refine WC.seq (fun K hK => ?_) | ((first | refine hK _ _ _ ?_ | refine hK _ _ _ _ rfl ?_ | refine WX.thenExit (K := K) ?_); clear hK K) | (refine WX.thenExit (K := KL) ?_; clear hL KL)))
          exact WX.ret1 rfl rfl (fun w sw => ⟨[], [], ⟨by rw [e], rfl, rfl⟩, sw.to⟩)
      | false =>
        have e : decide (stD (d + 1) a) = false := decide_eq_false (hqf rfl)
        by_cases g : i < a.ar.length
        · (repeat (first | refine vgo ?_ | refine ⟨_, rfl, rfl, ?_⟩ | refine ⟨_, rfl, ?_⟩ | refine ⟨rfl, ?_⟩ | intro hb | refine go2 ?_ | refine WC.seq (fun K hK => ?_) | ((first | refine hK _ _ _ ?_ | refine hK _ _ _ _ rfl ?_ | refine WX.thenExit (K := K) ?_); clear hK K) | (refine WX.thenExit (K := KL) ?_; clear hL KL)))
          exact WX.ret1 rfl rfl (fun w sw => ⟨[], [], ⟨by rw [e], rfl, rfl⟩, sw.to⟩)
        · (repeat (first | refine vgo ?_ | refine ⟨_, rfl, rfl, ?_⟩ | refine ⟨_, rfl, ?_⟩ | refine ⟨rfl, ?_⟩ | intro hb | refine go2 ?_ | refine WC.seq (fun K hK => ?_) | ((first | refine hK _ _ _ ?_ | refine hK _ _ _ _ rfl ?_ | refine WX.thenExit (K := K) ?_); clear hK K) | (refine WX.thenExit (K := KL) ?_; clear hL KL)))
          exact WX.ret1 rfl rfl (fun w sw => ⟨[], [], ⟨by rw [e], rfl, rfl⟩, sw.to⟩))
    clear hK
    by_cases k4 : a.k = 4
    · cases ok with
      | false =>
        have e : false = decide (okF9 a) := (decide_eq_false fun h => of_decide_eq_false hok.symm h.1).symm
        (repeat (first | refine vgo ?_ | refine ⟨_, rfl, rfl, ?_⟩ | refine ⟨_, rfl, ?_⟩ | refine ⟨rfl, ?_⟩ | intro hb | refine go2 ?_ | refine WC.seq (fun K hK => ?_) | ((first | refine hK _ _ _ ?_ | refine hK _ _ _ _ rfl ?_ | refine WX.thenExit (K := K) ?_); clear hK K) | (refine WX.thenExit (K := KL) ?_; clear hL KL)))
        exact (hB false e).conv (.cons rfl (.cons rfl .nil)) (fun w h => h.to)
      | true =>
        have hf : R2 a.f := of_decide_eq_true hok.symm (.inr k4)
        by_cases r1 : idRight (a.t.1.1, a.t.1.2)
        · have e : decide (idRight (a.t.2.1, a.t.2.2)) = decide (okF9 a) := decide_eq_decide.2 ⟨fun h => ⟨fun _ => hf, fun _ => ⟨r1, h⟩⟩, fun h => (h.2 k4).2⟩
          (repeat (first | refine vgo ?_ | refine ⟨_, rfl, rfl, ?_⟩ | refine ⟨_, rfl, ?_⟩ | refine ⟨rfl, ?_⟩ | intro hb | refine go2 ?_ | refine WC.seq (fun K hK => ?_) | ((first | refine hK _ _ _ ?_ | refine hK _ _ _ _ rfl ?_ | refine WX.thenExit (K := K) ?_); clear hK K) | (refine WX.thenExit (K := KL) ?_; clear hL KL)))
          exact (hB _ e).conv (.cons rfl (.cons rfl .nil)) (fun w h => h.to)
        · have e : false = decide (okF9 a) := (decide_eq_false fun h => r1 (h.2 k4).1).symm
          (repeat (first | refine vgo ?_ | refine ⟨_, rfl, rfl, ?_⟩ | refine ⟨_, rfl, ?_⟩ | refine ⟨rfl, ?_⟩ | intro hb | refine go2 ?_ | refine WC.seq (fun K hK => ?_) | ((first | refine hK _ _ _ ?_ | refine hK _ _ _ _ rfl ?_ | refine WX.thenExit (K := K) ?_); clear hK K) | (refine WX.thenExit (K := KL) ?_; clear hL KL)))
          exact (hB false e).conv (.cons rfl (.cons rfl .nil)) (fun w h => h.to)
    · have e : ok = decide (okF9 a) := hok.trans (decide_eq_decide.2 ⟨fun h => ⟨h, fun q => absurd q k4⟩, fun h => h.1⟩)
      (repeat (first | refine vgo ?_ | refine ⟨_, rfl, rfl, ?_⟩ | refine ⟨_, rfl, ?_⟩ | refine ⟨rfl, ?_⟩ | intro hb | refine go2 ?_ | refine WC.seq (fun K hK => ?_) | ((first | refine hK _ _ _ ?_ | refine hK _ _ _ _ rfl ?_ | refine WX.thenExit (K := K) ?_); clear hK K) | (refine WX.thenExit (K := KL) ?_; clear hL KL)))
      exact (hB ok e).conv (.cons rfl (.cons rfl .nil)) (fun w h => h.to))
  clear hKo
  by_cases k34 : a.k = 3 ∨ a.k = 4
  · rcases k34 with k3 | k3
    · by_cases r1 : idRight (a.f.1.1, a.f.1.2)
      · have e : decide (idRight (a.f.2.1, a.f.2.2)) = decide (a.k = 3 ∨ a.k = 4 → R2 a.f) := decide_eq_decide.2 ⟨fun h _ => ⟨r1, h⟩, fun h => (h (.inl k3)).2⟩
        (repeat (first | refine vgo ?_ | refine ⟨_, rfl, rfl, ?_⟩ | refine ⟨_, rfl, ?_⟩ | refine ⟨rfl, ?_⟩ | intro hb | refine go2 ?_ | refine WC.seq (fun K hK => ?_) | ((first | refine hK _ _ _ ?_ | refine hK _ _ _ _ rfl ?_ | refine WX.thenExit (K := K) ?_); clear hK K) | (refine WX.thenExit (K := KL) ?_; clear hL KL)))
        exact (hA _ e).conv (.cons rfl (.cons rfl .nil)) (fun w h => h.to)
      · have e : false = decide (a.k = 3 ∨ a.k = 4 → R2 a.f) := (decide_eq_false fun h => r1 (h (.inl k3)).1).symm
        (repeat (first | refine vgo ?_ | refine ⟨_, rfl, rfl, ?_⟩ | refine ⟨_, rfl, ?_⟩ | refine ⟨rfl, ?_⟩ | intro hb | refine go2 ?_ | refine WC.seq (fun K hK => ?_) | ((first | refine hK _ _ _ ?_ | refine hK _ _ _ _ rfl ?_ | refine WX.thenExit (K := K) ?_); clear hK K) | (refine WX.thenExit (K := KL) ?_; clear hL KL)))
        exact (hA _ e).conv (.cons rfl (.cons rfl .nil)) (fun w h => h.to)
    · by_cases r1 : idRight (a.f.1.1, a.f.1.2)
      · have e : decide (idRight (a.f.2.1, a.f.2.2)) = decide (a.k = 3 ∨ a.k = 4 → R2 a.f) := decide_eq_decide.2 ⟨fun h _ => ⟨r1, h⟩, fun h => (h (.inr k3)).2⟩
        (repeat (first | refine vgo ?_ | refine ⟨_, rfl, rfl, ?_⟩ | refine ⟨_, rfl, ?_⟩ | refine ⟨rfl, ?_⟩ | intro hb | refine go2 ?_ | refine WC.seq (fun K hK => ?_) | ((first | refine hK _ _ _ ?_ | refine hK _ _ _ _ rfl ?_ | refine WX.thenExit (K := K) ?_); clear hK K) | (refine WX.thenExit (K := KL) ?_; clear hL KL)))
        exact (hA _ e).conv (.cons rfl (.cons rfl .nil)) (fun w h => h.to)
      · have e : false = decide (a.k = 3 ∨ a.k = 4 → R2 a.f) := (decide_eq_false fun h => r1 (h (.inr k3)).1).symm
        (repeat (first | refine vgo ?_ | refine ⟨_, rfl, rfl, ?_⟩ | refine ⟨_, rfl, ?_⟩ | refine ⟨rfl, ?_⟩ | intro hb | refine go2 ?_ | refine WC.seq (fun K hK => ?_) | ((first | refine hK _ _ _ ?_ | refine hK _ _ _ _ rfl ?_ | refine WX.thenExit (K := K) ?_); clear hK K) | (refine WX.thenExit (K := KL) ?_; clear hL KL)))
        exact (hA _ e).conv (.cons rfl (.cons rfl .nil)) (fun w h => h.to)
  · have e : true = decide (a.k = 3 ∨ a.k = 4 → R2 a.f) := (decide_eq_true fun h => absurd h k34).symm
    have k3 : ¬ a.k = 3 := fun h => k34 (.inl h)
    have k4 : ¬ a.k = 4 := fun h => k34 (.inr h)
    (repeat (first | refine vgo ?_ | refine ⟨_, rfl, rfl, ?_⟩ | refine ⟨_, rfl, ?_⟩ | refine ⟨rfl, ?_⟩ | intro hb | refine go2 ?_ | refine WC.seq (fun K hK => ?_) | ((first | refine hK _ _ _ ?_ | refine hK _ _ _ _ rfl ?_ | refine WX.thenExit (K := K) ?_); clear hK K) | (refine WX.thenExit (K := KL) ?_; clear hL KL)))
    exact (hA _ e).conv (.cons rfl (.cons rfl .nil)) (fun w h => h.to)
end
end Go.Qd
