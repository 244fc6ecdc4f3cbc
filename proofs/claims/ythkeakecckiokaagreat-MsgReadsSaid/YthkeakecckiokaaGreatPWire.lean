/-
  What the functions of package wire, and of the document's answer to it, compute.
-/
import Derived.Test.YthkeakecckiokaaGreatQTab
import Derived.Test.YthkeakecckiokaaGreatQRec
import Derived.Test.YthkeakecckiokaaGreatQV
namespace Go.Qd
open Go Go.Proofs

def numB (n : Nat) : List UInt8 := if h : 128 ≤ n then UInt8.ofNat (n % 128 + 128) :: numB (n / 128) else [UInt8.ofNat n]
termination_by n
decreasing_by omega
theorem numB_big {n : Nat} (h : 128 ≤ n) : numB n = UInt8.ofNat (n % 128 + 128) :: numB (n / 128) := by rw [numB, dif_pos h]
theorem numB_small {n : Nat} (h : ¬ 128 ≤ n) : numB n = [UInt8.ofNat n] := by rw [numB, dif_neg h]
theorem numB_length : ∀ (k n : Nat), n < 128 ^ k → (numB n).length ≤ k + 1
  | 0, n, h => by rw [numB_small (by simp at h; omega)]; simp
  | k + 1, n, h => by
    by_cases hn : 128 ≤ n
    · rw [numB_big hn, List.length_cons]
      have := numB_length k (n / 128) (by rw [Nat.pow_succ] at h; omega)
      omega
    · rw [numB_small hn]; simp
theorem numB_le {n : Nat} (h : n < 18446744073709551616) : (numB n).length ≤ 11 := numB_length 10 n (by omega)
set_option maxHeartbeats 400000 in
theorem rnum_fun (n : Nat) (hn : n < 18446744073709551616) : Fun Tryz.prog 42 [.int .u64 n] [] [] (fun r G S => G = [] ∧ S = [own 5 1 r (numB n).length (u8s (numB n))]) := by
  refine Fun.enter Tryz.func42 (by kernel_rfl) rfl Tryz.ntmps42 rfl (fun B Gf Sf => ?_); (try simp only [List.cons_append]); (try simp only [List.nil_append]); simp only [argEnv]
  (repeat (first | refine vgo ?_ | refine ⟨_, rfl, rfl, ?_⟩ | refine ⟨_, rfl, ?_⟩ | refine ⟨rfl, ?_⟩ | intro hb | refine go2 ?_ | refine WC.seq (fun K hK => ?_) | ((first | refine hK _ _ _ ?_ | refine hK _ _ _ _ rfl ?_ | refine WX.thenExit (K := K) ?_); clear hK K) | (refine WX.thenExit (K := KL) ?_; clear hL KL)))
  refine WC.loop (I := List UInt8 × Nat × Value) (fun i => [(3, i.2.2), (0, .int .u64 (i.2.1 : Nat))]) (fun _ => Gf) (fun i => own 5 1 i.2.2 i.1.length (u8s i.1) :: Sf) (fun i => i.1 ++ numB i.2.1 = numB n ∧ i.2.1 ≤ n) (fun i => i.2.1) ([], n, .slice none 0 0) ⟨rfl, Nat.le_refl _⟩ (.cons rfl (.cons rfl .nil)) (fun w h => h.ownNil _ _) ?_
  rintro ⟨acc, m, v⟩ ⟨hi, hle⟩ KL hL
  dsimp only at hi hle ⊢
  have hlen := numB_le hn
  rw [← hi, List.length_append] at hlen
  (repeat (first | refine vgo ?_ | refine ⟨_, rfl, rfl, ?_⟩ | refine ⟨_, rfl, ?_⟩ | refine ⟨rfl, ?_⟩ | intro hb | refine go2 ?_ | refine WC.seq (fun K hK => ?_) | ((first | refine hK _ _ _ ?_ | refine hK _ _ _ _ rfl ?_ | refine WX.thenExit (K := K) ?_); clear hK K) | (refine WX.thenExit (K := KL) ?_; clear hL KL)))
  refine dcB (fun hm => ?_) (fun hm => ?_)
  · (repeat (first | refine vgo ?_ | refine ⟨_, rfl, rfl, ?_⟩ | refine ⟨_, rfl, ?_⟩ | refine ⟨rfl, ?_⟩ | intro hb | refine go2 ?_ | refine WC.seq (fun K hK => ?_) | ((first | refine hK _ _ _ ?_ | refine hK _ _ _ _ rfl ?_ | refine WX.thenExit (K := K) ?_); clear hK K) | (refine WX.thenExit (K := KL) ?_; clear hL KL)))
    refine WL.build rfl rfl rfl rfl rfl ?_; intro va; (try dsimp only [List.cons_append, List.nil_append])
    refine WL.append rfl rfl rfl ?_; refine AppV.o rfl ?_ ?_; rotate_left; intro vb
    · (repeat (first | refine vgo ?_ | refine ⟨_, rfl, rfl, ?_⟩ | refine ⟨_, rfl, ?_⟩ | refine ⟨rfl, ?_⟩ | intro hb | refine go2 ?_ | refine WC.seq (fun K hK => ?_) | ((first | refine hK _ _ _ ?_ | refine hK _ _ _ _ rfl ?_ | refine WX.thenExit (K := K) ?_); clear hK K) | (refine WX.thenExit (K := KL) ?_; clear hL KL)))
      have hb := numB_big (n := m) (by omega)
      refine (hL (acc ++ [UInt8.ofNat (m % 128 + 128)], m / 128, vb) ⟨by dsimp only; rw [List.append_assoc, List.singleton_append, ← hb, hi], by dsimp only; omega⟩ (by dsimp only; omega)).conv (.cons rfl (.cons rfl .nil)) (fun _ h => ?_)
      have e : u8s (acc ++ [UInt8.ofNat (m % 128 + 128)]) = u8s acc ++ [.int .u8 ((m : Int) % 128 + 128)] := by
        rw [u8s_append]; simp [u8s]; omega
      rw [e]; simpa using h
    · omega
  · have hs := numB_small (n := m) (by omega)
    (repeat (first | refine vgo ?_ | refine ⟨_, rfl, rfl, ?_⟩ | refine ⟨_, rfl, ?_⟩ | refine ⟨rfl, ?_⟩ | intro hb | refine go2 ?_ | refine WC.seq (fun K hK => ?_) | ((first | refine hK _ _ _ ?_ | refine hK _ _ _ _ rfl ?_ | refine WX.thenExit (K := K) ?_); clear hK K) | (refine WX.thenExit (K := KL) ?_; clear hL KL)))
    refine WL.build rfl rfl rfl rfl rfl ?_; intro va; (try dsimp only [List.cons_append, List.nil_append])
    refine WL.append rfl rfl rfl ?_; refine AppV.o rfl ?_ ?_; rotate_left; intro vb
    · (repeat (first | refine vgo ?_ | refine ⟨_, rfl, rfl, ?_⟩ | refine ⟨_, rfl, ?_⟩ | refine ⟨rfl, ?_⟩ | intro hb | refine go2 ?_ | refine WC.seq (fun K hK => ?_) | ((first | refine hK _ _ _ ?_ | refine hK _ _ _ _ rfl ?_ | refine WX.thenExit (K := K) ?_); clear hK K) | (refine WX.thenExit (K := KL) ?_; clear hL KL)))
      refine WX.ret1 rfl rfl (fun w sw => ⟨[], [own 5 1 vb (numB n).length (u8s (numB n))], ⟨rfl, rfl⟩, ?_⟩)
      have e : u8s (numB n) = u8s acc ++ [.int .u8 (m : Int)] := by
        rw [← hi, hs, u8s_append]; simp [u8s]; omega
      rw [e, ← hi, hs]; simpa using sw
    · omega

theorem or_128 (m : Nat) : bits .or .u8 (IntKind.u8.wrap (m : Int)) 128 = ((m % 128 + 128 : Nat) : Int) := by
  have e : IntKind.u8.wrap (m : Int) = ((m % 256 : Nat) : Int) := by simp [IntKind.wrap, IntKind.signed, IntKind.bits]
  have h : ∀ k : Fin 256, k.val ||| 128 = k.val % 128 + 128 := by decide +kernel
  rw [e, show (128 : Int) = ((128 : Nat) : Int) from rfl, (or_u8 (Nat.mod_lt _ (by omega)) (by omega)).1, h ⟨m % 256, Nat.mod_lt _ (by omega)⟩]
  congr 1; simp only; omega

set_option maxHeartbeats 400000 in
theorem wnum_fun (b : Nat) (v : Value) (l : List UInt8) (n : Nat) (hn : n < 18446744073709551616) (hl : l.length ≤ 1000000) : Fun Tryz.prog 27 [.pointer (some ⟨b, 0, none⟩), .int .u64 n] [] [box b 87 [v], own 5 1 v l.length (u8s l)]
    (fun r G S => r = .pointer (some ⟨b, 0, none⟩) ∧ G = [] ∧ ∃ v', S = [box b 87 [v'], own 5 1 v' (l ++ numB n).length (u8s (l ++ numB n))]) := by
  refine Fun.enter Tryz.func27 (by kernel_rfl) rfl Tryz.ntmps27 rfl (fun B Gf Sf => ?_); (try simp only [List.cons_append]); (try simp only [List.nil_append]); simp only [argEnv]
  (repeat (first | refine vgo ?_ | refine ⟨_, rfl, rfl, ?_⟩ | refine ⟨_, rfl, ?_⟩ | refine ⟨rfl, ?_⟩ | intro hb | refine go2 ?_ | refine WC.seq (fun K hK => ?_) | ((first | refine hK _ _ _ ?_ | refine hK _ _ _ _ rfl ?_ | refine WX.thenExit (K := K) ?_); clear hK K) | (refine WX.thenExit (K := KL) ?_; clear hL KL)))
  refine WC.loop (I := List UInt8 × Nat × Value) (fun i => [(1, .int .u64 (i.2.1 : Nat)), (0, .pointer (some ⟨b, 0, none⟩))]) (fun _ => Gf) (fun i => box b 87 [i.2.2] :: own 5 1 i.2.2 i.1.length (u8s i.1) :: Sf) (fun i => i.1 ++ numB i.2.1 = l ++ numB n ∧ i.2.1 ≤ n) (fun i => i.2.1) (l, n, v) ⟨rfl, Nat.le_refl _⟩ (.cons rfl (.cons rfl .nil)) (fun w h => h) ?_
  rintro ⟨acc, m, v⟩ ⟨hi, hle⟩ KL hL
  dsimp only at hi hle ⊢
  have hlen := numB_le hn
  have hlen2 : (acc ++ numB m).length = (l ++ numB n).length := by rw [hi]
  rw [List.length_append, List.length_append] at hlen2
  (repeat (first | refine vgo ?_ | refine ⟨_, rfl, rfl, ?_⟩ | refine ⟨_, rfl, ?_⟩ | refine ⟨rfl, ?_⟩ | intro hb | refine go2 ?_ | refine WC.seq (fun K hK => ?_) | ((first | refine hK _ _ _ ?_ | refine hK _ _ _ _ rfl ?_ | refine WX.thenExit (K := K) ?_); clear hK K) | (refine WX.thenExit (K := KL) ?_; clear hL KL)))
  refine dcB (fun hm => ?_) (fun hm => ?_)
  · (repeat (first | refine vgo ?_ | refine ⟨_, rfl, rfl, ?_⟩ | refine ⟨_, rfl, ?_⟩ | refine ⟨rfl, ?_⟩ | intro hb | refine go2 ?_ | refine WC.seq (fun K hK => ?_) | ((first | refine hK _ _ _ ?_ | refine hK _ _ _ _ rfl ?_ | refine WX.thenExit (K := K) ?_); clear hK K) | (refine WX.thenExit (K := KL) ?_; clear hL KL)))
    rw [or_128]
    refine WL.build rfl rfl rfl rfl rfl ?_; intro va; (try dsimp only [List.cons_append, List.nil_append])
    refine WL.append rfl rfl rfl ?_; refine AppV.o rfl ?_ ?_; rotate_left; intro vb
    · (repeat (first | refine vgo ?_ | refine ⟨_, rfl, rfl, ?_⟩ | refine ⟨_, rfl, ?_⟩ | refine ⟨rfl, ?_⟩ | intro hb | refine go2 ?_ | refine WC.seq (fun K hK => ?_) | ((first | refine hK _ _ _ ?_ | refine hK _ _ _ _ rfl ?_ | refine WX.thenExit (K := K) ?_); clear hK K) | (refine WX.thenExit (K := KL) ?_; clear hL KL)))
      have hb := numB_big (n := m) (by omega)
      refine (hL (acc ++ [UInt8.ofNat (m % 128 + 128)], m / 128, vb) ⟨by dsimp only; rw [List.append_assoc, List.singleton_append, ← hb, hi], by dsimp only; omega⟩ (by dsimp only; omega)).conv (.cons rfl (.cons rfl .nil)) (fun _ h => ?_)
      have e : u8s (acc ++ [UInt8.ofNat (m % 128 + 128)]) = u8s acc ++ [.int .u8 ((m % 128 + 128 : Nat) : Int)] := by
        rw [u8s_append]; simp [u8s]; omega
      rw [e]; simpa using h
    · omega
  · have hs := numB_small (n := m) (by omega)
    (repeat (first | refine vgo ?_ | refine ⟨_, rfl, rfl, ?_⟩ | refine ⟨_, rfl, ?_⟩ | refine ⟨rfl, ?_⟩ | intro hb | refine go2 ?_ | refine WC.seq (fun K hK => ?_) | ((first | refine hK _ _ _ ?_ | refine hK _ _ _ _ rfl ?_ | refine WX.thenExit (K := K) ?_); clear hK K) | (refine WX.thenExit (K := KL) ?_; clear hL KL)))
    refine WL.build rfl rfl rfl rfl rfl ?_; intro va; (try dsimp only [List.cons_append, List.nil_append])
    refine WL.append rfl rfl rfl ?_; refine AppV.o rfl ?_ ?_; rotate_left; intro vb
    · (repeat (first | refine vgo ?_ | refine ⟨_, rfl, rfl, ?_⟩ | refine ⟨_, rfl, ?_⟩ | refine ⟨rfl, ?_⟩ | intro hb | refine go2 ?_ | refine WC.seq (fun K hK => ?_) | ((first | refine hK _ _ _ ?_ | refine hK _ _ _ _ rfl ?_ | refine WX.thenExit (K := K) ?_); clear hK K) | (refine WX.thenExit (K := KL) ?_; clear hL KL)))
      refine WX.ret1 rfl rfl (fun w sw => ⟨[], [box b 87 [vb], own 5 1 vb (l ++ numB n).length (u8s (l ++ numB n))], ⟨rfl, rfl, vb, rfl⟩, ?_⟩)
      have e : u8s (l ++ numB n) = u8s acc ++ [.int .u8 (m : Int)] := by
        rw [← hi, hs, u8s_append]; simp [u8s]; omega
      rw [e, ← hi, hs]; simpa using sw
    · omega

set_option maxHeartbeats 400000 in
theorem clone_fun (l : List UInt8) (v : Value) (hl : l.length ≤ 10000000) : Fun Tryz.prog 53 [v] [rd (Ty.sl Ty.u8) l v] [] (fun r G S => S = [] ∧ G = [rd (Ty.sl Ty.u8) l r]) := by
  refine Fun.enter Tryz.func53 (by kernel_rfl) rfl Tryz.ntmps53 rfl (fun B Gf Sf => ?_); (try simp only [List.cons_append]); (try simp only [List.nil_append]); simp only [argEnv]
  (repeat (first | refine vgo ?_ | refine ⟨_, rfl, rfl, ?_⟩ | refine ⟨_, rfl, ?_⟩ | refine ⟨rfl, ?_⟩ | intro hb | refine go2 ?_ | refine WC.seq (fun K hK => ?_) | ((first | refine hK _ _ _ ?_ | refine hK _ _ _ _ rfl ?_ | refine WX.thenExit (K := K) ?_); clear hK K) | (refine WX.thenExit (K := KL) ?_; clear hL KL)))
  refine dcBB (fun hn => ?_) (fun hn => ?_)
  · (repeat (first | refine vgo ?_ | refine ⟨_, rfl, rfl, ?_⟩ | refine ⟨_, rfl, ?_⟩ | refine ⟨rfl, ?_⟩ | intro hb | refine go2 ?_ | refine WC.seq (fun K hK => ?_) | ((first | refine hK _ _ _ ?_ | refine hK _ _ _ _ rfl ?_ | refine WX.thenExit (K := K) ?_); clear hK K) | (refine WX.thenExit (K := KL) ?_; clear hL KL)))
    obtain rfl := hb hn
    refine WX.sat (fun w sw => sw.rdNil (Ty.u8)) ?_
    exact WX.ret1 rfl rfl (fun w sw => ⟨[rd (Ty.sl Ty.u8) [] (.slice none 0 0)], [], ⟨rfl, rfl⟩, sw.to⟩)
  · (repeat (first | refine vgo ?_ | refine ⟨_, rfl, rfl, ?_⟩ | refine ⟨_, rfl, ?_⟩ | refine ⟨rfl, ?_⟩ | intro hb | refine go2 ?_ | refine WC.seq (fun K hK => ?_) | ((first | refine hK _ _ _ ?_ | refine hK _ _ _ _ rfl ?_ | refine WX.thenExit (K := K) ?_); clear hK K) | (refine WX.thenExit (K := KL) ?_; clear hL KL)))
    refine WL.build rfl rfl rfl rfl rfl ?_; intro va; (try dsimp only [List.cons_append, List.nil_append])
    (repeat (first | refine vgo ?_ | refine ⟨_, rfl, rfl, ?_⟩ | refine ⟨_, rfl, ?_⟩ | refine ⟨rfl, ?_⟩ | intro hb | refine go2 ?_ | refine WC.seq (fun K hK => ?_) | ((first | refine hK _ _ _ ?_ | refine hK _ _ _ _ rfl ?_ | refine WX.thenExit (K := K) ?_); clear hK K) | (refine WX.thenExit (K := KL) ?_; clear hL KL)))
    refine WL.append rfl rfl rfl ?_; refine AppV.s rfl ?_ ?_; rotate_left; intro hok vb
    · refine WL.sat (fun w sw => sw.pub (R := (Ty.u8)) (l := (l)) (v := vb) SelOwn.h rfl (by simp) (by simp) (fun _ _ => trivial)) ?_
      (repeat (first | refine vgo ?_ | refine ⟨_, rfl, rfl, ?_⟩ | refine ⟨_, rfl, ?_⟩ | refine ⟨rfl, ?_⟩ | intro hb | refine go2 ?_ | refine WC.seq (fun K hK => ?_) | ((first | refine hK _ _ _ ?_ | refine hK _ _ _ _ rfl ?_ | refine WX.thenExit (K := K) ?_); clear hK K) | (refine WX.thenExit (K := KL) ?_; clear hL KL)))
      exact WX.ret1 rfl rfl (fun w sw => ⟨[rd (Ty.sl Ty.u8) l vb], [], ⟨rfl, rfl⟩, sw.to⟩)
    · simp; omega

set_option maxHeartbeats 400000 in
theorem wdone_fun (b : Nat) (v : Value) (l : List UInt8) (hl : l.length ≤ 10000000) : Fun Tryz.prog 31 [.pointer (some ⟨b, 0, none⟩)] [rd (Ty.sl Ty.u8) l v] [box b 87 [v]]
    (fun r G S => G = [rd (Ty.sl Ty.u8) l r] ∧ S = [box b 87 [v]]) := by
  refine Fun.enter Tryz.func31 (by kernel_rfl) rfl Tryz.ntmps31 rfl (fun B Gf Sf => ?_); (try simp only [List.cons_append]); (try simp only [List.nil_append]); simp only [argEnv]
  (repeat (first | refine vgo ?_ | refine ⟨_, rfl, rfl, ?_⟩ | refine ⟨_, rfl, ?_⟩ | refine ⟨rfl, ?_⟩ | intro hb | refine go2 ?_ | refine WC.seq (fun K hK => ?_) | ((first | refine hK _ _ _ ?_ | refine hK _ _ _ _ rfl ?_ | refine WX.thenExit (K := K) ?_); clear hK K) | (refine WX.thenExit (K := KL) ?_; clear hL KL)))
  refine CallV.by' (clone_fun l v hl) ?_; rintro _ _ _ ⟨rfl, rfl⟩; (try simp only [List.cons_append]); (try simp only [List.nil_append])
  (repeat (first | refine vgo ?_ | refine ⟨_, rfl, rfl, ?_⟩ | refine ⟨_, rfl, ?_⟩ | refine ⟨rfl, ?_⟩ | intro hb | refine go2 ?_ | refine WC.seq (fun K hK => ?_) | ((first | refine hK _ _ _ ?_ | refine hK _ _ _ _ rfl ?_ | refine WX.thenExit (K := K) ?_); clear hK K) | (refine WX.thenExit (K := KL) ?_; clear hL KL)))
  exact WX.ret1 rfl rfl (fun w sw => ⟨[rd (Ty.sl Ty.u8) l _], [box b 87 [v]], ⟨rfl, rfl⟩, sw.to⟩)

end Go.Qd
