/-
  Stamps in order: the program's Sort.
-/
import Derived.Test.YtaachikpbdgdnaaQSort
import Derived.Test.YtaachikpbdgdnaaSSortF
import Derived.Test.YtaachikpbdgdnaaPStamp
import Derived.Test.YtaachikpbdgdnaaPS05
import Derived.Test.YtaachikpbdgdnaaQFlat
namespace Go.Qd
open Go Go.Proofs Go.RowKit Go.Lib Go.Sort Go.Shelf
abbrev encID (a : Nat × Int) : List Value := [.int .u64 (a.1 : Int), .int .i64 a.2]
theorem encID_flat (l : List (Nat × Int)) : l.flatMap encID = flat (l.map fun a => idV a.1 a.2) := by
  unfold flat; rw [List.flatMap_map]; rfl
def leID (a b : Nat × Int) : Bool := !ltOf cmpID b a
theorem ltID (a b : Nat × Int) : ltOf cmpID a b = decide (idLess a b) := by
  unfold ltOf; exact decide_eq_decide.2 (cmpID_lt a b)
theorem sortID_fun (l : List (Nat × Int)) (hl : l.length ≤ 1000000000) (v : Value) : Fun Try.prog 51 [v, .func (.func 52) #[] #[]] [] [own 45 2 v l.length (flat (l.map fun a => idV a.1 a.2))]
    (fun _ G S => G = [] ∧ S = [own 45 2 v (l.mergeSort leID).length (flat ((l.mergeSort leID).map fun a => idV a.1 a.2))]) := by
  have hO : SWO (ltOf cmpID) := by
    have hl := ltID
    refine ⟨fun x => ?_, fun x y z h1 h2 => ?_, fun x y z h1 h2 => ?_⟩ <;> (simp only [hl, decide_eq_true_eq, decide_eq_false_iff_not] at *; unfold idLess at *; omega)
  have hT : ∀ x y, ltOf cmpID x y = false → ltOf cmpID y x = false → x = y := by
    rintro ⟨xt, xr⟩ ⟨yt, yr⟩ h1 h2
    rw [ltID] at h1 h2
    simp only [decide_eq_false_iff_not] at h1 h2
    unfold idLess at h1 h2
    dsimp only at h1 h2
    have e1 : xt = yt := by omega
    have e2 : xr = yr := by omega
    rw [e1, e2]
  have h := sortFuncK (P := Try.prog) (α := Nat × Int) Try.sortID (E := 45) rfl 2 Try.isAgg45 Try.sizeOf45 encID (fun _ => rfl) (by intro x u hu; simp at hu; rcases hu with rfl | rfl <;> rfl) cmpID hO hT (f := 51) (g := 52) rfl Try.func51 (by kernel_rfl) rfl (fun x y => compare_fun x y) l hl v
  rw [encID_flat] at h
  refine h.imp ?_
  rintro r G S ⟨rfl, rfl⟩
  refine ⟨rfl, ?_⟩
  rw [encID_flat, List.length_mergeSort]; rfl
theorem cloneID_fun (l : List (Nat × Int)) (v : Value) (hl : l.length ≤ 100000) : Fun Try.prog 50 [v] [rd (Ty.sl idT) l v] [] (fun r G S => G = [] ∧ S = [own 45 2 r l.length (flat (l.map fun a => idV a.1 a.2))]) := by
  refine Fun.enter Try.func50 (by kernel_rfl) rfl Try.ntmps50 rfl (fun B Gf Sf => ?_); (try simp only [List.cons_append]); (try simp only [List.nil_append]); simp only [argEnv]
  (repeat (first | refine vgo ?_ | refine ⟨_, rfl, rfl, ?_⟩ | refine ⟨_, rfl, ?_⟩ | refine ⟨rfl, ?_⟩ | intro hb | (refine altL ?_ ?_; omega) | refine altR ?_ | (refine side ?_ ?_; first | omega | exact True.intro | ((try simp only [List.length_append, List.length_cons, List.length_nil, List.length_map, List.length_replicate, List.length_set, and_true, true_and]); omega) | assumption | (and_intros <;> first | omega | assumption) | decide) | (refine decT ?_ ?_; first | with_reducible assumption | with_reducible rfl | (refine not_not_intro ?_; with_reducible first | assumption | rfl) | omega | decide) | (refine decF ?_ ?_; first | with_reducible assumption | with_reducible rfl | (refine not_not_intro ?_; with_reducible first | assumption | rfl) | omega | decide) | (refine decBT ?_ ?_; with_reducible first | assumption | rfl | exact Bool.not_false) | (refine decBF ?_ ?_; with_reducible first | assumption | rfl | exact Bool.not_true) | refine ⟨_, by assumption, ?_⟩ | refine ⟨_, _, _, rfl, ?_⟩ | refine WC.seq (fun K hK => ?_) | (refine hK _ _ _ ?_; clear hK K) | (refine hK _ _ _ _ rfl ?_; clear hK K) | (refine WX.thenExit (K := K) ?_; clear hK K) | (refine WX.thenExit (K := KL) ?_; clear hL KL)))
  refine dcBB (fun hn => ?_) (fun hn => ?_)
  · (repeat (first | refine vgo ?_ | refine ⟨_, rfl, rfl, ?_⟩ | refine ⟨_, rfl, ?_⟩ | refine ⟨rfl, ?_⟩ | intro hb | (refine altL ?_ ?_; omega) | refine altR ?_ | (refine side ?_ ?_; first | omega | exact True.intro | ((try simp only [List.length_append, List.length_cons, List.length_nil, List.length_map, List.length_replicate, List.length_set, and_true, true_and]); omega) | assumption | (and_intros <;> first | omega | assumption) | decide) | (refine decT ?_ ?_; first | with_reducible assumption | with_reducible rfl | (refine not_not_intro ?_; with_reducible first | assumption | rfl) | omega | decide) | (refine decF ?_ ?_; first | with_reducible assumption | with_reducible rfl | (refine not_not_intro ?_; with_reducible first | assumption | rfl) | omega | decide) | (refine decBT ?_ ?_; with_reducible first | assumption | rfl | exact Bool.not_false) | (refine decBF ?_ ?_; with_reducible first | assumption | rfl | exact Bool.not_true) | refine ⟨_, by assumption, ?_⟩ | refine ⟨_, _, _, rfl, ?_⟩ | refine WC.seq (fun K hK => ?_) | (refine hK _ _ _ ?_; clear hK K) | (refine hK _ _ _ _ rfl ?_; clear hK K) | (refine WX.thenExit (K := K) ?_; clear hK K) | (refine WX.thenExit (K := KL) ?_; clear hL KL)))
    obtain rfl := hb hn
    refine WX.sat (fun w sw => sw.ownNil 45 2) ?_
    exact WX.ret1 rfl rfl (fun w sw => ⟨[], [own 45 2 (.slice none 0 0) 0 []], ⟨rfl, rfl⟩, sw.to⟩)
  · (repeat (first | refine vgo ?_ | refine ⟨_, rfl, rfl, ?_⟩ | refine ⟨_, rfl, ?_⟩ | refine ⟨rfl, ?_⟩ | intro hb | (refine altL ?_ ?_; omega) | refine altR ?_ | (refine side ?_ ?_; first | omega | exact True.intro | ((try simp only [List.length_append, List.length_cons, List.length_nil, List.length_map, List.length_replicate, List.length_set, and_true, true_and]); omega) | assumption | (and_intros <;> first | omega | assumption) | decide) | (refine decT ?_ ?_; first | with_reducible assumption | with_reducible rfl | (refine not_not_intro ?_; with_reducible first | assumption | rfl) | omega | decide) | (refine decF ?_ ?_; first | with_reducible assumption | with_reducible rfl | (refine not_not_intro ?_; with_reducible first | assumption | rfl) | omega | decide) | (refine decBT ?_ ?_; with_reducible first | assumption | rfl | exact Bool.not_false) | (refine decBF ?_ ?_; with_reducible first | assumption | rfl | exact Bool.not_true) | refine ⟨_, by assumption, ?_⟩ | refine ⟨_, _, _, rfl, ?_⟩ | refine WC.seq (fun K hK => ?_) | (refine hK _ _ _ ?_; clear hK K) | (refine hK _ _ _ _ rfl ?_; clear hK K) | (refine WX.thenExit (K := K) ?_; clear hK K) | (refine WX.thenExit (K := KL) ?_; clear hL KL)))
    rw [Nat.zero_add, List.nil_append]
    exact WX.ret1 rfl rfl (fun w sw => ⟨[], [_], ⟨rfl, rfl⟩, sw.to⟩)
end Go.Qd
