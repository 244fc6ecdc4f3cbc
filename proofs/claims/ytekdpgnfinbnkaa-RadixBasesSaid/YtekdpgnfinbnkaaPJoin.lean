/-
  strings.Join, strings.CutPrefix, strings.IndexByte: what they compute.
-/
import Derived.Test.YtekdpgnfinbnkaaQBel
import Derived.Test.YtekdpgnfinbnkaaQTab
import Derived.Test.YtekdpgnfinbnkaaSJoin
namespace Go.Qd
open Go Go.Proofs
theorem join_fun (xs : List (List UInt8)) (v : Value) (sep : List UInt8) (hn : xs.length ≤ 1000000) (hl : (Lib.join xs sep).length ≤ 140737488355328) : Fun Try.prog 50 [v, .string (bs sep)] [rd (Ty.sl Ty.str) xs v] [] (fun r G S => r = .string (bs (Lib.join xs sep)) ∧ G = [] ∧ S = []) := by
  refine Fun.below Try.func50 (by kernel_rfl) rfl (fun B Gf S w sw => ?_)
  obtain ⟨p, c, rfl, hc, hc2, hx, hcell⟩ := sw.strs (xs := xs) (v := v) (.head _)
  have hm : (xs.map bs).map (fun s => s.data.toList) = xs := by
    rw [List.map_map]
    have : ((fun s : ByteArray => s.data.toList) ∘ bs) = id := by funext l; simp [bs]
    rw [this, List.map_id]
  rcases hcell with rfl | ⟨b, o, rfl, hb, hcell⟩
  · refine (Try.strings_Join_none p c (bs sep) w).mono ?_
    rintro e w' ⟨rfl, rfl⟩
    exact ⟨rfl, .refl _ _⟩
  · have h := Try.strings_Join b o c (xs.map bs) (bs sep) w (fun j x hj => by
      rw [List.getElem?_map] at hj
      cases hq : xs[j]? with
      | none => rw [hq] at hj; cases hj
      | some y => rw [hq] at hj; cases hj; exact hcell j y hq) hb (by rw [List.length_map]; omega) (by rw [List.length_map]; exact hc) (by rw [hm]; simpa [bs] using hl)
    rw [hm, List.length_map] at h
    refine h.mono ?_
    rintro e w' ⟨rfl, hw⟩
    exact ⟨by simp [bs], hw⟩
instance join_pure {G : List Pers} {xs : List (List UInt8)} {v : Value} {sep : List UInt8} [i : RdSl v G Ty.str xs] : PureF Try.prog 50 [v, .string (bs sep)] G (xs.length ≤ 1000000 ∧ (Lib.join xs sep).length ≤ 140737488355328) (.string (bs (Lib.join xs sep))) := ⟨fun h => ⟨_, by simpa using i.h, join_fun xs v sep h.1 h.2⟩⟩
theorem cutPrefix_fun (s p : List UInt8) : Fun Try.prog 53 [.string (bs s), .string (bs p)] [] [] (fun r G S => r = .tuple #[.string (bs (Lib.trimPrefix s p)), .bool (Lib.hasPrefix s p)] ∧ G = [] ∧ S = []) :=
  Fun.same Try.func53 (by kernel_rfl) rfl (fun B Gf S w sw => (Try.strings_CutPrefix (bs s) (bs p) w).mono (by rintro e w' ⟨rfl, rfl⟩; exact ⟨by simp [bs], rfl⟩))
instance cutPrefix_pure {G : List Pers} {s p : List UInt8} : PureF Try.prog 53 [.string (bs s), .string (bs p)] G True (.tuple #[.string (bs (Lib.trimPrefix s p)), .bool (Lib.hasPrefix s p)]) := ⟨fun _ => PureF.of0 (cutPrefix_fun s p)⟩
theorem sIndexByte_fun (s : List UInt8) (c : UInt8) : Fun Try.prog 54 [.string (bs s), .int .u8 (c.toNat : Int)] [] [] (fun r G S => r = .int .i64 (Lib.indexByte s c) ∧ G = [] ∧ S = []) :=
  Fun.same Try.func54 (by kernel_rfl) rfl (fun B Gf S w sw => (Try.strings_IndexByte (bs s) (c.toNat : Int) w).mono (by rintro e w' ⟨rfl, rfl⟩; exact ⟨by simp [bs], rfl⟩))
instance sIndexByte_pure {G : List Pers} {s : List UInt8} {c : UInt8} : PureF Try.prog 54 [.string (bs s), .int .u8 (c.toNat : Int)] G True (.int .i64 (Lib.indexByte s c)) := ⟨fun _ => PureF.of0 (sIndexByte_fun s c)⟩
end Go.Qd
