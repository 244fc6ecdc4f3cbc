/-
  Loops over strings: runes.
-/
import Derived.Test.YtkpblibaddjcgaaDoorQRange
import Derived.Laws.RangeAny
import Derived.Lib.DecodeN
namespace Go.Qd
open Go
/-- The rune that bytes begin with, and how many bytes it has. -/
def dcR (l : List UInt8) : Nat × Nat := Lib.decodeN l.length (l.getD 0 0).toNat (l.getD 1 0).toNat (l.getD 2 0).toNat (l.getD 3 0).toNat
theorem get_bs (l : List UInt8) (i : Nat) : (bs l).get! i = l.getD i 0 := by
  show (bs l).data[i]! = _
  rw [List.getD_eq_getElem?_getD]
  show l.toArray[i]! = _
  simp [getElem!_def]
  cases l[i]? <;> rfl
theorem dcR_at (l : List UInt8) (p : Nat) : Utf8.decode (bs l) p = dcR (l.drop p) := by
  rw [Lib.decode_at]
  unfold dcR
  have e : ∀ k, (l.drop p).getD k 0 = l.getD (p + k) 0 := fun k => by rw [List.getD_eq_getElem?_getD, List.getD_eq_getElem?_getD, List.getElem?_drop]
  rw [get_bs, get_bs, get_bs, get_bs, e, e, e, e, List.length_drop]; rfl
theorem dcN_bounds (n b0 b1 b2 b3 : Nat) : 1 ≤ (Lib.decodeN n b0 b1 b2 b3).2 ∧ ((Lib.decodeN n b0 b1 b2 b3).2 ≤ n ∨ (Lib.decodeN n b0 b1 b2 b3).2 = 1) := by
  unfold Lib.decodeN
  repeat' split
  all_goals (dsimp only; omega)
theorem dcR_pos (l : List UInt8) : 1 ≤ (dcR l).2 := (dcN_bounds _ _ _ _ _).1
theorem dcR_le {l : List UInt8} (h : l ≠ []) : (dcR l).2 ≤ l.length := by
  have h1 := (dcN_bounds l.length (l.getD 0 0).toNat (l.getD 1 0).toNat (l.getD 2 0).toNat (l.getD 3 0).toNat).2
  have h2 : 0 < l.length := List.length_pos_iff.2 h
  unfold dcR
  omega
abbrev stI (it : Nat) (l : List UInt8) (p : Nat) : Res := blk it (.stringIter (bs l) p)
class SelIt (it : Nat) (S : List Res) (l : outParam (List UInt8)) (p : outParam Nat) (T : outParam (List Res)) : Prop where
  h : Sel S (stI it l p) T
instance SelIt.there {it : Nat} {s : Res} {S T : List Res} {l : List UInt8} {p : Nat} [i : SelIt it S l p T] : SelIt it (s :: S) l p (s :: T) := ⟨.there i.h⟩
instance SelIt.here {it : Nat} {S : List Res} {l : List UInt8} {p : Nat} : SelIt it (stI it l p :: S) l p S := ⟨.here⟩
section
variable {P : Program} {n : Nat} {Q : Exit → Act → World → Prop} {B : Base} {env : Env} {G : List Pers} {S S' S1 S2 : List Res} {L rest : List Oper}
variable {d : Nat} {ty : TypeId} {pos : String} {af : Array Edge} {x y z : Operand} {T K E : TypeId} {it p : Nat} {l : List UInt8}
theorem WL.rangeS (hx : env.ev x = some (.string (bs l))) [hT : TU P T .string] (hd : Nat.blt d n = true) (h : ∀ it, WL P n L Q rest B ((d, .pointer (some ⟨it, 0, none⟩)) :: env) G (stI it l 0 :: S)) : WL P n L Q (⟨some d, .range T x, ty, pos, af, none⟩ :: rest) B env G S := by
  refine .valW (I := Nat) (v := fun it => .pointer (some ⟨it, 0, none⟩)) (G' := fun _ => G) (S' := fun it => stI it l 0 :: S) rfl rfl hd (fun ac w sa sw => ⟨w.heap.size, w.alloc (.stringIter (bs l) 0), ?_, sw.alloc _⟩) h
  simp [execOp, sa.ev hx, Instr.range, run_underlying hT.h, newObj, Sem.run, Result.andThen]
theorem WL.nextS (hx : env.ev x = some (.pointer (some ⟨it, 0, none⟩))) [hi : SelIt it S l p S1] (hd : Nat.blt d n = true)
    (h0 : l.length ≤ p → WL P n L Q rest B ((d, .tuple #[.bool false]) :: env) G (stI it l p :: S1))
    (h1 : p < l.length → WL P n L Q rest B ((d, .tuple #[.bool true, .int .i64 (p : Int), .int .i32 ((dcR (l.drop p)).1 : Int)]) :: env) G (stI it l (p + (dcR (l.drop p)).2) :: S1)) : WL P n L Q (⟨some d, .next x true, ty, pos, af, none⟩ :: rest) B env G S := by
  refine ⟨fun a w sa sw => wpList_plain rfl fun K hK => ?_⟩
  unfold Oper.wp
  have s1 := sw.perm hi.h.perm
  have hr := s1.at
  have hlt := (Array.getElem?_eq_some_iff.1 hr).1
  by_cases hp : p < l.length
  · have hrun : (Instr.next (.pointer (some ⟨it, 0, none⟩)) true ty).run P w = .ok (.tuple #[.bool true, .int .i64 (p : Int), .int .i32 ((dcR (l.drop p)).1 : Int)]) (w.putObj it (.stringIter (bs l) (p + (dcR (l.drop p)).2))) := by
      rw [← dcR_at]
      have hsz : p < (bs l).size := hp
      simp [Instr.next, getObj, setObj, Sem.run, hr, Result.andThen, hsz, goInt, World.putObj]
    have h2 : (execOp a.eval ⟨some d, .next x true, ty, pos, af, none⟩).run P w = .ok (.value (.tuple #[.bool true, .int .i64 (p : Int), .int .i32 ((dcR (l.drop p)).1 : Int)])) (w.putObj it (.stringIter (bs l) (p + (dcR (l.drop p)).2))) := by
      simp [execOp, sa.ev hx, hrun, Result.andThen]
    rw [h2, Oper.upon_value]
    have s4 : Sat B.w G (stI it l (p + (dcR (l.drop p)).2) :: S1) (w.putObj it (.stringIter (bs l) (p + (dcR (l.drop p)).2))) :=
      Sat.set s1 rfl rfl rfl (by simp [World.putObj]) (World.putObj_heap_same hlt) (fun c _ hc => World.putObj_heap_other hc)
    exact hK _ _ ((h1 hp).go _ _ (sa.put hd _) s4)
  · have hrun : (Instr.next (.pointer (some ⟨it, 0, none⟩)) true ty).run P w = .ok (.tuple #[.bool false]) w := by
      have hsz : ¬ p < (bs l).size := hp
      simp [Instr.next, getObj, Sem.run, hr, Result.andThen, hsz]
    have h2 : (execOp a.eval ⟨some d, .next x true, ty, pos, af, none⟩).run P w = .ok (.value (.tuple #[.bool false])) w := by
      simp [execOp, sa.ev hx, hrun, Result.andThen]
    rw [h2, Oper.upon_value]
    exact hK _ _ ((h0 (by omega)).go _ _ (sa.put hd _) s1)
end
end Go.Qd
