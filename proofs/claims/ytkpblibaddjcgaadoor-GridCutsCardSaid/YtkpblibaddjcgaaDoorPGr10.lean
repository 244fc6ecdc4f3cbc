/-
  Texts of a window: the document's function.
-/
import Derived.Test.YtkpblibaddjcgaaDoorPGr9
namespace Go.Qd
open Go Go.Proofs
def lineM (R : List RowL) (l : RowL) : List UInt8 := lineF (wideM R) 0 l ++ [10]
/-- The header behind so many columns. -/
def headM' (col n : Nat) : RowL := [] :: (List.range n).map (fun k => colB ((col + k : Nat) : Int))
def rowsTo (col row : Nat) (cells : List RowL) (i : Nat) : List RowL := headM col cells :: rowsF row 0 (cells.take i)
theorem flat_sV : ∀ r : RowL, flat (r.map sV) = r.map sV := flat_map_one (fun _ => rfl)
theorem Sat.pubRow {B w : World} {G : List Pers} {S : List Res} {l : RowL} {v : Value} {E m : Nat} (h : Sat B G (own E 1 v m (l.map sV) :: S) w) (hm : m = l.length) (hok : ∀ s ∈ l, s.length ≤ 3000) : Sat B (Qd.rd (Ty.sl Ty.str) l v :: G) S w :=
  h.pub (R := Ty.str) (l := l) (v := v) SelOwn.h rfl (flat_sV l).symm hm (fun s hs => Nat.le_trans (hok s hs) (by decide))
theorem rowM_snoc (row i : Nat) (l : RowL) (s : List UInt8) : rowM row i (l ++ [s]) = rowM row i l ++ [cellM s] := by simp [rowM]
theorem headM'_succ (col n : Nat) : headM' col (n + 1) = headM' col n ++ [colB ((col + n : Nat) : Int)] := by simp [headM', List.range_succ]
theorem headM'_len (col n : Nat) : (headM' col n).length = n + 1 := by simp [headM']
theorem rowM_len (row i : Nat) (l : RowL) : (rowM row i l).length = l.length + 1 := by simp [rowM]
theorem headM'_ok (col n : Nat) : ∀ s ∈ headM' col n, s.length ≤ 3000 := by
  intro s hs
  unfold headM' at hs
  cases hs with
  | head => exact Nat.zero_le _
  | tail _ hs =>
    obtain ⟨k, _, rfl⟩ := List.mem_map.1 hs
    have := colB_le ((col + k : Nat) : Int)
    omega
theorem rowM_ok (row i : Nat) (l : RowL) (h : row + i ≤ 1000000) (hl : ∀ s ∈ l, s.length ≤ 1000) : ∀ s ∈ rowM row i l, s.length ≤ 3000 := by
  intro s hs
  unfold rowM at hs
  cases hs with
  | head =>
    have := intB_le (n := ((row + i : Nat) : Int)) (by omega)
    omega
  | tail _ hs =>
    obtain ⟨y, hy, rfl⟩ := List.mem_map.1 hs
    have := cellM_len y
    have := hl y hy
    omega
theorem rowsTo_succ (col row : Nat) {cells : List RowL} {i : Nat} {l : RowL} (h : cells[i]? = some l) : rowsTo col row cells (i + 1) = rowsTo col row cells i ++ [rowM row i l] := by
  have hi := (List.getElem?_eq_some_iff.1 h).1
  have e : cells.take (i + 1) = cells.take i ++ [l] := by rw [List.take_add_one, h]; rfl
  unfold rowsTo
  rw [e, rowsF_snoc, List.length_take, Nat.min_eq_left (by omega), Nat.zero_add]; rfl
theorem rowsTo_one (col row : Nat) {cells : List RowL} {l : RowL} (h : cells[0]? = some l) : rowsTo col row cells 1 = [headM' col l.length, rowM row 0 l] := by
  cases cells with
  | nil => cases h
  | cons x r =>
    simp at h; subst h; rfl
/-- How far the rows are built: none, the header its own; or some, all whole. -/
inductive St1
  | z (v v0 : Value)
  | s (i : Nat) (v : Value) (vs : List Value)
def St1.i : St1 → Nat
  | .z _ _ => 0
  | .s i _ _ => i
def St1.v : St1 → Value
  | .z v _ => v
  | .s _ v _ => v
def St1.G (col row : Nat) (cells : List RowL) : St1 → List Pers
  | .z _ _ => []
  | .s i _ vs => [rdAll (Ty.sl Ty.str) (rowsTo col row cells i) vs]
def St1.S (E E0 : Nat) : St1 → List Res
  | .z v v0 => [own E 1 v 1 [v0], own E0 1 v0 1 [sV []]]
  | .s i v vs => [own E 1 v (i + 1) vs]
def St1.ok (n : Nat) : St1 → Prop
  | .z _ _ => True
  | .s i _ _ => 1 ≤ i ∧ i ≤ n
end Go.Qd
