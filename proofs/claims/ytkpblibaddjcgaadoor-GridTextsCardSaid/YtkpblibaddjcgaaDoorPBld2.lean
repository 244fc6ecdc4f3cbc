/-
  The library's builder of texts: what it draws its order for.
-/
import Derived.Test.YtkpblibaddjcgaaDoorPBld
import Derived.Lib.Slices
import Derived.Laws.IdiomCopy
import Derived.Laws.BitsLemmas
namespace Go.Qd
open Go Go.Proofs
theorem u8ptr_und : Tryd.prog.underlying 51 = some (.pointer 5) := by kernel_rfl
theorem u8_cells : Tryd.prog.cellsOf 5 = 1 := by kernel_rfl
set_option maxHeartbeats 2000000 in
set_option maxRecDepth 100000 in
theorem string_calls {b g c : Nat} {p : Value} {cur : Array Value} {l : List UInt8} (w : World) (hl : l ≠ []) (hbk : w.heap[b]? = some (.cells #[p, .slice (some ⟨g, 0, none⟩) l.length c] 42 (0, 0)))
    (hg : w.heap[g]? = some (.cells cur 5 (0, 0))) (hc : l.length ≤ c) (hx : c ≤ maxLen) (hcur : cur.size = c) (ht : cur.toList.take l.length = l.map cU) :
    Calls Tryd.prog 17 #[pB b] w fun e w' => e = .returned (.string (bs l)) ∧ w' = w.drew.freeze ⟨g, 0, none⟩ l.length := by
  have hpos : 0 < l.length := List.length_pos_iff.2 hl
  have c1 : w.drew.cell? ⟨b, 1, none⟩ = some (.slice (some ⟨g, 0, none⟩) l.length c) := by
    have : w.drew.heap[b]? = some (.cells #[p, .slice (some ⟨g, 0, none⟩) l.length c] 42 (0, 0)) := hbk
    rw [Lib.cell_of_heap this]; rfl
  have hSD : (Builtin.unsafeSliceData_ #[40] 51 #[.slice (some ⟨g, 0, none⟩) l.length c]).run Tryd.prog w.drew = .ok (.pointer (some ⟨g, 0, none⟩)) w.drew :=
    Lib.run_unsafeSliceData_row _ _ _ _ _ _ (by omega)
  have hUS : (Builtin.unsafeString_ #[51, 3] 9 #[.pointer (some ⟨g, 0, none⟩), .int .i64 l.length]).run Tryd.prog w.drew = .ok (.string (bs l)) (w.drew.freeze ⟨g, 0, none⟩ l.length) := by
    refine Lib.run_unsafeString_row w.drew 51 3 9 5 u8ptr_und u8_cells g cur.size (by have hg' : w.drew.heap[g]? = some (.cells cur 5 (0, 0)) := hg; simp [World.shape?, hg']) l hl (by omega) (by unfold maxLen at hx; omega) ?_
    intro j x hj
    have hg' : w.drew.heap[g]? = some (.cells cur 5 (0, 0)) := hg
    rw [Addr.add_none, Lib.cell_of_heap hg', Nat.zero_add]
    have h1 : (cur.toList.take l.length)[j]? = some (cU x) := by rw [ht, List.getElem?_map, hj]; rfl
    rw [List.getElem?_take] at h1
    split at h1
    · simpa using h1
    · cases h1
  have mixed : Tryd.prog.follows .mixedOrders = true := by kernel_rfl
  go_enter Tryd.func17, Tryd.ntmps17
  go_wp2
  go_region_o
  all_goals (go_wp2; go_ret; exact ⟨rfl, rfl⟩)
theorem freeze_put {w : World} {g n : Nat} {cur : Array Value} {E : TypeId} (hn : n ≠ 0) (hg : w.heap[g]? = some (.cells cur E (0, 0))) :
    (w.freeze ⟨g, 0, none⟩ n).heap[g]? = some (.cells cur E (0, n)) ∧ (∀ c, c ≠ g → (w.freeze ⟨g, 0, none⟩ n).heap[c]? = w.heap[c]?) := by
  unfold World.freeze
  rw [if_neg hn]
  refine ⟨by simp [Array.getElem?_modify, hg], fun c hc => ?_⟩
  simp only [Array.getElem?_modify]
  rw [if_neg (fun e => hc e.symm)]
theorem string_fun {b : Nat} {p v : Value} {l : List UInt8} (hl : l ≠ []) : Fun Tryd.prog 17 [pB b] [] (bldS b p v l) (fun z G S => z = .string (bs l) ∧ G = [] ∧ S = []) := by
  refine ⟨enters_of Tryd.func17 (by kernel_rfl) rfl, fun B Gf Sf w sw => ?_⟩
  have hpos : 0 < l.length := List.length_pos_iff.2 hl
  have s1 : Sat B Gf (own 5 1 v l.length (l.map cU) :: box b 42 [p, v] :: Sf) w := sw.perm (List.Perm.swap _ _ _)
  obtain ⟨_, ⟨_, h0⟩ | ⟨g, c, cs, rfl, h1, h2, h3, h4, s2⟩⟩ := s1.own_cases
  · omega
  have hg := s2.at
  have hbk := (s2.perm (List.Perm.swap _ _ _)).at
  refine (string_calls w hl hbk hg h1 h2 (by simpa using h3) (by simpa using h4)).mono ?_
  rintro e w' ⟨rfl, rfl⟩
  refine ⟨_, [], [], rfl, ⟨rfl, rfl, rfl⟩, ?_⟩
  have s3 := s2.drew
  obtain ⟨f1, f2⟩ := freeze_put (w := w.drew) (n := l.length) (by omega) s3.at
  have s4 := Sat.set (w' := w.drew.freeze ⟨g, 0, none⟩ l.length) s3 (by unfold World.freeze; split <;> rfl) (by unfold World.freeze; split <;> rfl) (by unfold World.freeze; split <;> rfl) (by unfold World.freeze; split <;> simp) f1 (fun c _ hc => f2 c hc) (by unfold World.freeze; split <;> exact Nat.le_refl _)
  exact s4.drop.drop
theorem u8sl_und : Tryd.prog.underlying 40 = some (.slice 5) := by kernel_rfl
theorem u8_size : (Tryd.prog.info? 5).map (·.size) = some 1 := by kernel_rfl
set_option maxHeartbeats 2000000 in
set_option maxRecDepth 100000 in
theorem growB_calls {b n : Nat} (w : World) (hn : n ≤ 140737488355328) (hbk : w.heap[b]? = some (.cells #[pB b, .slice none 0 0] 42 (0, 0))) :
    Calls Tryd.prog 38 #[pB b, .int .i64 (n : Nat)] w fun e w' => e = .returned (.tuple #[]) ∧ ∃ cs : Array Value, n ≤ cs.size ∧ cs.size ≤ maxLen ∧
      w' = ((w.setCell ⟨b, 1, none⟩ (.slice (some ⟨w.heap.size, 0, none⟩) 0 cs.size)).alloc (.cells cs 5)).drew.drew.drew := by
  obtain ⟨cs, hrun, hle, hmax⟩ := Lib.run_makeNoZero (P := Tryd.prog) w.drew #[3] 40 5 u8sl_und n (by omega)
  have hw : IntKind.i64.wrap (IntKind.i64.wrap 0 + (n : Int)) = n := by
    rw [IntKind.wrap_i64, IntKind.wrap_i64]
    omega
  have hcall : (callFunc 43 #[.int .i64 (IntKind.i64.wrap (IntKind.i64.wrap 0 + (n : Int)))]).run Tryd.prog w.drew = .ok (.value (.slice (some ⟨w.drew.heap.size, 0, none⟩) n cs.size)) (w.drew.drew.drew.alloc (.cells cs 5)) := by
    rw [hw, run_callFunc_extern Tryd.func43 (by kernel_rfl) (by kernel_rfl) (by kernel_rfl) (e := Extern.BytealgMakeNoZero.makeNoZero #[3] #[40]) (by kernel_rfl), hrun]
    rfl
  have hlt : b < w.heap.size := (Array.getElem?_eq_some_iff.1 hbk).1
  have c1 : w.drew.cell? ⟨b, 1, none⟩ = some (.slice none 0 0) := by
    have : w.drew.heap[b]? = _ := hbk
    rw [Lib.cell_of_heap this]; rfl
  have c2 : (w.alloc (.cells cs 5)).cell? ⟨b, 1, none⟩ = some (.slice none 0 0) := by
    have : (w.alloc (.cells cs 5)).heap[b]? = _ := (Lib.alloc_old w _ b hlt).trans hbk
    rw [Lib.cell_of_heap this]; rfl
  have f2 : (w.alloc (.cells cs 5)).frozen? ⟨b, 1, none⟩ = false := Lib.frozen_of_heap ((Lib.alloc_old w _ b hlt).trans hbk) 1
  have hcopy : ∀ W : World, (Builtin.copy_ #[40, 40] 3 #[.slice (some ⟨w.heap.size, 0, none⟩) 0 cs.size, .slice none 0 0]).run Tryd.prog W = .ok (goInt 0) W :=
    fun W => run_copy_none W 40 40 3 5 _ _ 0 cs.size 0 0 u8sl_und u8_size rfl
  clear hw
  have mixed : Tryd.prog.follows .mixedOrders = true := by kernel_rfl
  go_enter Tryd.func38, Tryd.ntmps38
  go_wp2
  have hfin : n ≤ cs.size ∧ cs.size ≤ maxLen := ⟨hle, hmax (by unfold maxLen; omega)⟩
  go_region_o
  all_goals (go_wp2; go_end0; exact ⟨rfl, cs, hfin.1, hfin.2, rfl⟩)
theorem Sat.setCell1 {B w : World} {G : List Pers} {S : List Res} {b E : Nat} {x y v : Value} (h : Sat B G (box b E [x, y] :: S) w) : Sat B G (box b E [x, v] :: S) (w.setCell ⟨b, 1, none⟩ v) := by
  have hb := h.at
  refine Sat.set h rfl rfl rfl (by simp [World.setCell]) ?_ (fun c _ hc => ?_)
  · simp [World.setCell, Array.getElem?_modify, hb]
  · simp only [World.setCell, Array.getElem?_modify]
    rw [if_neg (fun e => hc e.symm)]
theorem growB_fun {b n : Nat} (hn : n ≤ 140737488355328) : Fun Tryd.prog 38 [pB b, .int .i64 (n : Nat)] [] [box b 42 [pB b, .slice none 0 0]] (fun z G S => z = .tuple #[] ∧ G = [] ∧ ∃ v, n ≤ capV v ∧ S = bldS b (pB b) v []) := by
  refine ⟨enters_of Tryd.func38 (by kernel_rfl) rfl, fun B Gf Sf w sw => ?_⟩
  refine (growB_calls w hn sw.at).mono ?_
  rintro e w' ⟨rfl, cs, h1, h2, rfl⟩
  refine ⟨_, [], _, rfl, ⟨rfl, rfl, .slice (some ⟨w.heap.size, 0, none⟩) 0 cs.size, h1, rfl⟩, ?_⟩
  have s1 := (Sat.setCell1 (v := .slice (some ⟨w.heap.size, 0, none⟩) 0 cs.size) sw).alloc (.cells cs 5)
  have e1 : (w.setCell ⟨b, 1, none⟩ (.slice (some ⟨w.heap.size, 0, none⟩) 0 cs.size)).heap.size = w.heap.size := by simp [World.setCell]
  rw [e1] at s1
  have s2 : Sat B Gf (box w.heap.size 5 cs.toList :: box b 42 [pB b, .slice (some ⟨w.heap.size, 0, none⟩) 0 cs.size] :: Sf) _ := s1
  have s3 := s2.ownBox (c := cs.size) (sz := 1) (m := 0) (by simp) (Nat.zero_le _) h2
  rw [Nat.zero_mul, List.take_zero] at s3
  exact (s3.perm (List.Perm.swap _ _ _)).drew.drew.drew
end Go.Qd
