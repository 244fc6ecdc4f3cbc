import Derived.Test.YtaachikpbdgdnaaQSort
import Derived.Shelf.SortM.Plain
import Derived.Shelf.SortM.SortNone
namespace Go.Qd
open Go Go.Proofs Go.RowKit Go.Lib Go.Sort Go.Shelf
theorem putCells_takeE {α : Type} [Inhabited α] {enc : α → Value} {d : Array α} {c : Array Value} (h : d.size ≤ c.size) : (putCells enc 0 d c).toList.take d.size = d.toList.map enc := by
  apply List.ext_getElem?
  intro i
  rw [List.getElem?_take]
  by_cases hi : i < d.size
  · rw [if_pos hi]
    simp [putCells, hi, show i < c.size by omega]
  · rw [if_neg hi, List.getElem?_eq_none (by simp; omega)]
theorem Sat.putRowE {α : Type} [Inhabited α] {enc : α → Value} {B w : World} {G : List Pers} {S : List Res} {b E : Nat} {cs : Array Value} {d : Array α} (h : Sat B G (Qd.blk b (.cells cs E (0, 0)) :: S) w) : Sat B G (Qd.blk b (.cells (putCells enc 0 d cs) E (0, 0)) :: S) (Go.Sort.putRow enc w b 0 d) := by
  have hb := h.at
  refine h.set rfl rfl rfl (by simp [Go.Sort.putRow, mapBlock]) ?_ (fun c _ hc => ?_)
  · simp [Go.Sort.putRow, mapBlock, Array.getElem?_modify, hb, onCells]
  · simp [Go.Sort.putRow, mapBlock, Array.getElem?_modify, Ne.symm hc]
theorem sortIntE {P : Program} {ρ : Ren} (L : SlLaysM.n5 P ρ) {E : Nat} {f : FuncId} (hf : ρ.f 5 = f) {fn : Func} (hfn : P.funcs[f]? = some fn) (hname : (fn.name == "runtime.NumGoroutine") = false) (hb : fn.body.isNone = false)
    (l : List Int) (hl : l.length ≤ 1000000000) (v : Value) : Fun P f [v] [] [own E 1 v l.length (l.map (Value.int .i64))]
      (fun _ G S => G = [] ∧ S = [own E 1 v l.length ((l.mergeSort fun x y => decide (x ≤ y)).map (Value.int .i64))]) := by
  subst hf
  refine ⟨callFunc_go hfn hname hb, fun B Gf Sf w sw => ?_⟩
  obtain ⟨m, hh, d, hm, hhp, hg, hS⟩ := id sw.heap
  obtain ⟨ha, hb2, d2, rfl, ho, hst⟩ := hS
  obtain ⟨hlen, ⟨rfl, h0, _⟩ | ⟨b, c, cs, rfl, hb3, hc1, hc2, hcs, htk⟩⟩ := ho
  · have e : l = [] := List.eq_nil_of_length_eq_zero h0
    subst e
    refine (AnyM.slices_Sort_int_none L none 0 w).mono ?_
    rintro e w' ⟨rfl, rfl⟩
    exact ⟨_, [], _, rfl, ⟨rfl, rfl⟩, by simpa using sw⟩
  · by_cases h0 : l = []
    · subst h0
      refine (AnyM.slices_Sort_int_none L (some ⟨b, 0, none⟩) c w).mono ?_
      rintro e w' ⟨rfl, rfl⟩
      exact ⟨_, [], _, rfl, ⟨rfl, rfl⟩, by simpa using sw⟩
    · have swb : Sat B ([] ++ Gf) (Qd.blk b (.cells cs E (0, 0)) :: Sf) w := ⟨sw.os, sw.tape, sw.output, sw.size, m, _, d, hm, hhp, hg, ha, hb2, d2, rfl, hb3, hst⟩
      have hat := swb.at
      have hbs : b < w.heap.size := (Array.getElem?_eq_some_iff.1 hat).1
      have hle : l.length ≤ cs.size := by omega
      have hH : Holds (Value.int .i64) w b 0 l.toArray := by
        intro j hj
        simp only [List.size_toArray] at hj
        have e1 : cs[j]? = some (.int .i64 l.toArray[j]!) := by
          have e2 : (cs.toList.take (l.length * 1))[j]? = (l.map (Value.int .i64))[j]? := by rw [htk]
          rw [List.getElem?_take, if_pos (by omega), Array.getElem?_toList, List.getElem?_map, List.getElem?_eq_getElem hj] at e2
          rw [e2]
          simp [hj]
        refine ⟨?_, ?_⟩
        · unfold World.cell?
          simp only [hat, Nat.zero_add]
          simpa using e1
        · unfold World.frozen?
          simp [hat]
      refine (AnyM.slices_Sort_int L b 0 c l w hH hbs (by omega)).mono ?_
      rintro e w' ⟨rfl, n, os, rfl⟩
      refine ⟨_, [], [_], rfl, ⟨rfl, rfl⟩, ?_⟩
      have s2 := ((swb.drews n).putRowE (enc := Value.int .i64) (d := (l.mergeSort fun x y => decide (x ≤ y)).toArray)).grown os
      obtain ⟨m', hh', d', hm', hhp', hg', ha', hb2', d2', he', hb3', hst'⟩ := s2.heap
      have hl2 : (l.mergeSort fun x y => decide (x ≤ y)).length = l.length := List.length_mergeSort ..
      refine ⟨s2.os, s2.tape, s2.output, s2.size, m', hh', d', hm', hhp', by simpa using hg', ha', hb2', d2', he', ⟨?_, .inr ⟨b, c, _, rfl, hb3', hc1, hc2, by simpa [putCells] using hcs, ?_⟩⟩, hst'⟩
      · rw [List.length_map, hl2, Nat.mul_one]
      · have := putCells_takeE (enc := Value.int .i64) (d := (l.mergeSort fun x y => decide (x ≤ y)).toArray) (c := cs) (by simpa [hl2] using hle)
        simpa [hl2] using this
end Go.Qd
