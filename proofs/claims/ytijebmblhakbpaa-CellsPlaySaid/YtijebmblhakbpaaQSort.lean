import Derived.Test.YtijebmblhakbpaaQLaw
import Derived.Test.YtijebmblhakbpaaQBel
import Derived.Shelf.SlSortCmp.NoneTotal
namespace Go.Qd
open Go Go.Proofs Go.RowKit Go.Lib Go.Sort Go.Shelf
/-! ### The kit's contracts of sorting, as contracts of the own library -/
theorem grown_of {W W' : World} (hos : W'.os = W.os) (ht : W'.tape = W.tape) (ho : W'.output = W.output) (hd : W.drawn ≤ W'.drawn) (hs : W.heap.size ≤ W'.heap.size) (hh : ∀ (b : Nat) (o : Obj), W.heap[b]? = some o → W'.heap[b]? = some o) : ∃ q os', W' = grow (W.drewN q) os' := by
  refine ⟨W'.drawn - W.drawn, W'.heap.extract W.heap.size W'.heap.size, ?_⟩
  obtain ⟨hp, tp, dr, os, out⟩ := W'
  simp only at hos ht ho hd hs hh
  subst hos ht ho
  have e1 : W.drawn + (dr - W.drawn) = dr := by omega
  have e2 : W.heap ++ hp.extract W.heap.size hp.size = hp := by
    apply Array.ext_getElem?
    intro i
    rw [Array.getElem?_append]
    split
    · rename_i h
      have e := hh i W.heap[i] (Array.getElem?_eq_getElem h)
      rw [Array.getElem?_eq_getElem h, e]
    · rename_i h
      rw [Array.getElem?_extract]
      split
      · congr 1; omega
      · rw [Array.getElem?_eq_none]; omega
  unfold grow World.drewN
  simp only [e1, e2]
/-- A function that only reads its arguments pays what the sort asks. -/
theorem cmpLays_of {P : Program} {g : FuncId} {α : Type} [Inhabited α] {enc : α → List Value} {k : Nat} {cf : α → α → Int} (h : ∀ x y : α, Fun P g [.agg (enc x).toArray, .agg (enc y).toArray] [] [] (fun r G S => r = .int .i64 (cf x y) ∧ G = [] ∧ S = [])) (blk off size : Nat) (w : World) : CmpLays P g #[] enc k cf blk off size w := by
  intro m os dk _ x y
  refine ((h x y).calls (sortWorldK enc k w blk off m dk os) [pworld (sortWorldK enc k w blk off m dk os)] [] _ ⟨rfl, rfl, rfl, ⟨Nat.le_refl _, .refl _⟩, hpOf _, Hp.none, fun _ => .inr rfl, fun _ _ e => e, (fun _ _ e => by cases e), ?_, fun _ => rfl⟩).mono ?_
  · intro p hp
    simp at hp; subst hp
    exact fun _ _ e => e
  · rintro e W' ⟨v, G', S', rfl, ⟨rfl, rfl, rfl⟩, hs⟩
    refine ⟨rfl, grown_of hs.os hs.tape hs.output hs.size.2 hs.size.1 fun b o e => ?_⟩
    obtain ⟨n, _, _, hn, _, hg, _⟩ := hs.heap
    exact hn b o (hg (pworld _) (by simp) b o e)
theorem flatK_flat {α : Type} [Inhabited α] {enc : α → List Value} {k : Nat} (hk : ∀ x, (enc x).length = k) (l : List α) : (flatK enc k l.toArray).toList = l.flatMap enc := by
  apply List.ext_getElem?
  intro t
  have hlen : ∀ l : List α, (l.flatMap enc).length = l.length * k := by
    intro l
    induction l with
    | nil => simp
    | cons a l ih => rw [List.flatMap_cons, List.length_append, ih, hk, List.length_cons, Nat.succ_mul, Nat.add_comm]
  have hget : ∀ (l : List α) (t : Nat), t < l.length * k → (l.flatMap enc)[t]? = some ((enc (l.toArray[t / k]!))[t % k]!) := by
    intro l
    induction l with
    | nil => intro t h; simp at h
    | cons a l ih =>
      intro t h
      have k0 : 0 < k := by
        rcases Nat.eq_zero_or_pos k with h0 | h0
        · subst h0; simp at h
        · exact h0
      rw [List.flatMap_cons]
      by_cases ht : t < k
      · rw [List.getElem?_append_left (by rw [hk]; exact ht), Nat.div_eq_of_lt ht, Nat.mod_eq_of_lt ht]
        have : t < (enc a).length := by rw [hk]; exact ht
        rw [List.getElem?_eq_getElem this]
        simp [this]
      · rw [List.getElem?_append_right (by rw [hk]; omega), hk]
        have e : t = (t - k) + k := by omega
        rw [List.length_cons, Nat.succ_mul] at h
        rw [ih (t - k) (by omega)]
        have e1 : t / k = (t - k) / k + 1 := by
          conv => lhs; rw [e]
          rw [Nat.add_div_right _ k0]
        have e2 : t % k = (t - k) % k := by
          conv => lhs; rw [e]
          rw [Nat.add_mod_right]
        rw [e1, e2]
        have hq : (t - k) / k < l.length := (Nat.div_lt_iff_lt_mul k0).2 (by omega)
        simp [hq]
  by_cases h : t < l.length * k
  · rw [hget l t h]
    simp [flatK, h]
  · rw [List.getElem?_eq_none (by rw [Array.length_toList, size_flatK, List.size_toArray]; omega), List.getElem?_eq_none (by rw [hlen]; omega)]
theorem putCells_take {F c : Array Value} (h : F.size ≤ c.size) : (putCells id 0 F c).toList.take F.size = F.toList := by
  apply List.ext_getElem?
  intro i
  rw [List.getElem?_take]
  by_cases hi : i < F.size
  · rw [if_pos hi]
    simp [putCells, hi, show i < c.size by omega]
  · rw [if_neg hi, List.getElem?_eq_none (by simp; omega)]
theorem Sat.drews {B w : World} {G : List Pers} {S : List Res} (h : Sat B G S w) (n : Nat) : Sat B G S (Go.Sort.ahead w n) := by
  obtain ⟨m, k, d, hm, hk, hg, hs⟩ := h.heap
  exact ⟨h.os, h.tape, h.output, ⟨h.size.1, h.size.2.on (Nat.le_add_right _ _)⟩, m, k, d, hm, hk, hg, hs⟩
theorem Sat.grown {B w : World} {G : List Pers} {S : List Res} (h : Sat B G S w) (os : Array Obj) : Sat B G S (grow w os) := by
  obtain ⟨m, k, d, hm, hk, hg, hs⟩ := h.heap
  have old : ∀ (b : Nat) (o : Obj), w.heap[b]? = some o → (grow w os).heap[b]? = some o := fun b o e => by
    have hb := (Array.getElem?_eq_some_iff.1 e).1
    show (w.heap ++ os)[b]? = _
    rw [Array.getElem?_append_left hb, e]
  exact ⟨h.os, h.tape, h.output, ⟨by show _ ≤ (w.heap ++ os).size; rw [Array.size_append]; exact Nat.le_trans h.size.1 (Nat.le_add_right _ _), h.size.2⟩, m, k, d, fun b o e => old b o (hm b o e), fun b o e => old b o (hk b o e), hg, hs⟩
/-- A block's row rewritten. -/
theorem Sat.putRow {B w : World} {G : List Pers} {S : List Res} {b E : Nat} {cs F : Array Value} (h : Sat B G (Qd.blk b (.cells cs E (0, 0)) :: S) w) : Sat B G (Qd.blk b (.cells (putCells id 0 F cs) E (0, 0)) :: S) (Go.Sort.putRow id w b 0 F) := by
  have hb := h.at
  refine h.set rfl rfl rfl (by simp [Go.Sort.putRow, mapBlock]) ?_ (fun c _ hc => ?_)
  · simp [Go.Sort.putRow, mapBlock, Array.getElem?_modify, hb, onCells]
  · simp [Go.Sort.putRow, mapBlock, Array.getElem?_modify, Ne.symm hc]
theorem sortFuncK {P : Program} {ρ : Ren} {α : Type} [Inhabited α] (L : SlLaysF0.n6 P ρ) {E : Nat} (hE : ρ.t 24 = E) (k : Nat) (aE : ∀ w, (isAgg E).run P w = .ok true w) (zE : ∀ w, (Go.sizeOf E).run P w = .ok k w) (enc : α → List Value) (hk : ∀ x, (enc x).length = k) (h1 : ∀ x, ∀ v ∈ enc x, v.oneCell' = true) (cf : α → α → Int) (hO : SWO (ltOf cf)) (hT : ∀ x y, (ltOf cf) x y = false → (ltOf cf) y x = false → x = y)
    {f g : FuncId} (hf : ρ.f 6 = f) {fn : Func} (hfn : P.funcs[f]? = some fn) (hname : (fn.name == "runtime.NumGoroutine") = false) (hb : fn.body.isNone = false) (h : ∀ x y : α, Fun P g [.agg (enc x).toArray, .agg (enc y).toArray] [] [] (fun r G S => r = .int .i64 (cf x y) ∧ G = [] ∧ S = []))
    (l : List α) (hl : l.length ≤ 1000000000) (v : Value) : Fun P f [v, .func (.func g) #[] #[]] [] [own E k v l.length (l.flatMap enc)]
      (fun _ G S => G = [] ∧ S = [own E k v l.length ((l.mergeSort fun x y => !(ltOf cf) y x).flatMap enc)]) := by
  subst hE hf
  refine ⟨callFunc_go hfn hname hb, fun B Gf Sf w sw => ?_⟩
  obtain ⟨m, hh, d, hm, hhp, hg, hS⟩ := id sw.heap
  obtain ⟨ha, hb2, d2, rfl, ho, hst⟩ := hS
  obtain ⟨hlen, ⟨rfl, h0, _⟩ | ⟨b, c, cs, rfl, hb3, hc1, hc2, hcs, htk⟩⟩ := ho
  · have e : l = [] := List.eq_nil_of_length_eq_zero h0
    subst e
    refine (AnyF.slices_SortFunc_none { L with } none 0 (.func (.func g) #[] #[]) w).mono ?_
    rintro e w' ⟨rfl, rfl⟩
    exact ⟨_, [], _, rfl, ⟨rfl, rfl⟩, by simpa using sw⟩
  · by_cases h0 : l = []
    · subst h0
      refine (AnyF.slices_SortFunc_none { L with } (some ⟨b, 0, none⟩) c (.func (.func g) #[] #[]) w).mono ?_
      rintro e w' ⟨rfl, rfl⟩
      exact ⟨_, [], _, rfl, ⟨rfl, rfl⟩, by simpa using sw⟩
    · have swb : Sat B ([] ++ Gf) (Qd.blk b (.cells cs (ρ.t 24) (0, 0)) :: Sf) w := ⟨sw.os, sw.tape, sw.output, sw.size, m, _, d, hm, hhp, hg, ha, hb2, d2, rfl, hb3, hst⟩
      have hat := swb.at
      have hbs : b < w.heap.size := (Array.getElem?_eq_some_iff.1 hat).1
      have hFs : (flatK enc k l.toArray).size = l.length * k := by simp
      have hle : l.length * k ≤ cs.size := by rw [hcs]; exact Nat.mul_le_mul_right k hc1
      have hH : HoldsK enc k w b 0 l.toArray := by
        intro j hj
        rw [hFs] at hj
        have hjc : j < cs.size := by omega
        have e1 : cs[j]? = some (flatK enc k l.toArray)[j]! := by
          have e2 : (cs.toList.take (l.length * k))[j]? = (l.flatMap enc)[j]? := by rw [htk]
          rw [List.getElem?_take, if_pos hj, Array.getElem?_toList, ← flatK_flat hk l, Array.getElem?_toList] at e2
          rw [e2, getElem!_pos _ j (by rw [hFs]; exact hj), Array.getElem?_eq_getElem]
        refine ⟨?_, ?_⟩
        · unfold World.cell?
          simp only [hat, Nat.zero_add]
          simpa using e1
        · unfold World.frozen?
          simp [hat]
      have hcon := AnyQ.slices_SortFunc_total L k aE zE enc hk h1 cf hO g #[] b 0 c l.toArray w (h default default).callable (cmpLays_of h b 0 l.toArray.size w) hH hbs (by simp; omega) hT
      refine (Calls.mono (by simpa using hcon) ?_)
      rintro e w' ⟨rfl, n, os, rfl⟩
      refine ⟨_, [], [_], rfl, ⟨rfl, rfl⟩, ?_⟩
      have s2 := ((swb.drews n).putRow (F := flatK enc k (l.mergeSort fun x y => !(ltOf cf) y x).toArray)).grown os
      obtain ⟨m', hh', d', hm', hhp', hg', ha', hb2', d2', he', hb3', hst'⟩ := s2.heap
      have hl2 : (l.mergeSort fun x y => !(ltOf cf) y x).length = l.length := List.length_mergeSort ..
      refine ⟨s2.os, s2.tape, s2.output, s2.size, m', hh', d', hm', hhp', by simpa using hg', ha', hb2', d2', he', ⟨?_, .inr ⟨b, c, _, rfl, hb3', hc1, hc2, by simpa [putCells] using hcs, ?_⟩⟩, hst'⟩
      · rw [← flatK_flat hk]; simp
      · rw [← flatK_flat hk]
        have := putCells_take (F := flatK enc k (l.mergeSort fun x y => !(ltOf cf) y x).toArray) (c := cs) (by simpa [hl2] using hle)
        simpa [hl2] using this
end Go.Qd
