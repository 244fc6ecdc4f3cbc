import Derived.Test.YthkeakecckiokaaGreatQSlz
namespace Go.Qd
open Go
section
variable {P : Program} {n : Nat} {Q : Exit → Act → World → Prop} {B : Base} {env env' : Env} {G : List Pers} {S S₀ : List Res} {L L' L'' : List Oper}
end
/-! ### Slices that lie open: parts of them, appended to themselves, cleared -/
section
variable {P : Program} {n : Nat} {Q : Exit → Act → World → Prop} {B : Base} {env : Env} {G : List Pers} {S S' : List Res} {L rest : List Oper} {K : Act → World → Prop}
variable {d sz m b c k s : Nat} {i : Int} {kd : IntKind} {ty : TypeId} {pos : String} {af : Array Edge} {x y z : Operand} {T T' E E' : TypeId} {u v v' : Value} {xs zs cs : List Value} {sp' : List Res}
def adr (b i c s : Nat) : Addr := if c = i then ⟨b, 0, none⟩ else ⟨b, i * s, none⟩
theorem sliced_at {b i j c s : Nat} : Go.sliced (some ⟨b, 0, none⟩) i j c s = .slice (some (adr b i c s)) (j - i) (c - i) := by
  unfold Go.sliced adr
  by_cases h : c = i
  · rw [if_pos h, if_pos h]
  · rw [if_neg h, if_neg h, Option.map_some, Addr.add_none, Nat.zero_add]
theorem sliced_0 {b j c s : Nat} : Go.sliced (some ⟨b, 0, none⟩) 0 j c s = .slice (some ⟨b, 0, none⟩) j c := by
  unfold Go.sliced
  split
  · rfl
  · simp [Addr.add_none]
theorem SliceV.opnLHM {kl kh km : IntKind} [hT : TU P T (.slice E)] [hs : TS P E s] (i j k : Nat) (hi : i ≤ j ∧ j ≤ k ∧ k ≤ c) (h : WL P n L Q rest B ((d, .slice (some (adr b i k s)) (j - i) (k - i)) :: env) G S) : SliceV P n L Q rest B env G S d T (.slice (some ⟨b, 0, none⟩) m c) (some (.int kl (i : Int))) (some (.int kh (j : Int))) (some (.int km (k : Int))) := by
  have hT' : P.underlying T = some (.slice (P.elem T)) := by simp [Program.elem, hT.h]
  have hel : P.elem T = E := by simp [Program.elem, hT.h]
  have e := sliced_at (b := b) (i := i) (j := j) (c := k) (s := s)
  refine ⟨fun w sw => ⟨_, ?_, G, sw, h⟩⟩
  rw [run_sliceAt_slice w T _ _ _ _ hT', run_slice_lhm w T _ m c hT' kl kh km i j k (by omega) (by omega) (by omega) (by omega), hel, run_sizeOf_of w hs.h, ← e]; simp
theorem SliceV.opnLH {kl kh : IntKind} [hT : TU P T (.slice E)] [hs : TS P E s] (i j : Nat) (hi : i ≤ j ∧ j ≤ c) (h : WL P n L Q rest B ((d, .slice (some (adr b i c s)) (j - i) (c - i)) :: env) G S) : SliceV P n L Q rest B env G S d T (.slice (some ⟨b, 0, none⟩) m c) (some (.int kl (i : Int))) (some (.int kh (j : Int))) none := by
  have hT' : P.underlying T = some (.slice (P.elem T)) := by simp [Program.elem, hT.h]
  have hel : P.elem T = E := by simp [Program.elem, hT.h]
  have e := sliced_at (b := b) (i := i) (j := j) (c := c) (s := s)
  refine ⟨fun w sw => ⟨_, ?_, G, sw, h⟩⟩
  rw [run_sliceAt_slice w T _ _ _ _ hT', run_slice_lh w T _ m c hT' kl kh i j (by omega) (by omega) (by omega), hel, run_sizeOf_of w hs.h, ← e]; simp
theorem SliceV.opnH {kh : IntKind} [hT : TU P T (.slice E)] [hs : TS P E s] (j : Nat) (hj : j ≤ c) (h : WL P n L Q rest B ((d, .slice (some ⟨b, 0, none⟩) j c) :: env) G S) : SliceV P n L Q rest B env G S d T (.slice (some ⟨b, 0, none⟩) m c) none (some (.int kh (j : Int))) none := by
  have hT' : P.underlying T = some (.slice (P.elem T)) := by simp [Program.elem, hT.h]
  have hel : P.elem T = E := by simp [Program.elem, hT.h]
  refine ⟨fun w sw => ⟨_, ?_, G, sw, h⟩⟩
  rw [run_sliceAt_slice w T _ _ _ _ hT', run_slice_h w T _ m c hT' kh j (by omega) (by omega), hel, run_sizeOf_of w hs.h, ← sliced_0 (s := s)]; simp
theorem SliceV.opnLow {kl : IntKind} [hT : TU P T (.slice E)] [hs : TS P E s] (i : Nat) (hi : i ≤ m) (h : WL P n L Q rest B ((d, .slice (some (adr b i c s)) (m - i) (c - i)) :: env) G S) : SliceV P n L Q rest B env G S d T (.slice (some ⟨b, 0, none⟩) m c) (some (.int kl (i : Int))) none none := by
  have hT' : P.underlying T = some (.slice (P.elem T)) := by simp [Program.elem, hT.h]
  have hel : P.elem T = E := by simp [Program.elem, hT.h]
  have e := sliced_at (b := b) (i := i) (j := m) (c := c) (s := s)
  refine ⟨fun w sw => ⟨_, ?_, G, sw, h⟩⟩
  rw [run_sliceAt_slice w T _ _ _ _ hT', run_slice_l w T _ m c hT' kl i (by omega) (by omega), hel, run_sizeOf_of w hs.h, ← e]; simp
instance (priority := 500) {kl kh km : IntKind} {i j k : Nat} [hT : TU P T (.slice E)] [hs : TS P E s] : V (SliceV P n L Q rest B env G S d T (.slice (some ⟨b, 0, none⟩) m c) (some (.int kl ((i : Nat) : Int))) (some (.int kh ((j : Nat) : Int))) (some (.int km ((k : Nat) : Int)))) (Side (i ≤ j ∧ j ≤ k ∧ k ≤ c) (WL P n L Q rest B ((d, .slice (some (adr b i k s)) (j - i) (k - i)) :: env) G S)) := ⟨fun h => .opnLHM i j k h.c h.p⟩
instance (priority := 500) {kl kh : IntKind} {i j : Nat} [hT : TU P T (.slice E)] [hs : TS P E s] : V (SliceV P n L Q rest B env G S d T (.slice (some ⟨b, 0, none⟩) m c) (some (.int kl ((i : Nat) : Int))) (some (.int kh ((j : Nat) : Int))) none) (Side (i ≤ j ∧ j ≤ c) (WL P n L Q rest B ((d, .slice (some (adr b i c s)) (j - i) (c - i)) :: env) G S)) := ⟨fun h => .opnLH i j h.c h.p⟩
instance (priority := 500) {kh : IntKind} {j : Nat} [hT : TU P T (.slice E)] [hs : TS P E s] : V (SliceV P n L Q rest B env G S d T (.slice (some ⟨b, 0, none⟩) m c) none (some (.int kh ((j : Nat) : Int))) none) (Side (j ≤ c) (WL P n L Q rest B ((d, .slice (some ⟨b, 0, none⟩) j c) :: env) G S)) := ⟨fun h => .opnH j h.c h.p⟩
instance (priority := 500) {kl : IntKind} {i : Nat} [hT : TU P T (.slice E)] [hs : TS P E s] : V (SliceV P n L Q rest B env G S d T (.slice (some ⟨b, 0, none⟩) m c) (some (.int kl ((i : Nat) : Int))) none none) (Side (i ≤ m) (WL P n L Q rest B ((d, .slice (some (adr b i c s)) (m - i) (c - i)) :: env) G S)) := ⟨fun h => .opnLow i h.c h.p⟩
instance (priority := 100) {lo hi mx : Option Operand} : V (WL P n L Q (⟨some d, .slice T x lo hi mx, ty, pos, af, none⟩ :: rest) B env G S) (∃ v, env.ev x = some v ∧ ∃ a, env.evo lo = some a ∧ ∃ b, env.evo hi = some b ∧ ∃ c, env.evo mx = some c ∧ Nat.blt d n = true ∧ SliceV P n L Q rest B env G S d T v a b c) := ⟨fun ⟨_, h, _, h1, _, h2, _, h3, k, m⟩ => .slc h h1 h2 h3 k m⟩
instance {a : Addr} [hT : TU P T (.slice E)] : BinC P .eql T (.slice (some a) m c) (.slice none 0 0) (.bool false) := ⟨fun x y w => by
  simp [eqGuard, binOp, Op.equal, Op.maxDepth, Lib.run_equalIn_slice_nil w 9999 T E (some a) m c 0 0 hT.h]⟩
instance [hT : TU P T (.slice E)] : BinC P .eql T (.slice none 0 0) (.slice none 0 0) (.bool true) := ⟨fun x y w => by
  simp [eqGuard, binOp, Op.equal, Op.maxDepth, Lib.run_equalIn_slice_nil w 9999 T E none 0 0 0 0 hT.h]⟩
instance (priority := 400) {kl kh km : IntKind} {i j k : Int} [hT : TU P T (.slice E)] [hs : TS P E s] : V (SliceV P n L Q rest B env G S d T (.slice none 0 0) (some (.int kl i)) (some (.int kh j)) (some (.int km k))) (Side (i = 0 ∧ j = 0 ∧ k = 0) (WL P n L Q rest B ((d, .slice none 0 0) :: env) G S)) := ⟨fun h => by
  obtain ⟨⟨rfl, rfl, rfl⟩, h⟩ := h
  have hT' : P.underlying T = some (.slice (P.elem T)) := by simp [Program.elem, hT.h]
  have hel : P.elem T = E := by simp [Program.elem, hT.h]
  refine ⟨fun w sw => ⟨_, ?_, G, sw, h⟩⟩
  rw [run_sliceAt_slice w T _ _ _ _ hT', run_slice_lhm w T _ 0 0 hT' kl kh km 0 0 0 (by omega) (by omega) (by omega) (by omega), hel, run_sizeOf_of w hs.h]; simp [Go.sliced]⟩
/-- What is appended lies in an open block, which stays. -/
theorem AppV.bx {o c2 by_ : Nat} [hS : SelOwn v S E sz m xs S'] [hm : SelBox b S E' cs sp'] [hT : TU P T (.slice E)] [hs : TS P E sz] [hz : TZ P E zs] [hby : TB P E by_] {a : Addr} (ha : k = 0 ∨ a = ⟨b, o, none⟩) (ho : o + k * sz ≤ cs.length)
    (h1 : ∀ u ∈ (cs.drop o).take (k * sz), u.oneCell' = true) (hzl : Nat.beq zs.length sz = true) (hfit : (m + k) * by_ ≤ 140737488355328) (h63 : m + k ≤ maxLen)
    (h : ∀ v', WL P n L Q rest B ((d, v') :: env) G (Qd.own E sz v' (m + k) (xs ++ (cs.drop o).take (k * sz)) :: S')) :
    AppV P n L Q rest B env G S d T v (.slice (some a) k c2) := by
  refine ⟨fun ty ac w sa sw => ?_⟩
  have hl : ((cs.drop o).take (k * sz)).length = k * sz := by rw [List.length_take, List.length_drop]; omega
  have hsrc : Src w (.slice (some a) k c2) k ((cs.drop o).take (k * sz)) := .inr ⟨a, c2, rfl, fun j u hj => by
    rw [List.getElem?_take] at hj
    split at hj
    · rename_i hjk
      rcases ha with rfl | rfl
      · omega
      · rw [Addr.add_none, sw.box_cell hm.h, ← List.getElem?_drop]; exact hj
    · cases hj⟩
  obtain ⟨v', w', hr, hs2⟩ := (sw.perm hS.h.perm).append (P := P) (T := T) ty hsrc hl h1 hT.h hs.h hz.h (Nat.eq_of_beq_eq_true hzl) hby.h hfit h63
  exact ⟨v', w', hr, fun a' sa' => (h v').go a' w' sa' hs2⟩
/-- A part of an open block is cleared. -/
theorem WL.clear {o : Nat} (hx : env.ev x = some (.slice (some ⟨b, o, none⟩) m c)) [hm : SelBox b S E cs S'] [hT : TU P T (.slice E)] [hs : TS P E sz] [hz : TZ P E zs] (hzl : zs.length = sz) (h1 : ∀ u ∈ zs, u.oneCell' = true) (ho : o + m * sz ≤ cs.length)
    (h : ∀ cs' : List Value, cs'.length = cs.length → cs'.take o = cs.take o → WL P n L Q rest B env G (Qd.box b E cs' :: S')) : WL P n L Q (⟨none, .call ⟨.builtin .clear, #[x], #[T]⟩, ty, pos, af, none⟩ :: rest) B env G S := by
  refine ⟨fun a w sa sw => wpList_plain rfl fun K hK => ?_⟩
  obtain ⟨inf, zz, hi, hzz, hc⟩ := info_of_tz hz.h
  have his : inf.size = sz := by obtain ⟨i', hi', e⟩ := info_of_tsz hs.h; rw [hi] at hi'; cases hi'; exact e
  have hzs : zz.cells.size = sz := by rw [← hzl, ← hc]; simp
  obtain ⟨w', hr, cs', hl', ht', sw'⟩ : ∃ w', (Builtin.clear_ #[T] ty #[.slice (some ⟨b, o, none⟩) m c]).run P w = .ok (.tuple #[]) w' ∧ ∃ cs' : List Value, cs'.length = cs.length ∧ cs'.take o = cs.take o ∧ Sat B G (Qd.box b E cs' :: S') w' := by
    have hv : (zeroValue E).run P w = .ok zz w := by simp [zeroValue, typeInfo, hi, hzz]
    cases m with
    | zero => exact ⟨w, by simp [Builtin.clear_, run_underlying hT.h], cs, rfl, rfl, sw.perm hm.h.perm⟩
    | succ m =>
      obtain ⟨news, hnews⟩ : ∃ news, news = (Builtin.zeroCells zz.cells (m + 1)).toList := ⟨_, rfl⟩
      have hnl : news.length = (m + 1) * sz := by rw [hnews, Array.length_toList, size_zeroCells, hzs]
      have hn1 : ∀ u ∈ news, u.oneCell' = true := by
        intro u hu
        rw [hnews] at hu
        simp only [Builtin.zeroCells, Array.toList_map, List.mem_map] at hu
        obtain ⟨j, hj, rfl⟩ := hu
        have hj2 : j < (m + 1) * zz.cells.size := by simpa using hj
        have hpos : 0 < zz.cells.size := Nat.pos_of_ne_zero fun h0 => by rw [h0] at hj2; omega
        have hlt := Nat.mod_lt j hpos
        rw [getElem!_pos zz.cells _ hlt]
        refine h1 _ ?_
        rw [← hc]
        simp
      have hst := run_storeCells_at P b o E news 0 cs.toArray w (by simpa [Qd.box] using (sw.perm hm.h.perm).at) (by simp [hnl]; omega) hn1
      simp only [Nat.add_zero] at hst
      refine ⟨_, ?_, _, ?_, ?_, sw.box_set (cs' := cs.take o ++ news ++ cs.drop (o + news.length)) hm.h⟩
      · simp [Builtin.clear_, run_underlying hT.h, hv, ← hnews, hst]
      · simp only [List.length_append, List.length_take, List.length_drop, hnl]; omega
      · rw [List.append_assoc, List.take_left' (by rw [List.length_take]; omega)]
  unfold Oper.wp
  have r1 : (execOp a.eval ⟨none, .call ⟨.builtin .clear, #[x], #[T]⟩, ty, pos, af, none⟩).run P w = .ok (.value (.tuple #[])) w' := by
    simp [execOp, resolve, invoke, builtin, sa.ev hx, hr]
  rw [r1, Oper.upon_value]
  exact hK _ _ ((h cs' hl' ht').go _ _ sa sw')
end
end Go.Qd
