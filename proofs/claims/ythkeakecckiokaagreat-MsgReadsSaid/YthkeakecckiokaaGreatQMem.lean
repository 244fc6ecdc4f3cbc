import Derived.Test.YthkeakecckiokaaGreatQOps
namespace Go.Qd
open Go

section
variable {P : Program} {T : TypeId} (w : World)
theorem run_isAgg_of {b : Bool} (h : aggT P T = some b) : (isAgg T).run P w = .ok b w := by
  unfold aggT at h
  cases hu : P.underlying T with
  | none => rw [hu] at h; cases h
  | some d =>
    rw [hu] at h
    unfold isAgg
    rw [Sem.run_bind, run_underlying hu w]
    cases d <;> simp_all
theorem info_of_tsz {s : Nat} (h : tsz P T = some s) : ∃ i, P.info? T = some i ∧ i.size = s := by
  unfold tsz at h
  cases hi : P.info? T with
  | none => rw [hi] at h; cases h
  | some i => rw [hi] at h; exact ⟨i, rfl, by simpa using h⟩
theorem run_sizeOf_of {s : Nat} (h : tsz P T = some s) : (sizeOf T).run P w = .ok s w := by
  obtain ⟨i, hi, rfl⟩ := info_of_tsz h
  simp [sizeOf, typeInfo, hi]
theorem info_of_tz {cs : List Value} (h : tz P T = some cs) : ∃ i z, P.info? T = some i ∧ i.zero = some z ∧ z.cells.toList = cs := by
  unfold tz at h
  cases hi : P.info? T with
  | none => rw [hi] at h; cases h
  | some i =>
    cases hz : i.zero with
    | none => simp [hi, hz] at h
    | some z => exact ⟨i, z, rfl, hz, by simpa [hi, hz] using h⟩
theorem run_loadVar_plain {a : Addr} {v : Value} (hT : aggT P T = some false) (h : w.cell? a = some v) : (loadVar T a).run P w = .ok v w := by
  simp [loadVar, run_isAgg_of w hT, h]
theorem run_loadVar_agg {a : Addr} {cs : List Value} (hT : aggT P T = some true) (hs : tsz P T = some cs.length) (h : ∀ j v, cs[j]? = some v → w.cell? (a.add j) = some v) :
    (loadVar T a).run P w = .ok (.agg cs.toArray) w := by
  have hl := run_loadCells_list (P := P) w a cs h
  simp [loadVar, run_isAgg_of w hT, run_sizeOf_of w hs, hl]
theorem run_storeVar_row {g o : Nat} {E : TypeId} {cur : List Value} {v : Value} {vs : List Value} (hg : w.heap[g]? = some (.cells cur.toArray E (0, 0))) (hv : v.cells.toList = vs) (hs : tsz P T = some vs.length)
    (hl : o + vs.length ≤ cur.length) (h1 : ∀ u ∈ vs, u.oneCell' = true) :
    (storeVar T ⟨g, o, none⟩ v).run P w = .ok () (w.setRow g (cur.take o ++ vs ++ cur.drop (o + vs.length)).toArray) := by
  have hst := run_storeCells_at P g o E vs 0 cur.toArray w hg (by simpa using hl) h1
  have hvs : v.cells.size = vs.length := by rw [← hv]; simp
  simp only [Nat.add_zero] at hst
  simp [storeVar, run_sizeOf_of w hs, hvs, hv, hst]
end

theorem Addr.add_none (b o n : Nat) : (⟨b, o, none⟩ : Addr).add n = ⟨b, o + n, none⟩ := by unfold Addr.add; split <;> simp_all

/-! ### Boxes -/
def box (b : Nat) (E : TypeId) (cs : List Value) : Res := blk b (.cells cs.toArray E (0, 0))
theorem Sat.box_cell {B w : World} {G : List Pers} {S S' : List Res} {b : Nat} {E : TypeId} {cs : List Value} (h : Sat B G S w) (hm : Sel S (box b E cs) S') (j : Nat) : w.cell? ⟨b, j, none⟩ = cs[j]? := by
  rw [cell_of_row w b j _ _ _ (h.perm hm.perm).at]; simp
theorem Sat.box_set {B w : World} {G : List Pers} {S S' : List Res} {b : Nat} {E : TypeId} {cs cs' : List Value} (h : Sat B G S w) (hm : Sel S (box b E cs) S') : Sat B G (box b E cs' :: S') (w.setRow b cs'.toArray) := by
  have h' := h.perm hm.perm
  exact h'.set rfl rfl rfl (by simp) (setRow_heap w b _ _ _ _ h'.at) (fun c _ hc => setRow_other w b c _ hc)

def lset (cs : List Value) (o : Nat) (vs : List Value) : List Value :=
  match cs, o, vs with
  | cs, _, [] => cs
  | [], _, _ => []
  | _ :: cs, 0, v :: vs => v :: lset cs 0 vs
  | c :: cs, o + 1, vs => c :: lset cs o vs
theorem lset_nil (cs : List Value) (o : Nat) : lset cs o [] = cs := by cases cs <;> cases o <;> rfl
theorem lset_eq : ∀ (cs : List Value) (o : Nat) (vs : List Value), o + vs.length ≤ cs.length → lset cs o vs = cs.take o ++ vs ++ cs.drop (o + vs.length)
  | cs, o, [], _ => by rw [lset_nil]; simp
  | [], o, v :: vs, h => by simp at h
  | c :: cs, 0, v :: vs, h => by
    have := lset_eq cs 0 vs (by simp at h ⊢; omega)
    simp [lset, this]
  | c :: cs, o + 1, v :: vs, h => by
    have := lset_eq cs o (v :: vs) (by simp at h ⊢; omega)
    simp only [lset, this]
    simp [Nat.add_right_comm o 1]

section
variable {P : Program} {n : Nat} {Q : Exit → Act → World → Prop} {B : Base} {env : Env} {G : List Pers} {S S' : List Res} {L rest : List Oper}
variable {d : Nat} {ty : TypeId} {pos : String} {af : Array Edge} {x y z : Operand} {T T' E E' : TypeId} {u v v' : Value}

theorem WL.alloc {cs : List Value} [hz : TZ P T cs] (hd : Nat.blt d n = true) (h : ∀ b, WL P n L Q rest B ((d, .pointer (some ⟨b, 0, none⟩)) :: env) G (box b T cs :: S)) :
    WL P n L Q (⟨some d, .alloc T, ty, pos, af, none⟩ :: rest) B env G S := by
  obtain ⟨i, zz, hi, hzz, hc⟩ := info_of_tz hz.h
  refine .valW (I := Nat) (v := fun b => .pointer (some ⟨b, 0, none⟩)) (G' := fun _ => G) (S' := fun b => box b T cs :: S) rfl rfl hd (fun a w sa sw => ⟨w.heap.size, w.alloc (.cells cs.toArray T), ?_, sw.alloc _⟩) h
  simp [execOp, Instr.alloc, zeroValue, typeInfo, hi, hzz, newVar, newRow, ← hc]
theorem WL.box {cs : List Value} (hx : env.ev x = some v) (hc : v.cells.toList = cs) (hd : Nat.blt d n = true) (h : ∀ b, WL P n L Q rest B ((d, .pointer (some ⟨b, 0, none⟩)) :: env) G (box b T cs :: S)) :
    WL P n L Q (⟨some d, .box T x, ty, pos, af, none⟩ :: rest) B env G S := by
  refine .valW (I := Nat) (v := fun b => .pointer (some ⟨b, 0, none⟩)) (G' := fun _ => G) (S' := fun b => Qd.box b T cs :: S) rfl rfl hd (fun a w sa sw => ⟨w.heap.size, w.alloc (.cells cs.toArray T), ?_, sw.alloc _⟩) h
  simp [execOp, Instr.box, newVar, newRow, sa.ev hx, ← hc]
theorem WL.boxA {cs : List Value} (hx : env.ev x = some (.agg cs.toArray)) (hd : Nat.blt d n = true) (h : ∀ b, WL P n L Q rest B ((d, .pointer (some ⟨b, 0, none⟩)) :: env) G (Qd.box b T cs :: S)) :
    WL P n L Q (⟨some d, .box T x, ty, pos, af, none⟩ :: rest) B env G S := .box hx rfl hd h
theorem WL.nilCheck {p : Addr} (hx : env.ev x = some (.pointer (some p))) (hd : Nat.blt d n = true) (h : WL P n L Q rest B ((d, .pointer (some p)) :: env) G S) :
    WL P n L Q (⟨some d, .nilCheck x, ty, pos, af, none⟩ :: rest) B env G S :=
  .val rfl rfl hd (fun a w sa _ => by simp [execOp, sa.ev hx]) h
theorem WL.fieldAddr {b o f k : Nat} (hx : env.ev x = some (.pointer (some ⟨b, o, none⟩))) [hf : FO P T f k] (hd : Nat.blt d n = true) (h : WL P n L Q rest B ((d, .pointer (some ⟨b, o + k, none⟩)) :: env) G S) :
    WL P n L Q (⟨some d, .fieldAddr T x f, ty, pos, af, none⟩ :: rest) B env G S := by
  refine .val rfl rfl hd (fun a w sa _ => ?_) h
  have hf := hf.h
  unfold fieldOff at hf
  cases hu : P.underlying T with
  | none => rw [hu] at hf; cases hf
  | some dd =>
    rw [hu] at hf
    cases dd <;> try (cases hf; done)
    rename_i fs
    dsimp only at hf
    cases hfs : fs[f]? with
    | none => rw [hfs] at hf; cases hf
    | some fl =>
      rw [hfs] at hf
      dsimp only at hf
      cases hs : tsz P fl.type with
      | none => rw [hs] at hf; cases hf
      | some s =>
        rw [hs] at hf
        cases s with
        | zero => cases hf
        | succ s =>
          cases hf
          simp [execOp, sa.ev hx, Instr.fieldAt, run_underlying hu, hfs, Instr.sureAddr, fieldPlace, run_sizeOf_of w hs, Addr.add_none]

/-- A load, its address known. -/
structure LoadV (P : Program) (n : Nat) (L : List Oper) (Q : Exit → Act → World → Prop) (rest : List Oper) (B : Base) (env : Env) (G : List Pers) (S : List Res) (d : Nat) (T : TypeId) (u : Value) : Prop where
  go : ∃ r, (∀ w, Sat B G S w → (Instr.loadAt T u).run P w = .ok r w) ∧ WL P n L Q rest B ((d, r) :: env) G S
theorem WL.load (hx : env.ev x = some u) (hd : Nat.blt d n = true) (h : LoadV P n L Q rest B env G S d T u) : WL P n L Q (⟨some d, .load T x, ty, pos, af, none⟩ :: rest) B env G S := by
  obtain ⟨r, hr, hh⟩ := h.go
  exact .val rfl rfl hd (fun a w sa sw => by simp [execOp, sa.ev hx, hr w sw]) hh
theorem LoadV.box1 {b o : Nat} {cs : List Value} (hm : Sel S (Qd.box b E cs) S') (hv : cs[o]? = some v) [hT : TA P T false] (h : WL P n L Q rest B ((d, v) :: env) G S) :
    LoadV P n L Q rest B env G S d T (.pointer (some ⟨b, o, none⟩)) :=
  ⟨v, fun w sw => by
    have := run_loadVar_plain w hT.h ((sw.box_cell hm o).trans hv)
    simp [Instr.loadAt, Instr.sureAddr, this], h⟩
theorem LoadV.boxA {b o s : Nat} {cs vs : List Value} (hm : Sel S (Qd.box b E cs) S') [hT : TA P T true] [hs : TS P T s] (hv : (cs.drop o).take s = vs) (hl : vs.length = s) (h : WL P n L Q rest B ((d, .agg vs.toArray) :: env) G S) :
    LoadV P n L Q rest B env G S d T (.pointer (some ⟨b, o, none⟩)) :=
  ⟨.agg vs.toArray, fun w sw => by
    have := run_loadVar_agg (P := P) (T := T) w (a := ⟨b, o, none⟩) (cs := vs) hT.h (by rw [hs.h, hl]) (fun j c hj => by
      rw [Addr.add_none, sw.box_cell hm]
      rw [← hv, List.getElem?_take] at hj
      split at hj
      · simpa using hj
      · cases hj)
    simp [Instr.loadAt, Instr.sureAddr, this], h⟩

/-- A store, its address and value known. -/
structure StV (P : Program) (n : Nat) (L : List Oper) (Q : Exit → Act → World → Prop) (rest : List Oper) (B : Base) (env : Env) (G : List Pers) (S : List Res) (T : TypeId) (u v : Value) : Prop where
  go : ∀ w, Sat B G S w → ∃ w', (Instr.storeAt T u v).run P w = .ok () w' ∧ ∃ S', Sat B G S' w' ∧ WL P n L Q rest B env G S'
theorem WL.store (hx : env.ev x = some u) (hy : env.ev y = some v) (h : StV P n L Q rest B env G S T u v) : WL P n L Q (⟨none, .store T x y, ty, pos, af, none⟩ :: rest) B env G S := by
  refine ⟨fun a w sa sw => wpList_plain rfl fun K hK => ?_⟩
  obtain ⟨w', hr, S', sw', hh⟩ := h.go w sw
  unfold Oper.wp
  have r1 : (execOp a.eval ⟨none, .store T x y, ty, pos, af, none⟩).run P w = .ok .skip w' := by simp [execOp, sa.ev hx, sa.ev hy, hr]
  rw [r1, Oper.upon_skip]
  exact hK _ _ (hh.go _ _ sa sw')
/-- One cell into a box. -/
theorem StV.one {b o : Nat} {cs : List Value} (hm : Sel S (Qd.box b E cs) S') [hs : TS P T 1] [_hT : TA P T false] (hl : Nat.blt o cs.length = true)
    (h1 : ∀ w, Sat B G S w → v.oneCell' = true) (h : WL P n L Q rest B env G (Qd.box b E (cs.set o v) :: S')) : StV P n L Q rest B env G S T (.pointer (some ⟨b, o, none⟩)) v := by
  have hl' : o < cs.length := by simpa [Nat.blt_eq] using hl
  refine ⟨fun w sw => ⟨_, ?_, _, sw.box_set hm, h⟩⟩
  have hv : v.cells.toList = [v] := by have := h1 w sw; cases v <;> first | rfl | (simp [Value.oneCell'] at this)
  have := run_storeVar_row (P := P) (T := T) (o := o) (vs := [v]) w (sw.perm hm.perm).at hv hs.h (by simp only [List.length_cons, List.length_nil]; omega) (by simpa using h1 w sw)
  have e : cs.take o ++ [v] ++ cs.drop (o + [v].length) = cs.set o v := by
    rw [List.set_eq_take_append_cons_drop, if_pos hl']; simp
  rw [e] at this
  simp [Instr.storeAt, Instr.sureAddr, this]
/-- A struct or an array into a box. -/
theorem StV.agg {b o : Nat} {cs vs : List Value} {arr : Array Value} (hm : Sel S (Qd.box b E cs) S') (hv : arr.toList = vs) {sz : Nat} [hs : TS P T sz] (hsl : vs.length = sz) (hl : Nat.ble (o + vs.length) cs.length = true)
    (h1 : ∀ w, Sat B G S w → ∀ u ∈ vs, u.oneCell' = true) (h : WL P n L Q rest B env G (Qd.box b E (lset cs o vs) :: S')) : StV P n L Q rest B env G S T (.pointer (some ⟨b, o, none⟩)) (.agg arr) := by
  have hl' : o + vs.length ≤ cs.length := by simpa [Nat.ble_eq] using hl
  refine ⟨fun w sw => ⟨_, ?_, _, sw.box_set hm, h⟩⟩
  have := run_storeVar_row (P := P) (T := T) (v := .agg arr) w (sw.perm hm.perm).at hv (by rw [hs.h, hsl]) hl' (h1 w sw)
  rw [lset_eq cs o vs hl']
  simp [Instr.storeAt, Instr.sureAddr, this]
/-- An element of an array variable. -/
theorem WL.idxArr {b o m s : Nat} {i : Int} {kd : IntKind} (hx : env.ev x = some (.pointer (some ⟨b, o, none⟩))) (hy : env.ev y = some (.int kd i)) [hT : TU P T (.array m E)] [hs : TS P E s] (hi : 0 ≤ i ∧ i < m) (hd : Nat.blt d n = true)
    (h : WL P n L Q rest B ((d, .pointer (some ⟨b, o + i.toNat * s, none⟩)) :: env) G S) : WL P n L Q (⟨some d, .indexAddr T x y, ty, pos, af, none⟩ :: rest) B env G S := by
  refine .val rfl rfl hd (fun a w sa _ => ?_) h
  have hT' : P.underlying T = some (.array (P.arrayLen T) (P.elem T)) := by simp [Program.elem, Program.arrayLen, hT.h]
  have he : P.elem T = E := by simp [Program.elem, hT.h]
  have hl : P.arrayLen T = m := by simp [Program.arrayLen, hT.h]
  have := run_indexAt_array w T ⟨b, o, none⟩ kd i hT'
  rw [if_pos (by rw [hl]; exact hi), he, run_sizeOf_of w hs.h] at this
  simp [execOp, sa.ev hx, sa.ev hy, this, Addr.add_none]
end

section
variable {P : Program} {n : Nat} {B : Base} {env : Env} {G : List Pers} {S S' : List Res} {fn : Func} {F : Value → World → Prop}
/-- A result that lies in a variable of its own: a struct or an array. -/
theorem run_results_cell {t : Nat} {T E : TypeId} {b s : Nat} {cs : List Value} {ac : Act} {w : World} (hr : fn.results = #[.cell t T]) (sa : St n B.ds env ac) (sw : Sat B G S w) (hv : env.get t = some (.pointer (some ⟨b, 0, none⟩))) (hm : Sel S (box b E cs) S') [hT : TA P T true] [hs : TS P T s] (hl : cs.length = s) :
    (results fn ac.tmps).run P w = .ok (.agg cs.toArray) w := by
  have h1 := sa.get t _ hv
  have := run_loadVar_agg (P := P) (T := T) w (a := ⟨b, 0, none⟩) (cs := cs) hT.h (by rw [hs.h, hl]) (fun j c hj => by rw [Addr.add_none, sw.box_cell hm, Nat.zero_add]; exact hj)
  simp [results, hr, h1, asAddr, this]
variable [hClean : Clean B]
theorem WX.retCell {t : Nat} {T E : TypeId} {b s : Nat} {cs : List Value} (hr : fn.results = #[.cell t T]) (hv : env.get t = some (.pointer (some ⟨b, 0, none⟩))) (hm : Sel S (box b E cs) S') [hT : TA P T true] [hs : TS P T s] (hl : cs.length = s) (h : ∀ w, Sat B G S w → F (.agg cs.toArray) w) :
    WX n (FPost P fn F) .ret B env G S :=
  ⟨fun _ w sa sw => FEnd.clean (sa.defers.trans Clean.h) ⟨_, run_results_cell hr sa sw hv hm hl, _, rfl, h w sw⟩⟩
end
end Go.Qd
