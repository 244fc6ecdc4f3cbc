import Derived.Test.YthkeakecckiokaaGreatQDraw
namespace Go.Qd
open Go

section
variable {P : Program} {n : Nat} {Q : Exit → Act → World → Prop} {B : Base} {env : Env} {G : List Pers} {S S' : List Res} {L rest : List Oper}
variable {d d1 d2 : Nat} {ty : TypeId} {pos : String} {af : Array Edge} {x y z : Operand} {T T' E E' : TypeId} {u v v' : Value} {α : Type} {R : Ty α} {l l' : List α} {a : α}

/-! ### Bytes to a string, and strings compared -/
abbrev bs (l : List UInt8) : ByteArray := ⟨l.toArray⟩
theorem fold_push (l : List UInt8) : ∀ s : ByteArray, (l.map fun b => (b.toNat : Int)).foldl (fun r n => r.push (UInt8.ofNat n.toNat)) s = ⟨s.data ++ l.toArray⟩ := by
  induction l with
  | nil => intro s; simp
  | cons b l ih =>
    intro s
    simp only [List.map_cons, List.foldl_cons]
    rw [ih]
    simp [ByteArray.push]
class ByteSl (u : Value) (G : List Pers) (l : outParam (List UInt8)) : Prop where
  h : rd (Ty.sl Ty.u8) l u ∈ G
instance ByteSl.mk' {l₀ : List UInt8} [i : RdSl u G Ty.u8 l₀] : ByteSl u G l₀ := ⟨i.h⟩
theorem flat_one (f : α → Value) (hf : ∀ a, (f a).cells.toList = [f a]) (l : List α) : flat (l.map f) = l.map f := by
  induction l with
  | nil => simp [flat]
  | cons a l ih => rw [List.map_cons, flat_cons, ih, hf]; rfl
theorem ConvV.bs {src : TypeId} {l : List UInt8} [i : ByteSl u G l] [hs : TU P src (.slice E)] [he : TU P E (.int .u8)] (h : l.length ≤ maxLen → WL P n L Q rest B ((d, .string (Qd.bs l)) :: env) G S) : ConvV P n L Q rest B env G S d src .string u := by
  refine ⟨.string (Qd.bs l), fun dst w sw hD => ?_, ?_⟩
  · obtain ⟨m, hr, hw⟩ := sw.rd i.h
    obtain ⟨p, c, vs, rfl, h1, h2, hall, hp⟩ := slRel.cells hr hw
    rw [run_convert_bytes_string w src dst E p l.length c hs.h he.h hD]
    rcases hp with ⟨rfl, _⟩ | ⟨b, o, rfl, hcell⟩
    · cases p with
      | none => simp [Conv.bytesToString]; rfl
      | some p => simp [Conv.bytesToString, loadCells, loadCellsFrom]; rfl
    · obtain ⟨rfl, _⟩ := AllR.is.1 hall
      have e : (loadCells (⟨b, o, none⟩ : Addr) l.length).run P w = .ok ((l.map fun b => (b.toNat : Int)).map (Value.int .u8)).toArray w := by
        have := run_loadCells_list (P := P) w ⟨b, o, none⟩ (l.map fun b => Value.int .u8 (b.toNat : Int)) (fun j v hj => by
          rw [Addr.add_none]; refine hcell j v ?_
          rw [flat_one (fun b : UInt8 => Value.int .u8 (b.toNat : Int)) (fun _ => rfl)]; exact hj)
        simpa [List.map_map, Function.comp_def] using this
      rw [run_bytesToString w _ _ _ _ e, fold_push]
      simp [Qd.bs]
  · refine WL.ex (fun w sw => ?_) h
    obtain ⟨p, c, _, h1, h2, _⟩ := sw.sl_shape i.h
    omega
theorem beqD (l k : List UInt8) : (l == k) = decide (l = k) := by by_cases h : l = k <;> simp [h]
theorem bs_size {l : List UInt8} : (bs l).size = l.length := by simp [bs, ByteArray.size]
instance {l k : List UInt8} : BinC P .eql T (.string (bs l)) (.string (bs k)) (.bool (decide (l = k))) := ⟨fun x y w => by
  simp [eqGuard_at_string, binOp_string_eql, bs]; exact beqD ..⟩
instance {l k : List UInt8} : BinC P .neq T (.string (bs l)) (.string (bs k)) (.bool (decide (¬ l = k))) := ⟨fun x y w => by
  simp [eqGuard_at_string, binOp_string_neq, bs]; exact beqD ..⟩

/-! ### What is known of a test -/
section
variable {o : Oper} {t : Nat} {p : Prop} [Decidable p]
theorem PickV.dt (hp : p) (h : WL P n L Q rest B ((d, v) :: env) G S) : PickV P n L Q rest B env G S d (.bool (decide p)) v v' := by
  rw [decide_eq_true hp]; exact .t h
theorem PickV.df (hp : ¬ p) (h : WL P n L Q rest B ((d, v') :: env) G S) : PickV P n L Q rest B env G S d (.bool (decide p)) v v' := by
  rw [decide_eq_false hp]; exact .f h
theorem CondV.dt {x y : Code} (hp : p) (h : WC P n x Q B env G S) : CondV P n x y Q B env G S (.bool (decide p)) := by
  rw [decide_eq_true hp]; exact .t h
theorem CondV.df {x y : Code} (hp : ¬ p) (h : WC P n y Q B env G S) : CondV P n x y Q B env G S (.bool (decide p)) := by
  rw [decide_eq_false hp]; exact .f h
end

/-! ### A part of a slice -/
theorem slRel.sliced {w : Hp} {p : Option Addr} {k c i j s : Nat} (hr : slRel R l (.slice p k c) w) (hs : s = R.sz) (hij : i ≤ j) (hj : j ≤ l.length) : slRel R ((l.take j).drop i) (Go.sliced p i j c s) w := by
  subst hs
  unfold Go.sliced
  have hlen : ((l.take j).drop i).length = j - i := by simp; omega
  rcases hr with ⟨rfl, q, c', e, h1, h2⟩ | ⟨b, o, c', cs, E, fr, vs, e, h2, h3, h4, h5, h6⟩
  · cases e
    simp at hj; subst hj
    obtain rfl : i = 0 := by omega
    refine .inl ⟨by simp, _, _, rfl, by omega, fun hn => ?_⟩
    split at hn
    · exact h2 hn
    · have := h2 (by simpa using hn); omega
  · cases e
    by_cases hc : c = i
    · have e1 : (l.take j).drop i = [] := by
        apply List.eq_nil_of_length_eq_zero; omega
      rw [if_pos hc, e1]
      refine .inl ⟨rfl, _, _, (by rw [show j - i = 0 from by omega]), by omega, fun hn => by cases hn⟩
    · rw [if_neg hc]
      refine .inr ⟨b, o + i * R.sz, c - i, cs, E, fr, (vs.take j).drop i, ?_, h2, by omega, by omega, (h5.take j).drop i, ?_⟩
      · rw [hlen, Option.map_some, Addr.add_none]
      · rw [hlen, (h5.take j).flat_drop, h5.flat_take, ← h6, ← List.drop_drop, List.take_take, List.drop_take]
        congr 1
        rw [Nat.min_eq_left (Nat.mul_le_mul_right _ hj), Nat.sub_mul]
def Env.evo (env : Env) : Option Operand → Option (Option Value)
  | none => some none
  | some x => (env.ev x).map some
structure SliceV (P : Program) (n : Nat) (L : List Oper) (Q : Exit → Act → World → Prop) (rest : List Oper) (B : Base) (env : Env) (G : List Pers) (S : List Res) (d : Nat) (T : TypeId) (v : Value) (lo hi mx : Option Value) : Prop where
  go : ∀ w, Sat B G S w → ∃ r, (Instr.sliceAt T v lo hi mx).run P w = .ok r w ∧ ∃ G', Sat B G' S w ∧ WL P n L Q rest B ((d, r) :: env) G' S
theorem St.evo {ac : Act} (sa : St n B.ds env ac) {x : Option Operand} {v : Option Value} (h : env.evo x = some v) : x.map ac.eval = v := by
  cases x with
  | none => simpa [Env.evo] using h
  | some x =>
    simp only [Env.evo, Option.map_eq_some_iff] at h
    obtain ⟨u, hu, rfl⟩ := h
    simp [sa.ev hu]
theorem WL.slc {lo hi mx : Option Operand} {a b c : Option Value} (hx : env.ev x = some v) (h1 : env.evo lo = some a) (h2 : env.evo hi = some b) (h3 : env.evo mx = some c) (hd : Nat.blt d n = true) (h : SliceV P n L Q rest B env G S d T v a b c) :
    WL P n L Q (⟨some d, .slice T x lo hi mx, ty, pos, af, none⟩ :: rest) B env G S := by
  refine ⟨fun ac w sa sw => ?_⟩
  obtain ⟨r, hr, G', sw', hh⟩ := h.go w sw
  refine wpList_plain rfl fun K hK => ?_
  unfold Oper.wp
  have r1 : (execOp ac.eval ⟨some d, .slice T x lo hi mx, ty, pos, af, none⟩).run P w = .ok (.value r) w := by
    simp [execOp, sa.ev hx, sa.evo h1, sa.evo h2, sa.evo h3, hr]
  rw [r1, Oper.upon_value]
  exact hK _ _ (hh.go _ _ (sa.put hd r) sw')
theorem SliceV.core' {s : Nat} {lo hi : Option Value} {i j : Nat} [hm : RdSl v G R l] [hT : TU P T (.slice E)] [hs : TS P E s] (e : Nat.beq s R.sz = true) (hij : i ≤ j) (hj : j ≤ l.length)
    (hr : ∀ p c w, P.underlying T = some (.slice (P.elem T)) → l.length ≤ c → (Instr.slice T (.slice p l.length c) lo hi none).run P w = ((sizeOf (P.elem T)).run P w).andThen fun s w => .ok (Go.sliced p i j c s) w)
    (h : ∀ r, WL P n L Q rest B ((d, r) :: env) (rd (Ty.sl R) ((l.take j).drop i) r :: G) S) : SliceV P n L Q rest B env G S d T v lo hi none := by
  refine ⟨fun w sw => ?_⟩
  obtain ⟨m, k, dj, hm', hk, hg, hs1⟩ := sw.heap
  have hmem := hg _ hm.h
  obtain ⟨p, c, rfl, hlc, hc, hn⟩ := slRel.shape hmem
  have hT' : P.underlying T = some (.slice (P.elem T)) := by simp [Program.elem, hT.h]
  have hel : P.elem T = E := by simp [Program.elem, hT.h]
  refine ⟨Go.sliced p i j c s, ?_, rd (Ty.sl R) ((l.take j).drop i) (Go.sliced p i j c s) :: G, ⟨sw.os, sw.tape, sw.output, sw.size, m, k, dj, hm', hk, fun g hgg => ?_, hs1⟩, h _⟩
  · rw [run_sliceAt_slice w T _ _ _ _ hT', hr p c w hT' hlc, hel, run_sizeOf_of w hs.h]; rfl
  · cases hgg with
    | head => exact slRel.sliced hmem (Nat.eq_of_beq_eq_true e) hij hj
    | tail _ hgg => exact hg g hgg
theorem SliceV.high {s : Nat} {kh : IntKind} {b : Int} [hm : RdSl v G R l] [hT : TU P T (.slice E)] [hs : TS P E s] (e : Nat.beq s R.sz = true) (j : Nat) (hb : b = (j : Int)) (hj : j ≤ l.length)
    (h : ∀ r, WL P n L Q rest B ((d, r) :: env) (rd (Ty.sl R) (l.take j) r :: G) S) : SliceV P n L Q rest B env G S d T v none (some (.int kh b)) none := by
  subst hb
  refine .core' e (i := 0) (j := j) (by omega) hj (fun p c w hT' hlc => ?_) (by simpa using h)
  rw [run_slice_h w T p l.length c hT' kh j (by omega) (by omega)]; simp
theorem SliceV.low {s : Nat} {kl : IntKind} {b : Int} [hm : RdSl v G R l] [hT : TU P T (.slice E)] [hs : TS P E s] (e : Nat.beq s R.sz = true) (i : Nat) (hb : b = (i : Int)) (hj : i ≤ l.length)
    (h : ∀ r, WL P n L Q rest B ((d, r) :: env) (rd (Ty.sl R) (l.drop i) r :: G) S) : SliceV P n L Q rest B env G S d T v (some (.int kl b)) none none := by
  subst hb
  refine .core' e (i := i) (j := l.length) hj (by omega) (fun p c w hT' hlc => ?_) (by simpa using h)
  rw [run_slice_l w T p l.length c hT' kl i (by omega) (by omega)]; simp
theorem SliceV.both {s : Nat} {kl kh : IntKind} {b b' : Int} [hm : RdSl v G R l] [hT : TU P T (.slice E)] [hs : TS P E s] (e : Nat.beq s R.sz = true) (i j : Nat) (hb : b = (i : Int)) (hb' : b' = (j : Int)) (hij : i ≤ j) (hj : j ≤ l.length)
    (h : ∀ r, WL P n L Q rest B ((d, r) :: env) (rd (Ty.sl R) ((l.take j).drop i) r :: G) S) : SliceV P n L Q rest B env G S d T v (some (.int kl b)) (some (.int kh b')) none := by
  subst hb; subst hb'
  refine .core' e hij hj (fun p c w hT' hlc => ?_) h
  rw [run_slice_lh w T p l.length c hT' kl kh i j (by omega) (by omega) (by omega)]; simp
theorem Sat.rdNil {B : World} {w : World} (R : Ty α) (h : Sat B G S w) : Sat B (Qd.rd (Ty.sl R) [] (.slice none 0 0) :: G) S w := by
  obtain ⟨m, k, dj, hm', hk, hg, hs1⟩ := h.heap
  exact ⟨h.os, h.tape, h.output, h.size, m, k, dj, hm', hk, fun g hgg => by
    cases hgg with
    | head => exact .inl ⟨rfl, none, 0, rfl, by simp, fun _ => rfl⟩
    | tail _ hgg => exact hg g hgg, hs1⟩

/-! ### The parts of a region that draws -/
theorem WX.pqIs {G₀ : List Pers} {S₀ : List Res} {v : Value} (hv : env.get d = some v) [hs : SS S₀ S] [hg : GS G₀ G] : WX n (PQ n B G₀ S₀ (some d) (.is v)) .normal B env G S := by
  refine ⟨fun a w sa sw => ⟨rfl, sa.size, sa.defers, v, fun t ht => by cases ht; exact sa.get _ _ hv, ?_⟩⟩
  obtain ⟨m, k, dj, hm', hk, hgg, hs1⟩ := (sw.to : Sat B G₀ S₀ w).heap
  exact ⟨sw.os, sw.tape, sw.output, sw.size, m, k, dj, hm', hk, fun g hg' => by
    cases hg' with
    | head => exact rfl
    | tail _ hg' => exact hgg g hg', hs1⟩
theorem WX.pqRd {G₀ : List Pers} {S₀ : List Res} {v : Value} (hv : env.get d = some v) [hr : Rd v G R a] [hs : SS S₀ S] [hg : GS G₀ G] : WX n (PQ n B G₀ S₀ (some d) (.kn (Qd.rd R a))) .normal B env G S := by
  refine ⟨fun a w sa sw => ⟨rfl, sa.size, sa.defers, v, fun t ht => by cases ht; exact sa.get _ _ hv, ?_⟩⟩
  exact (sw.sub (fun g hg' => by
    cases hg' with
    | head => exact hr.h
    | tail _ hg' => exact hg.h g hg')).ssub hs.h
theorem WX.pqCell {G₀ : List Pers} {S₀ : List Res} {v : Value} (hv : env.get d = some v) [hr : PC v G R a] [hs : SS S₀ S] [hg : GS G₀ G] : WX n (PQ n B G₀ S₀ (some d) (.kn (pcell R a))) .normal B env G S := by
  refine ⟨fun a w sa sw => ⟨rfl, sa.size, sa.defers, v, fun t ht => by cases ht; exact sa.get _ _ hv, ?_⟩⟩
  exact (sw.sub (fun g hg' => by
    cases hg' with
    | head => exact hr.h
    | tail _ hg' => exact hg.h g hg')).ssub hs.h
theorem WX.pqNone {G₀ : List Pers} {S₀ : List Res} [hs : SS S₀ S] [hg : GS G₀ G] : WX n (PQ n B G₀ S₀ none (.is undef)) .normal B env G S := by
  refine ⟨fun a w sa sw => ⟨rfl, sa.size, sa.defers, undef, (fun t ht => by cases ht), ?_⟩⟩
  obtain ⟨m, k, dj, hm', hk, hgg, hs1⟩ := (sw.to : Sat B G₀ S₀ w).heap
  exact ⟨sw.os, sw.tape, sw.output, sw.size, m, k, dj, hm', hk, fun g hg' => by
    cases hg' with
    | head => exact rfl
    | tail _ hg' => exact hgg g hg', hs1⟩
theorem Obls.cons {fin : Acc → Prop} {i : Nat} {o : Oper} {r : List Oper} {acc : Acc} (p : Post) (h : ∀ Gx, withDeps (depsOf o) acc env (G ++ Gx) fun env' G' => WL P n L (PQ n B (G ++ Gx) S o.dst p) [o] B env' G' S)
    (h2 : Obls P n L B env G S fin (i + 1) r ((i, o.dst, p, depsOf o) :: acc)) : Obls P n L B env G S fin i (o :: r) acc := ⟨p, ⟨h⟩, h2⟩
instance InG.app {g : Pers} {G Gx : List Pers} [i : InG g G] : InG g (G ++ Gx) := ⟨List.mem_append.2 (.inl i.h)⟩
instance RdSl.app {v : Value} {G Gx : List Pers} {R : Ty α} {l : List α} [i : RdSl v G R l] : RdSl v (G ++ Gx) R l := ⟨List.mem_append.2 (.inl i.h)⟩
instance Rd.app {v : Value} {G Gx : List Pers} {R : Ty α} {a : α} [i : Rd v G R a] : Rd v (G ++ Gx) R a := ⟨List.mem_append.2 (.inl i.h)⟩
instance PC.app {v : Value} {G Gx : List Pers} {R : Ty α} {a : α} [i : PC v G R a] : PC v (G ++ Gx) R a := ⟨List.mem_append.2 (.inl i.h)⟩
/-- What is left of an environment where slots are to be written. -/
def Wo (ds : List Nat) (e e' : Env) : Prop := ∀ i v, e'.get i = some v → e.get i = some v ∧ i ∉ ds
theorem Wo.nil {ds : List Nat} : Wo ds [] [] := fun i v h => by cases h
theorem Wo.keep {ds : List Nat} {e e' : Env} {i : Nat} {v : Value} (hb : ds.any (Nat.beq i) = false) (h : Wo ds e e') : Wo ds ((i, v) :: e) ((i, v) :: e') := fun j u hj => by
  simp only [Env.get] at hj ⊢
  cases hq : Nat.beq i j with
  | true =>
    rw [hq] at hj
    refine ⟨hj, fun hm => ?_⟩
    rw [← Nat.eq_of_beq_eq_true hq] at hm
    have : ds.any (Nat.beq i) = true := List.any_eq_true.2 ⟨i, hm, by simp⟩
    rw [this] at hb; cases hb
  | false => rw [hq] at hj; exact h j u hj
theorem Wo.drop {ds : List Nat} {e e' : Env} {i : Nat} {v : Value} (hb : ds.any (Nat.beq i) = true) (h : Wo ds e e') : Wo ds ((i, v) :: e) e' := fun j u hj => by
  obtain ⟨h1, h2⟩ := h j u hj
  refine ⟨?_, h2⟩
  simp only [Env.get]
  cases hq : Nat.beq i j with
  | true =>
    obtain ⟨x, hx, he⟩ := List.any_eq_true.1 hb
    rw [← Nat.eq_of_beq_eq_true he, Nat.eq_of_beq_eq_true hq] at hx
    exact (h2 hx).elim
  | false => exact h1
theorem WC.draw {id : Nat} {env' : Env} [hm : Mixed P] (hok : (depsOK 0 L && distinct (dstsOf L)) = true) (hw : Wo (dstsOf L) env env')
    (h : Obls P n L B env' G S (fun acc => withDeps (allOf acc) acc env' G fun env'' G' => WX n Q .normal B env'' G' S) 0 L []) : WC P n (.region id L.toArray true) Q B env G S := .regionD hm.h hok hw h
theorem Obls.nil {fin : Acc → Prop} {i : Nat} {acc : Acc} (h : fin acc) : Obls P n L B env G S fin i [] acc := h
end
end Go.Qd
