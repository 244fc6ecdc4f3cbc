import Derived.Test.YthkeakecckiokaaGreatQMem
namespace Go.Qd
open Go

/-! ### Data: how a value of a Go type reads -/
structure Ty (α : Type) where
  sz : Nat
  agg : Bool
  rel : α → Value → Hp → Prop
  mono : ∀ {a : α} {v : Value} {h k : Hp}, Hp.le h k → rel a v h → rel a v k
  size : ∀ {a : α} {v : Value} {h : Hp}, rel a v h → v.cells.toList.length = sz
  form : ∀ {a : α} {v : Value} {h : Hp}, rel a v h → if agg then ∃ cs, v = .agg cs else v.oneCell' = true
  ones : ∀ {a : α} {v : Value} {h : Hp}, rel a v h → ∀ c ∈ v.cells.toList, c.oneCell' = true

/-- A type whose data are values and nothing else. -/
class Ty.Is {α : Type} (R : Ty α) (f : outParam (α → Value)) (ok : outParam (α → Prop)) : Prop where
  iff : ∀ a v h, R.rel a v h ↔ v = f a ∧ ok a

def Ty.plain {α : Type} (f : α → Value) (ok : α → Prop) (h1 : ∀ a, (f a).oneCell' = true) : Ty α where
  sz := 1
  agg := false
  rel a v _ := v = f a ∧ ok a
  mono _ h := h
  size := by
    rintro a v h ⟨rfl, _⟩
    have := h1 a
    cases hv : f a <;> simp_all [Value.cells, Value.oneCell']
  form := by rintro a v h ⟨rfl, _⟩; simpa using h1 a
  ones := by
    rintro a v h ⟨rfl, _⟩ c hc
    have := h1 a
    cases hv : f a <;> simp_all [Value.cells, Value.oneCell']
def Ty.u8 : Ty UInt8 := .plain (fun b => .int .u8 (b.toNat : Int)) (fun _ => True) (fun _ => rfl)
def Ty.u64 : Ty Nat := .plain (fun m => .int .u64 (m : Int)) (fun m => m < 18446744073709551616) (fun _ => rfl)
def Ty.u32 : Ty Nat := .plain (fun m => .int .u32 (m : Int)) (fun m => m < 4294967296) (fun _ => rfl)
def Ty.i64 : Ty Int := .plain (fun m => .int .i64 m) (fun m => -9223372036854775808 ≤ m ∧ m ≤ 9223372036854775807) (fun _ => rfl)
def Ty.bool : Ty Bool := .plain (fun b => .bool b) (fun _ => True) (fun _ => rfl)
def Ty.str : Ty (List UInt8) := .plain (fun l => .string ⟨l.toArray⟩) (fun l => l.length ≤ maxLen) (fun _ => rfl)
instance : Ty.Is Ty.u8 (fun b => .int .u8 (b.toNat : Int)) (fun _ => True) := ⟨fun _ _ _ => Iff.rfl⟩
instance : Ty.Is Ty.u64 (fun m => .int .u64 (m : Int)) (fun m => m < 18446744073709551616) := ⟨fun _ _ _ => Iff.rfl⟩
instance : Ty.Is Ty.u32 (fun m => .int .u32 (m : Int)) (fun m => m < 4294967296) := ⟨fun _ _ _ => Iff.rfl⟩
instance : Ty.Is Ty.i64 (fun m => .int .i64 m) (fun m => -9223372036854775808 ≤ m ∧ m ≤ 9223372036854775807) := ⟨fun _ _ _ => Iff.rfl⟩
instance : Ty.Is Ty.bool (fun b => .bool b) (fun _ => True) := ⟨fun _ _ _ => Iff.rfl⟩
instance : Ty.Is Ty.str (fun l => .string ⟨l.toArray⟩) (fun l => l.length ≤ maxLen) := ⟨fun _ _ _ => Iff.rfl⟩

def AllR {α : Type} (R : Ty α) : List α → List Value → Hp → Prop
  | [], [], _ => True
  | a :: l, v :: vs, h => R.rel a v h ∧ AllR R l vs h
  | _, _, _ => False
def flat (vs : List Value) : List Value := vs.flatMap fun v => v.cells.toList
theorem flat_cons (v : Value) (vs : List Value) : flat (v :: vs) = v.cells.toList ++ flat vs := rfl
theorem flat_nil : flat [] = [] := rfl

section
variable {α : Type} {R : Ty α}
theorem AllR.mono : ∀ {l : List α} {vs : List Value} {h k : Hp}, Hp.le h k → AllR R l vs h → AllR R l vs k
  | [], [], _, _, _, _ => trivial
  | _ :: _, _ :: _, _, _, le, ⟨a, b⟩ => ⟨R.mono le a, AllR.mono le b⟩
  | [], _ :: _, _, _, _, x => x.elim
  | _ :: _, [], _, _, _, x => x.elim
theorem AllR.length : ∀ {l : List α} {vs : List Value} {h : Hp}, AllR R l vs h → vs.length = l.length
  | [], [], _, _ => rfl
  | _ :: _, _ :: _, _, ⟨_, b⟩ => by simp [AllR.length b]
  | [], _ :: _, _, x => x.elim
  | _ :: _, [], _, x => x.elim
theorem AllR.get : ∀ {l : List α} {vs : List Value} {h : Hp}, AllR R l vs h → ∀ {i : Nat} {a : α}, l[i]? = some a → ∃ v, vs[i]? = some v ∧ R.rel a v h
  | _ :: _, v :: _, _, ⟨a, _⟩, 0, _, e => by simp at e; subst e; exact ⟨v, rfl, a⟩
  | _ :: l, _ :: vs, _, ⟨_, b⟩, i + 1, _, e => by
    obtain ⟨v, h1, h2⟩ := AllR.get b (i := i) (by simpa using e)
    exact ⟨v, by simpa using h1, h2⟩
  | [], [], _, _, _, _, e => by simp at e
  | [], _ :: _, _, x, _, _, _ => x.elim
  | _ :: _, [], _, x, _, _, _ => x.elim
theorem AllR.flat_length : ∀ {l : List α} {vs : List Value} {h : Hp}, AllR R l vs h → (flat vs).length = l.length * R.sz
  | [], [], _, _ => by simp [flat]
  | _ :: l, v :: vs, _, ⟨a, b⟩ => by
    rw [flat_cons, List.length_append, R.size a, AllR.flat_length b, List.length_cons, Nat.succ_mul, Nat.add_comm]
  | [], _ :: _, _, x => x.elim
  | _ :: _, [], _, x => x.elim
theorem AllR.ones : ∀ {l : List α} {vs : List Value} {h : Hp}, AllR R l vs h → ∀ c ∈ flat vs, c.oneCell' = true
  | [], [], _, _ => by simp [flat]
  | _ :: l, v :: vs, _, ⟨a, b⟩ => by
    intro c hc
    rw [flat_cons, List.mem_append] at hc
    rcases hc with hc | hc
    · exact R.ones a c hc
    · exact AllR.ones b c hc
  | [], _ :: _, _, x => x.elim
  | _ :: _, [], _, x => x.elim
theorem AllR.cell : ∀ {l : List α} {vs : List Value} {h : Hp}, AllR R l vs h → ∀ {i : Nat} {v : Value}, vs[i]? = some v → ∀ {j : Nat} {c : Value}, v.cells.toList[j]? = some c → (flat vs)[i * R.sz + j]? = some c
  | _ :: _, v :: vs, _, ⟨a, b⟩, 0, u, e, j, c, hc => by
    simp at e; subst e
    have hj : j < v.cells.toList.length := (List.getElem?_eq_some_iff.1 hc).1
    rw [flat_cons, Nat.zero_mul, Nat.zero_add, List.getElem?_append_left hj]; exact hc
  | _ :: l, v :: vs, _, ⟨a, b⟩, i + 1, u, e, j, c, hc => by
    have := AllR.cell b (i := i) (by simpa using e) hc
    rw [flat_cons, List.getElem?_append_right (by rw [R.size a, Nat.succ_mul]; omega), R.size a]
    rw [show (i + 1) * R.sz + j - R.sz = i * R.sz + j from by rw [Nat.succ_mul]; omega]
    exact this
  | [], [], _, _, _, _, e, _, _, _ => by simp at e
  | [], _ :: _, _, x, _, _, _, _, _, _ => x.elim
  | _ :: _, [], _, x, _, _, _, _, _, _ => x.elim
theorem AllR.append {h : Hp} : ∀ {l l' : List α} {vs vs' : List Value}, AllR R l vs h → AllR R l' vs' h → AllR R (l ++ l') (vs ++ vs') h
  | [], _, [], _, _, y => y
  | _ :: _, _, _ :: _, _, ⟨a, b⟩, y => ⟨a, AllR.append b y⟩
  | [], _, _ :: _, _, x, _ => x.elim
  | _ :: _, _, [], _, x, _ => x.elim
theorem AllR.take {h : Hp} : ∀ {l : List α} {vs : List Value} (k : Nat), AllR R l vs h → AllR R (l.take k) (vs.take k) h
  | [], [], _, _ => by simp [AllR]
  | _ :: _, _ :: _, 0, _ => by simp [AllR]
  | _ :: _, _ :: _, k + 1, ⟨a, b⟩ => by simp only [List.take_succ_cons]; exact ⟨a, AllR.take k b⟩
  | [], _ :: _, _, x => x.elim
  | _ :: _, [], _, x => x.elim
theorem AllR.drop {h : Hp} : ∀ {l : List α} {vs : List Value} (k : Nat), AllR R l vs h → AllR R (l.drop k) (vs.drop k) h
  | [], [], _, _ => by simp [AllR]
  | _ :: _, _ :: _, 0, x => by simpa using x
  | _ :: _, _ :: _, k + 1, ⟨_, b⟩ => by simp only [List.drop_succ_cons]; exact AllR.drop k b
  | [], _ :: _, _, x => x.elim
  | _ :: _, [], _, x => x.elim
theorem AllR.flat_take {h : Hp} : ∀ {l : List α} {vs : List Value} (k : Nat), AllR R l vs h → flat (vs.take k) = (flat vs).take (k * R.sz)
  | [], [], k, _ => by simp [flat]
  | _ :: _, _ :: _, 0, _ => by simp [flat]
  | _ :: l, v :: vs, k + 1, ⟨a, b⟩ => by
    have h1 := R.size a
    rw [List.take_succ_cons, flat_cons, flat_cons, AllR.flat_take k b, Nat.succ_mul, List.take_append, h1, Nat.add_sub_cancel, List.take_of_length_le (l := v.cells.toList) (by omega)]
  | [], _ :: _, _, x => x.elim
  | _ :: _, [], _, x => x.elim
theorem AllR.flat_drop {h : Hp} : ∀ {l : List α} {vs : List Value} (k : Nat), AllR R l vs h → flat (vs.drop k) = (flat vs).drop (k * R.sz)
  | [], [], k, _ => by simp [flat]
  | _ :: _, _ :: _, 0, _ => by simp
  | _ :: l, v :: vs, k + 1, ⟨a, b⟩ => by
    have h1 := R.size a
    rw [List.drop_succ_cons, flat_cons, AllR.flat_drop k b, Nat.succ_mul, List.drop_append, h1, Nat.add_sub_cancel, List.drop_of_length_le (l := v.cells.toList) (by omega), List.nil_append]
  | [], _ :: _, _, x => x.elim
  | _ :: _, [], _, x => x.elim
theorem AllR.is {f : α → Value} {ok : α → Prop} [R.Is f ok] {h : Hp} : ∀ {l : List α} {vs : List Value}, AllR R l vs h ↔ vs = l.map f ∧ ∀ a ∈ l, ok a
  | [], [] => by simp [AllR]
  | a :: l, v :: vs => by
    simp only [AllR, Ty.Is.iff, AllR.is (l := l) (vs := vs), List.map_cons, List.cons.injEq, List.mem_cons, forall_eq_or_imp]
    constructor
    · rintro ⟨⟨a, b⟩, c, d⟩; exact ⟨⟨a, c⟩, b, d⟩
    · rintro ⟨⟨a, c⟩, b, d⟩; exact ⟨⟨a, b⟩, c, d⟩
  | [], _ :: _ => by simp [AllR]
  | _ :: _, [] => by simp [AllR]

/-- A slice that is only read: it reads as the list. -/
def slRel (R : Ty α) (l : List α) (v : Value) (h : Hp) : Prop :=
  (l = [] ∧ ∃ p c, v = .slice p 0 c ∧ c ≤ maxLen ∧ (p = none → c = 0)) ∨
  ∃ b o c cs E fr vs, v = .slice (some ⟨b, o, none⟩) l.length c ∧ h b = some (.cells cs E fr) ∧ l.length ≤ c ∧ c ≤ maxLen ∧ AllR R l vs h ∧ (cs.toList.drop o).take (l.length * R.sz) = flat vs
theorem slRel.mono {l : List α} {v : Value} {h k : Hp} (le : Hp.le h k) (x : slRel R l v h) : slRel R l v k := by
  rcases x with x | ⟨b, o, c, cs, E, fr, vs, h1, h2, h3, h4, h5, h6⟩
  · exact .inl x
  · exact .inr ⟨b, o, c, cs, E, fr, vs, h1, le _ _ h2, h3, h4, h5.mono le, h6⟩
theorem slRel.shape {l : List α} {v : Value} {h : Hp} (x : slRel R l v h) : ∃ p c, v = .slice p l.length c ∧ l.length ≤ c ∧ c ≤ maxLen ∧ (p = none → l = [] ∧ c = 0) := by
  rcases x with ⟨rfl, p, c, rfl, h1, h2⟩ | ⟨b, o, c, cs, E, fr, vs, h1, h2, h3, h4, h5, h6⟩
  · exact ⟨p, c, rfl, by simp, h1, fun e => ⟨rfl, h2 e⟩⟩
  · exact ⟨_, c, h1, h3, h4, fun e => by cases e⟩
def Ty.sl (R : Ty α) : Ty (List α) where
  sz := 1
  agg := false
  rel := slRel R
  mono := slRel.mono
  size x := by obtain ⟨p, c, rfl, _⟩ := slRel.shape x; rfl
  form x := by obtain ⟨p, c, rfl, _⟩ := slRel.shape x; rfl
  ones x := by obtain ⟨p, c, rfl, _⟩ := slRel.shape x; simp [Value.cells, Value.oneCell']
/-- What a value reads as, for good. -/
def rd (R : Ty α) (a : α) (v : Value) : Pers := ⟨R.rel a v, fun _ _ le x => R.mono le x⟩
/-- The cells from an address on hold a datum, for good. -/
def pcell (R : Ty α) (a : α) (p : Value) : Pers :=
  ⟨fun h => ∃ b o cs E fr v, p = .pointer (some ⟨b, o, none⟩) ∧ h b = some (.cells cs E fr) ∧ R.rel a v h ∧ ∀ j c, v.cells.toList[j]? = some c → cs[o + j]? = some c,
   fun _ _ le ⟨b, o, cs, E, fr, v, h1, h2, h3, h4⟩ => ⟨b, o, cs, E, fr, v, h1, le _ _ h2, R.mono le h3, h4⟩⟩
end

theorem Sat.rd {B w : World} {G : List Pers} {S : List Res} {α : Type} {R : Ty α} {a : α} {v : Value} (h : Sat B G S w) (hm : rd R a v ∈ G) : ∃ m : Hp, R.rel a v m ∧ ∀ b o, m b = some o → w.heap[b]? = some o := by
  obtain ⟨m, k, d, hw, hk, hg, hs⟩ := h.heap
  exact ⟨m, hg _ hm, hw⟩
theorem Sat.sl_shape {B w : World} {G : List Pers} {S : List Res} {α : Type} {R : Ty α} {l : List α} {v : Value} (h : Sat B G S w) (hm : Qd.rd (Ty.sl R) l v ∈ G) :
    ∃ p c, v = .slice p l.length c ∧ l.length ≤ c ∧ c ≤ maxLen ∧ (p = none → l = [] ∧ c = 0) := by
  obtain ⟨m, hr, _⟩ := h.rd hm
  exact slRel.shape hr
theorem Sat.len_le {B w : World} {G : List Pers} {S : List Res} {α : Type} {R : Ty α} {l : List α} {v : Value} (h : Sat B G S w) (hm : Qd.rd (Ty.sl R) l v ∈ G) : l.length ≤ 9223372036854775807 := by
  obtain ⟨p, c, _, h1, h2, _⟩ := h.sl_shape hm
  simp only [maxLen] at h2
  omega
section
variable {P : Program} {n : Nat} {Q : Exit → Act → World → Prop} {B : Base} {env : Env} {G : List Pers} {S S' : List Res} {L rest : List Oper}
variable {d d1 d2 : Nat} {ty ty1 ty2 : TypeId} {pos pos1 pos2 : String} {af af1 af2 : Array Edge} {x y z : Operand} {T T' E E' : TypeId} {u v v' : Value} {α : Type} {R : Ty α} {l : List α} {a : α}

theorem LenV.sl (hm : rd (Ty.sl R) l u ∈ G) [hT : TU P T (.slice E)] (h : WL P n L Q rest B ((d, .int .i64 l.length) :: env) G S) : LenV P n L Q rest B env G S d T u :=
  ⟨_, fun ty w sw => by
    obtain ⟨p, c, rfl, _⟩ := sw.sl_shape hm
    simp [Builtin.len_, run_underlying hT.h, goInt], h⟩

theorem one_cells {u : Value} (h : u.oneCell' = true) : u.cells.toList = [u] := by
  cases u <;> first | rfl | (simp [Value.oneCell'] at h)
/-- The cells of a read slice, in a world that bears what is known. -/
theorem slRel.cells {w : World} {m : Hp} (hr : slRel R l v m) (hw : ∀ (b : Nat) (o : Obj), m b = some o → w.heap[b]? = some o) :
    ∃ p c vs, v = .slice p l.length c ∧ l.length ≤ c ∧ c ≤ maxLen ∧ AllR R l vs m ∧ (l = [] ∧ vs = [] ∧ (p = none → c = 0) ∨ ∃ b o, p = some ⟨b, o, none⟩ ∧ ∀ j u, (flat vs)[j]? = some u → w.cell? ⟨b, o + j, none⟩ = some u) := by
  rcases hr with ⟨rfl, p, c, rfl, h1, h2⟩ | ⟨b, o, c, cs, E, fr, vs, h1, h2, h3, h4, h5, h6⟩
  · exact ⟨p, c, [], rfl, by simp, h1, by simp [AllR], .inl ⟨rfl, rfl, h2⟩⟩
  · refine ⟨_, c, vs, h1, h3, h4, h5, .inr ⟨b, o, rfl, fun j u hj => ?_⟩⟩
    rw [cell_of_row w b (o + j) cs E fr (hw _ _ h2)]
    rw [← h6, List.getElem?_take] at hj
    split at hj
    · simpa using hj
    · cases hj
theorem run_index_load {w : World} {m : Hp} (hr : slRel R l v m) (hw : ∀ (b : Nat) (o : Obj), m b = some o → w.heap[b]? = some o) {k : Nat} (hk : l[k]? = some a) (kd : IntKind) (hT : P.underlying T = some (.slice E')) (hs' : tsz P E' = some R.sz) (hs : tsz P E = some R.sz) (hE : aggT P E = some R.agg) :
    ∃ p u, (Instr.indexAt T v (.int kd k)).run P w = .ok (.pointer (some p)) w ∧ (loadVar E p).run P w = .ok u w ∧ R.rel a u m := by
  obtain ⟨p, c, vs, rfl, hlc, hc, hall, hp⟩ := hr.cells hw
  have hkl : k < l.length := (List.getElem?_eq_some_iff.1 hk).1
  rcases hp with ⟨rfl, _⟩ | ⟨b, o, rfl, hcell⟩
  · simp at hkl
  obtain ⟨u, hu, hr⟩ := hall.get hk
  have hT' : P.underlying T = some (.slice (P.elem T)) := by simp [Program.elem, hT]
  have hel : P.elem T = E' := by simp [Program.elem, hT]
  refine ⟨⟨b, o + k * R.sz, none⟩, u, ?_, ?_, hr⟩
  · rw [run_indexAt_slice w T _ _ _ _ _ hT', if_pos (by omega), hel, run_sizeOf_of w hs']
    simp [Addr.add_none]
  · have hcells : ∀ j cc, u.cells.toList[j]? = some cc → w.cell? ⟨b, o + k * R.sz + j, none⟩ = some cc := fun j cc hj => by
      rw [Nat.add_assoc]; exact hcell _ _ (hall.cell hu hj)
    have hf := R.form hr
    have hsz := R.size hr
    cases hagg : R.agg with
    | true =>
      rw [hagg] at hf hE
      obtain ⟨cs, rfl⟩ := (by simpa using hf : ∃ cs, u = .agg cs)
      have := run_loadVar_agg (P := P) (T := E) w (a := ⟨b, o + k * R.sz, none⟩) (cs := cs.toList) hE (by rw [hs]; simpa [Value.cells] using hsz.symm) (fun j cc hj => by
        rw [Addr.add_none]; exact hcells j cc (by simpa [Value.cells] using hj))
      simpa using this
    | false =>
      rw [hagg] at hf hE
      have h1 : u.oneCell' = true := by simpa using hf
      exact run_loadVar_plain w hE (by simpa using hcells 0 u (by rw [one_cells h1]; rfl))

/-- An element's address and the load of it. -/
structure IxlV (P : Program) (n : Nat) (L : List Oper) (Q : Exit → Act → World → Prop) (rest : List Oper) (B : Base) (env : Env) (G : List Pers) (S : List Res) (d1 d2 : Nat) (T E : TypeId) (v i : Value) : Prop where
  go : ∀ w, Sat B G S w → ∃ p u, (Instr.indexAt T v i).run P w = .ok (.pointer (some p)) w ∧ (loadVar E p).run P w = .ok u w ∧ ∃ G', Sat B G' S w ∧ WL P n L Q rest B ((d2, u) :: (d1, .pointer (some p)) :: env) G' S
theorem WL.ixl (hx : env.ev x = some v) (hy : env.ev y = some v') (hd1 : Nat.blt d1 n = true) (hd2 : Nat.blt d2 n = true) (h : IxlV P n L Q rest B env G S d1 d2 T E v v') :
    WL P n L Q (⟨some d1, .indexAddr T x y, ty1, pos1, af1, none⟩ :: ⟨some d2, .load E (.tmp d1), ty2, pos2, af2, none⟩ :: rest) B env G S := by
  refine ⟨fun ac w sa sw => ?_⟩
  obtain ⟨p, u, h1, h2, G', sw', hh⟩ := h.go w sw
  refine wpList_plain rfl fun K hK => ?_
  unfold Oper.wp
  have r1 : (execOp ac.eval ⟨some d1, .indexAddr T x y, ty1, pos1, af1, none⟩).run P w = .ok (.value (.pointer (some p))) w := by
    simp [execOp, sa.ev hx, sa.ev hy, h1]
  rw [r1, Oper.upon_value]
  refine hK _ _ (wpList_plain rfl fun K' hK' => ?_)
  have sa1 := sa.put hd1 (.pointer (some p))
  unfold Oper.wp
  have r2 : (execOp (ac.put (some d1) (.pointer (some p))).eval ⟨some d2, .load E (.tmp d1), ty2, pos2, af2, none⟩).run P w = .ok (.value u) w := by
    have : (ac.put (some d1) (.pointer (some p))).eval (.tmp d1) = .pointer (some p) := sa1.ev (by simp [Env.ev, Env.get])
    simp [execOp, this, Instr.loadAt, Instr.sureAddr, h2]
  rw [r2, Oper.upon_value]
  exact hK' _ _ (hh.go _ _ (sa1.put hd2 u) sw')
theorem IxlV.rd {k : Nat} {kd : IntKind} (hm : rd (Ty.sl R) l v ∈ G) (hk : l[k]? = some a)
    {sa sb : Nat} {ag : Bool} [hT : TU P T (.slice E')] [hs' : TS P E' sa] [hs : TS P E sb] [hE : TA P E ag] (e1 : sa = R.sz) (e2 : sb = R.sz) (e3 : ag = R.agg)
    (h : ∀ p u, WL P n L Q rest B ((d2, u) :: (d1, p) :: env) (Qd.rd R a u :: G) S) : IxlV P n L Q rest B env G S d1 d2 T E v (.int kd (k : Int)) := by
  refine ⟨fun w sw => ?_⟩
  obtain ⟨m, k', dj, hw, hk', hg, hs1⟩ := sw.heap
  obtain ⟨p, u, h1, h2, h3⟩ := run_index_load (P := P) (T := T) (E := E) (hg _ hm) hw hk kd hT.h (e1 ▸ hs'.h) (e2 ▸ hs.h) (e3 ▸ hE.h)
  refine ⟨p, u, h1, h2, Qd.rd R a u :: G, ⟨sw.os, sw.tape, sw.output, sw.size, m, k', dj, hw, hk', fun g hgg => ?_, hs1⟩, h (.pointer (some p)) u⟩
  cases hgg with
  | head => exact h3
  | tail _ hgg => exact hg g hgg
theorem IxlV.is {f : α → Value} {ok : α → Prop} {k : Nat} {kd : IntKind} (hm : Qd.rd (Ty.sl R) l v ∈ G) [hR : R.Is f ok] (hk : l[k]? = some a)
    {sa sb : Nat} {ag : Bool} [hT : TU P T (.slice E')] [hs' : TS P E' sa] [hs : TS P E sb] [hE : TA P E ag] (e1 : sa = R.sz) (e2 : sb = R.sz) (e3 : ag = R.agg)
    (h : ok a → ∀ p, WL P n L Q rest B ((d2, f a) :: (d1, p) :: env) G S) : IxlV P n L Q rest B env G S d1 d2 T E v (.int kd (k : Int)) := by
  refine .rd hm hk e1 e2 e3 (fun p u => ⟨fun ac w sa sw => ?_⟩)
  have hu : u = f a ∧ ok a := sw.pure fun m hm => (Ty.Is.iff _ _ _).1 (hm (Qd.rd R a u) (.head _))
  obtain ⟨rfl, ho⟩ := hu
  exact (h ho p).go ac w sa (sw.sub fun g hg => .tail _ hg)

/-! ### A slice of the call's own -/
def own (E sz : Nat) (v : Value) (m : Nat) (xs : List Value) : Res := fun h =>
  xs.length = m * sz ∧ ((v = .slice none 0 0 ∧ m = 0 ∧ ∀ b, h b = none) ∨
    ∃ b c cs, v = .slice (some ⟨b, 0, none⟩) m c ∧ h = Hp.one b (.cells cs E (0, 0)) ∧ m ≤ c ∧ c ≤ maxLen ∧ cs.size = c * sz ∧ cs.toList.take (m * sz) = xs)
theorem own.shape {E sz m : Nat} {v : Value} {xs : List Value} {h : Hp} (x : own E sz v m xs h) : ∃ p c, v = .slice p m c ∧ m ≤ c ∧ c ≤ maxLen := by
  obtain ⟨_, ⟨rfl, rfl, _⟩ | ⟨b, c, cs, rfl, _, h1, h2, _⟩⟩ := x
  · exact ⟨_, _, rfl, by simp, by simp⟩
  · exact ⟨_, _, rfl, h1, h2⟩
theorem Sat.ownNil {B : World} {w : World} (E sz : Nat) (h : Sat B G S w) : Sat B G (own E sz (.slice none 0 0) 0 [] :: S) w := by
  obtain ⟨m, k, d, hm, hk, hg, hs⟩ := h.heap
  exact ⟨h.os, h.tape, h.output, h.size, m, k, d, hm, hk, hg, Hp.none, k, fun _ => .inl rfl, (Hp.union_none_left k).symm, ⟨by simp, .inl ⟨rfl, rfl, fun _ => rfl⟩⟩, hs⟩
theorem Sat.ownBox {B : World} {w : World} {b c : Nat} {E sz m : Nat} {cs : List Value} (h : Sat B G (Qd.box b E cs :: S) w) (hc : cs.length = c * sz) (hm : m ≤ c) (hx : c ≤ maxLen) : Sat B G (own E sz (.slice (some ⟨b, 0, none⟩) m c) m (cs.take (m * sz)) :: S) w :=
  h.conv fun k hk => ⟨by rw [List.length_take, hc]; exact Nat.min_eq_left (Nat.mul_le_mul_right _ hm), .inr ⟨b, c, _, rfl, hk, hm, hx, by simpa using hc, by simp⟩⟩
theorem Sat.own_cases {B : World} {w : World} {E sz m : Nat} {v : Value} {xs : List Value} (h : Sat B G (own E sz v m xs :: S) w) :
    xs.length = m * sz ∧ ((v = .slice none 0 0 ∧ m = 0) ∨ ∃ b c cs, v = .slice (some ⟨b, 0, none⟩) m c ∧ m ≤ c ∧ c ≤ maxLen ∧ cs.length = c * sz ∧ cs.take (m * sz) = xs ∧ Sat B G (Qd.box b E cs :: S) w) := by
  have hx := h.pureRes (p := xs.length = m * sz) (fun k hk => hk.1)
  refine ⟨hx, ?_⟩
  obtain ⟨mm, k, d, hw, hk, hg, h1, h2, d2, rfl, hr, hs⟩ := h.heap
  obtain ⟨_, ⟨rfl, rfl, _⟩ | ⟨b, c, cs, rfl, hb, h3, h4, h5, h6⟩⟩ := hr
  · exact .inl ⟨rfl, rfl⟩
  · refine .inr ⟨b, c, cs.toList, rfl, h3, h4, by simpa using h5, h6, ⟨h.os, h.tape, h.output, h.size, mm, _, d, hw, hk, hg, h1, h2, d2, rfl, ?_, hs⟩⟩
    simpa [Qd.box, blk] using hb

/-- What is appended, readable in a world. -/
def Src (w : World) (u : Value) (k : Nat) (news : List Value) : Prop :=
  (u = .slice none 0 0 ∧ k = 0 ∧ news = []) ∨ ∃ a c, u = .slice (some a) k c ∧ ∀ j x, news[j]? = some x → w.cell? (a.add j) = some x

theorem Sat.append {B : World} {w : World} {sz m k by_ : Nat} {xs news zs : List Value} (ty : TypeId) (h : Sat B G (own E sz v m xs :: S) w) (hsrc : Src w u k news) (hl : news.length = k * sz) (h1 : ∀ c ∈ news, c.oneCell' = true)
    (hT : P.underlying T = some (.slice E)) (hsz : tsz P E = some sz) (hz : tz P E = some zs) (hzl : zs.length = sz) (hby : tby P E = some by_) (hfit : (m + k) * by_ ≤ 140737488355328) (h63 : m + k ≤ maxLen) :
    ∃ v' w', (Builtin.append_ #[T, T] ty #[v, u]).run P w = .ok v' w' ∧ Sat B G (own E sz v' (m + k) (xs ++ news) :: S) w' := by
  obtain ⟨i, z, hi, hzz, hzc⟩ := info_of_tz hz
  have his : i.size = sz := by obtain ⟨i', hi', e⟩ := info_of_tsz hsz; rw [hi] at hi'; cases hi'; exact e
  have hib : i.bytes = by_ := by simpa [tby, hi] using hby
  have hmax : m + k ≤ 9223372036854775807 := by simpa [maxLen] using h63
  obtain ⟨hx, hc⟩ := h.own_cases
  have hlen : (xs ++ news).length = (m + k) * sz := by rw [List.length_append, hx, hl, Nat.add_mul]
  have hzs : z.cells.size = sz := by rw [← hzl, ← hzc]; simp
  rcases hsrc with ⟨rfl, rfl, rfl⟩ | ⟨a, ca, rfl, hn⟩
  · refine ⟨v, w, ?_, by simpa using h⟩
    rcases hc with ⟨rfl, rfl⟩ | ⟨b, c, cs, rfl, h2, h3, h4, h5, h6⟩
    · simp [Builtin.append_, run_underlying hT, sizeOf, typeInfo, hi, Builtin.lenOf, Builtin.firstCells]
    · simp [Builtin.append_, run_underlying hT, sizeOf, typeInfo, hi, Builtin.lenOf, Builtin.firstCells, h2, storeCells]
  · have newB : ∀ (olds : List Value) (cap : Nat), olds = xs → (cap = grownCap w (m + k) 0 E ∨ ∃ o, cap = grownCap w (m + k) o E) → Sat B G S w →
        Sat B G (own E sz (.slice (some ⟨w.heap.size, 0, none⟩) (m + k) cap) (m + k) (xs ++ news) :: S) (w.drew.alloc (.cells (olds.toArray ++ news.toArray ++ Builtin.zeroCells z.cells (cap - (m + k))) E)) := by
      rintro olds cap rfl hcap hs
      have hge : m + k ≤ cap := by rcases hcap with rfl | ⟨o, rfl⟩ <;> exact grownCap_ge _ _ _ _
      have hcm : cap ≤ maxLen := by rcases hcap with rfl | ⟨o, rfl⟩ <;> exact grownCap_le_maxLen _ _ _ _ h63
      have ha := hs.drew.alloc (.cells (olds.toArray ++ news.toArray ++ Builtin.zeroCells z.cells (cap - (m + k))) E)
      refine ha.conv fun q hq => ⟨hlen, .inr ⟨w.heap.size, cap, _, rfl, hq, hge, hcm, ?_, ?_⟩⟩
      · have e : (olds.toArray ++ news.toArray).size = (m + k) * sz := by simpa using hlen
        rw [Array.size_append, e, size_zeroCells, hzs, ← Nat.add_mul]; congr 1; omega
      · simp only [Array.toList_append]
        rw [← hlen]; exact List.take_left
    rcases hc with ⟨rfl, rfl⟩ | ⟨b, c, cs, rfl, h2, h3, h4, h5, h6⟩
    · have hx0 : xs = [] := List.eq_nil_of_length_eq_zero (by simpa using hx)
      subst hx0
      by_cases hk : k = 0
      · subst hk
        have hn0 : news = [] := List.eq_nil_of_length_eq_zero (by simpa using hl)
        subst hn0
        exact ⟨.slice none 0 0, w, by simp [Builtin.append_, run_underlying hT, sizeOf, typeInfo, hi, Builtin.lenOf, Builtin.firstCells, loadCells, loadCellsFrom], by simpa using h⟩
      · have hr := run_append_nil (P := P) w T ty E i z hT hi hzz a k ca news (by rw [his]; exact hl) hn (by omega) (by omega) (by rw [hib]; simp only [Nat.zero_add] at hfit; omega)
        refine ⟨_, _, hr, ?_⟩
        have := newB [] (grownCap w (0 + k) 0 E) rfl (.inl rfl) h.drop
        simpa using this
    · by_cases hroom : m + k ≤ c
      · have hfit2 : m * i.size + news.length ≤ cs.toArray.size := by rw [his, hl, ← Nat.add_mul]; simpa [h4] using Nat.mul_le_mul_right _ hroom
        have hr := run_append_room (P := P) w T ty E i hT hi b m c cs.toArray (by simpa [Qd.box] using h6.at) a k ca news (by rw [his]; exact hl) hn h1 hroom hfit2
        refine ⟨_, _, hr, ?_⟩
        have hb := h6.box_set (cs' := cs.take (m * sz) ++ news ++ cs.drop (m * sz + news.length)) .here
        have hb2 := hb.ownBox (c := c) (sz := sz) (m := m + k) (by
          have : m * sz + news.length ≤ cs.length := by rw [hl, ← Nat.add_mul, h4]; exact Nat.mul_le_mul_right _ hroom
          simp only [List.length_append, List.length_take, List.length_drop]; omega) hroom h3
        rw [his]
        have e : (cs.take (m * sz) ++ news ++ cs.drop (m * sz + news.length)).take ((m + k) * sz) = xs ++ news := by
          rw [h5, ← hlen]; exact List.take_left
        rw [e] at hb2
        exact hb2
      · have holds : ∀ j u, xs[j]? = some u → w.cell? ((⟨b, 0, none⟩ : Addr).add j) = some u := fun j u hj => by
          rw [Addr.add_none, h6.box_cell .here, Nat.zero_add]
          rw [← h5, List.getElem?_take] at hj
          split at hj
          · exact hj
          · cases hj
        have hr := run_append_grow (P := P) w T ty E i z hT hi hzz ⟨b, 0, none⟩ m c xs (by rw [his]; exact hx) holds a k ca news (by rw [his]; exact hl) hn (by omega) (by omega) (by rw [hib]; exact growslice_fits (by omega) hfit)
        exact ⟨_, _, hr, newB xs _ rfl (.inr ⟨c, rfl⟩) h.drop⟩

/-- What an append's second operand is. -/
structure AppV (P : Program) (n : Nat) (L : List Oper) (Q : Exit → Act → World → Prop) (rest : List Oper) (B : Base) (env : Env) (G : List Pers) (S : List Res) (d : Nat) (T : TypeId) (v u : Value) : Prop where
  go : ∀ ty a w, St n B.ds env a → Sat B G S w → ∃ v' w', (Builtin.append_ #[T, T] ty #[v, u]).run P w = .ok v' w' ∧ ∀ (a' : Act), St n B.ds ((d, v') :: env) a' → wpList P L.toArray Q rest a' w'
theorem WL.append (hx : env.ev x = some v) (hy : env.ev y = some u) (hd : Nat.blt d n = true) (h : AppV P n L Q rest B env G S d T v u) :
    WL P n L Q (⟨some d, .call ⟨.builtin .append, #[x, y], #[T, T]⟩, ty, pos, af, none⟩ :: rest) B env G S := by
  refine ⟨fun a w sa sw => wpList_plain rfl fun K hK => ?_⟩
  obtain ⟨v', w', hr, hh⟩ := h.go ty a w sa sw
  unfold Oper.wp
  have r1 : (execOp a.eval ⟨some d, .call ⟨.builtin .append, #[x, y], #[T, T]⟩, ty, pos, af, none⟩).run P w = .ok (.value v') w' := by
    simp [execOp, resolve, invoke, builtin, sa.ev hx, sa.ev hy, hr]
  rw [r1, Oper.upon_value]
  exact hK _ _ (hh _ (sa.put hd v'))
/-- The source is a fresh slice of the call's own, which is let go. -/
theorem AppV.own {sz m k by_ : Nat} {xs news zs : List Value} (hS : S.Perm (own E sz v m xs :: own E' sz u k news :: S')) [hT : TU P T (.slice E)] [hsz : TS P E sz] [hz : TZ P E zs] (hzl : Nat.beq zs.length sz = true) [hby : TB P E by_]
    (hfit : (m + k) * by_ ≤ 140737488355328) (h63 : m + k ≤ 9223372036854775807) (h1 : ∀ w, Sat B G S w → ∀ c ∈ news, c.oneCell' = true)
    (h : ∀ v', WL P n L Q rest B ((d, v') :: env) G (own E sz v' (m + k) (xs ++ news) :: S')) : AppV P n L Q rest B env G S d T v u := by
  refine ⟨fun ty a w sa sw => ?_⟩
  have sw' := sw.perm hS
  have sw1 : Sat B G (Qd.own E sz v m xs :: S') w := by
    have : Sat B G (Qd.own E sz v m xs :: Qd.own E' sz u k news :: S') w := sw'
    exact (this.perm (.swap _ _ _)).drop
  have hsrc : Src w u k news ∧ news.length = k * sz := by
    have : Sat B G (Qd.own E' sz u k news :: Qd.own E sz v m xs :: S') w := sw'.perm (.swap _ _ _)
    obtain ⟨hl, ⟨rfl, rfl⟩ | ⟨b, c, cs, rfl, h2, h3, h4, h5, h6⟩⟩ := this.own_cases
    · exact ⟨.inl ⟨rfl, rfl, List.eq_nil_of_length_eq_zero (by simpa using hl)⟩, hl⟩
    · refine ⟨.inr ⟨_, c, rfl, fun j x hj => ?_⟩, hl⟩
      rw [Addr.add_none, h6.box_cell .here, Nat.zero_add]
      rw [← h5, List.getElem?_take] at hj
      split at hj
      · exact hj
      · cases hj
  obtain ⟨v', w', hr, hs⟩ := sw1.append (P := P) (T := T) ty hsrc.1 hsrc.2 (h1 w sw) hT.h hsz.h hz.h (Nat.eq_of_beq_eq_true hzl) hby.h hfit (by simpa [maxLen] using h63)
  exact ⟨v', w', hr, fun a' sa' => (h v').go a' w' sa' hs⟩
/-- The source reads as a list. -/
theorem AppV.sl {sz m by_ : Nat} {xs zs : List Value} {f : α → Value} {ok : α → Prop} [R.Is f ok] (hm : rd (Ty.sl R) l u ∈ G) (hS : Sel S (Qd.own E sz v m xs) S') (hR : R.sz = sz) [hT : TU P T (.slice E)] [hsz : TS P E sz] [hz : TZ P E zs] (hzl : Nat.beq zs.length sz = true) [hby : TB P E by_]
    (hfit : (m + l.length) * by_ ≤ 140737488355328) (h63 : m + l.length ≤ 9223372036854775807)
    (h : (∀ a ∈ l, ok a) → ∀ v', WL P n L Q rest B ((d, v') :: env) G (Qd.own E sz v' (m + l.length) (xs ++ flat (l.map f)) :: S')) : AppV P n L Q rest B env G S d T v u := by
  refine ⟨fun ty a w sa sw => ?_⟩
  obtain ⟨mm, k', dj, hw, hk', hg, hs1⟩ := sw.heap
  obtain ⟨p, c, vs, rfl, hlc, hc, hall, hp⟩ := slRel.cells (hg _ hm) hw
  have hl := hall.flat_length
  have h1 := hall.ones
  obtain ⟨rfl, hok⟩ := AllR.is.1 hall
  have hsrc : Src w (.slice p l.length c) l.length (flat (l.map f)) := by
    rcases hp with ⟨rfl, _, h0⟩ | ⟨b, o, rfl, hcell⟩
    · cases p with
      | none => rw [h0 rfl]; exact .inl ⟨rfl, rfl, by simp [flat]⟩
      | some p => exact .inr ⟨p, c, rfl, fun j x hj => by simp [flat] at hj⟩
    · exact .inr ⟨_, c, rfl, fun j x hj => by rw [Addr.add_none]; exact hcell j x hj⟩
  obtain ⟨v', w', hr, hs⟩ := (sw.perm hS.perm).append (P := P) (T := T) ty hsrc (by rw [hl, hR]) h1 hT.h hsz.h hz.h (Nat.eq_of_beq_eq_true hzl) hby.h hfit (by simpa [maxLen] using h63)
  exact ⟨v', w', hr, fun a' sa' => (h hok v').go a' w' sa' hs⟩
/-- The first operand is nil: it is the call's own. -/
theorem AppV.nil (E sz : Nat) (h : AppV P n L Q rest B env G (Qd.own E sz (.slice none 0 0) 0 [] :: S) d T (.slice none 0 0) u) : AppV P n L Q rest B env G S d T (.slice none 0 0) u :=
  ⟨fun ty a w sa sw => h.go ty a w sa (sw.ownNil E sz)⟩

/-! ### A slice written out; a slice made -/
theorem lset_cons : ∀ (l : List Value) (o : Nat) (c : Value) (cs : List Value), lset l o (c :: cs) = lset (l.set o c) (o + 1) cs
  | [], o, c, cs => by cases cs <;> simp [lset]
  | _ :: l, 0, c, cs => by
    cases cs with
    | nil => simp [lset, lset_nil]
    | cons d cs => simp [lset]
  | x :: l, o + 1, c, cs => by
    have := lset_cons l o c cs
    cases cs with
    | nil => simp [lset, lset_nil] at this ⊢; exact this
    | cons d cs => simp [lset] at this ⊢; exact this
theorem fold_set : ∀ (cs : List Value) (k : Nat) (arr : Array Value) (off : Nat), (cs.zipIdx k).foldl (fun a (p : Value × Nat) => a.setIfInBounds (off + p.2) p.1) arr = (lset arr.toList (off + k) cs).toArray
  | [], k, arr, off => by simp [lset_nil]
  | c :: cs, k, arr, off => by
    rw [List.zipIdx_cons, List.foldl_cons, fold_set cs (k + 1), lset_cons]
    simp [Nat.add_assoc]
theorem fillAll {sz : Nat} : ∀ (vs : List Value) (j : Nat) (l : List Value), (∀ v ∈ vs, v.cells.toList.length = sz) → l.length = (j + vs.length) * sz →
    Instr.fill (fun i => some (i * sz, sz)) l.toArray ((List.range' j vs.length).zip vs) = some (l.take (j * sz) ++ flat vs).toArray
  | [], j, l, _, hl => by simp [Instr.fill, flat] at hl ⊢; rw [List.take_of_length_le (by omega)]
  | v :: vs, j, l, hv, hl => by
    have h1 := hv v (.head _)
    have h2 : v.cells.size = sz := by simpa using h1
    have e1 : (j + (v :: vs).length) * sz = j * sz + sz + vs.length * sz := by simp only [List.length_cons, Nat.add_mul, Nat.one_mul]; omega
    have hb : j * sz + v.cells.toList.length ≤ l.length := by rw [hl, h1, e1]; omega
    rw [List.length_cons, List.range'_succ, List.zip_cons_cons]
    simp only [Instr.fill]
    rw [if_neg (by simp [h2]; rw [hl, e1]; omega)]
    rw [← Array.foldl_toList, Array.toList_zipIdx, fold_set, Nat.add_zero, lset_eq _ _ _ (by simpa using hb)]
    have ih := fillAll vs (j + 1) (l.take (j * sz) ++ v.cells.toList ++ l.drop (j * sz + v.cells.toList.length)) (fun x hx => hv x (.tail _ hx)) (by
      simp only [List.length_append, List.length_take, List.length_drop, h1, hl, e1]
      rw [show (j + 1 + vs.length) * sz = j * sz + sz + vs.length * sz from by simp only [Nat.add_mul, Nat.one_mul]]
      omega)
    have e2 : (l.take (j * sz) ++ v.cells.toList ++ l.drop (j * sz + v.cells.toList.length)).take ((j + 1) * sz) = l.take (j * sz) ++ v.cells.toList := by
      rw [show (j + 1) * sz = (l.take (j * sz) ++ v.cells.toList).length from by
        simp only [List.length_append, List.length_take, h1, Nat.add_mul, Nat.one_mul]; omega]
      exact List.take_left
    rw [e2] at ih
    rw [ih, flat_cons, List.append_assoc]
def upto : Nat → List Operand → List (Nat × Operand)
  | _, [] => []
  | i, x :: xs => (i, x) :: upto (i + 1) xs
theorem upto_ev (f : Operand → Value) : ∀ (xs : List Operand) (i : Nat), (upto i xs).map (fun p => (p.1, f p.2)) = (List.range' i xs.length).zip (xs.map f)
  | [], i => rfl
  | x :: xs, i => by simp [upto, upto_ev f xs, List.range'_succ]
theorem WL.buildSlice {k sz : Nat} {ops : List (Nat × Operand)} {vs : List Value} {zs : List Value} (ho : upto 0 (ops.map (·.2)) = ops) (hx : env.evs (ops.map (·.2)) = some vs) (hk : vs.length = k) [hT : TU P T (.slice E)] [hsz : TS P E sz] [hz : TZ P E zs] (hzl : Nat.beq zs.length sz = true) (hpos : Nat.ble 1 sz = true)
    (hb : Nat.ble (k * sz) 16777216 = true) (hc : ∀ w, Sat B G S w → ∀ v ∈ vs, v.cells.toList.length = sz) (hd : Nat.blt d n = true)
    (h : ∀ v, WL P n L Q rest B ((d, v) :: env) G (Qd.own E sz v k (flat vs) :: S)) :
    WL P n L Q (⟨some d, .buildSlice T k ops.toArray, ty, pos, af, none⟩ :: rest) B env G S := by
  obtain ⟨xs, hxs⟩ : ∃ xs, xs = ops.map (·.2) := ⟨_, rfl⟩
  rw [← hxs] at ho hx
  subst ho
  subst hk
  have hk' : vs.length * sz ≤ 16777216 := by simpa [Nat.ble_eq] using hb
  have hpos' : 1 ≤ sz := by have := hpos; simp only [Nat.ble_eq] at this; exact this
  have hT := hT.h
  have hsz := hsz.h
  have hzl := Nat.eq_of_beq_eq_true hzl
  obtain ⟨i, z, hi, hzz, hzc⟩ := info_of_tz hz.h
  refine .valW (I := Value) (v := fun v => v) (G' := fun _ => G) (S' := fun v => Qd.own E sz v vs.length (flat vs) :: S) rfl rfl hd (fun a w sa sw => ?_) h
  have hall : ∀ v ∈ vs, v.cells.toList.length = sz := hc w sw
  have hfl : (flat vs).length = vs.length * sz := by
    clear hx hb hk' hc h
    induction vs with
    | nil => simp [flat]
    | cons v vs ih => rw [flat_cons, List.length_append, ih (fun x hx => hall x (.tail _ hx)), hall v (.head _), List.length_cons, Nat.add_mul]; omega
  refine ⟨.slice (some ⟨w.heap.size, 0, none⟩) vs.length vs.length, w.alloc (.cells (flat vs).toArray E), ?_, ?_⟩
  · have hev := sa.evs hx
    have hops : ((upto 0 xs).map fun p => (p.1, a.eval p.2)) = (List.range' 0 vs.length).zip vs := by
      rw [upto_ev a.eval xs 0, hev, ← hev, List.length_map]
    have hzs : z.cells.size = sz := by rw [← hzl, ← hzc]; simp
    have hrun : ∀ (init : Array Value), init.size = vs.length * sz → Instr.fill (fun i => some (i * sz, sz)) init ((List.range' 0 vs.length).zip vs) = some (flat vs).toArray := by
      intro init hin
      have := fillAll (sz := sz) vs 0 init.toList hall (by simpa using hin)
      simpa using this
    have hbs : (Instr.buildSlice T vs.length (((upto 0 xs).map fun p => (p.1, a.eval p.2)).toArray)).run P w = .ok (.slice (some ⟨w.heap.size, 0, none⟩) vs.length vs.length) (w.alloc (.cells (flat vs).toArray E)) := by
      rw [hops]
      have hn' : ¬ (16777216 < vs.length * sz) := by omega
      by_cases hk0 : vs.length * sz = 0
      · have := hrun #[] (by simp [hk0])
        simp [Instr.buildSlice, run_underlying hT, run_sizeOf_of w hsz, newRow, hk0, Array.range_zero', this]
      · have := hrun ((Array.range (vs.length * sz)).map (z.cells[· % z.cells.size]!)) (by simp)
        simp [Instr.buildSlice, run_underlying hT, run_sizeOf_of w hsz, newRow, hk0, hn', zeroValue, typeInfo, hi, hzz, this]
    simp only [execOp, List.map_toArray]
    rw [Sem.run_bind]
    erw [hbs]
    rfl
  · have := sw.alloc (.cells (flat vs).toArray E)
    have := Sat.ownBox (B := B) (G := G) (S := S) (b := w.heap.size) (E := E) (sz := sz) (c := vs.length) (m := vs.length) (cs := flat vs) this hfl (Nat.le_refl _) (by
      have : vs.length ≤ vs.length * sz := Nat.le_mul_of_pos_right _ hpos'
      simp only [maxLen]; omega)
    rwa [List.take_of_length_le (by omega)] at this

theorem LenV.own {sz m : Nat} {xs : List Value} (hm : Sel S (Qd.own E' sz u m xs) S') [hT : TU P T (.slice E)] (h : WL P n L Q rest B ((d, .int .i64 m) :: env) G S) : LenV P n L Q rest B env G S d T u :=
  ⟨_, fun ty w sw => by
    obtain ⟨p, c, rfl, _⟩ := (sw.perm hm.perm).pureRes (fun k hk => hk.shape)
    simp [Builtin.len_, run_underlying hT.h, goInt], h⟩
theorem one_rd {B : World} (hm : rd R a v ∈ G) (hR : R.agg = false) : ∀ w, Sat B G S w → v.oneCell' = true := fun w sw => by
  obtain ⟨m, h, _⟩ := sw.rd hm
  have := R.form h
  rw [hR] at this
  simpa using this
theorem one_own {B : World} {sz m : Nat} {xs : List Value} (hm : Sel S (Qd.own E' sz v m xs) S') : ∀ w, Sat B G S w → v.oneCell' = true := fun w sw => by
  obtain ⟨p, c, rfl, _⟩ := (sw.perm hm.perm).pureRes (fun k hk => hk.shape)
  rfl
/-- A slice of the call's own becomes known for good. -/
theorem Sat.pub {B : World} {w : World} {sz m : Nat} {xs : List Value} {f : α → Value} {ok : α → Prop} [R.Is f ok] (h : Sat B G S w) (hm : Sel S (Qd.own E sz v m xs) S') (hR : R.sz = sz) (hxs : xs = flat (l.map f)) (hml : m = l.length) (hok : ∀ a ∈ l, ok a) : Sat B (Qd.rd (Ty.sl R) l v :: G) S' w := by
  refine (h.perm hm.perm).publish (g := Qd.rd (Ty.sl R) l v) fun k hk => ?_
  subst hml
  obtain ⟨_, ⟨rfl, h0, _⟩ | ⟨b, c, cs, rfl, rfl, h1, h2, h3, h4⟩⟩ := hk
  · exact .inl ⟨List.eq_nil_of_length_eq_zero h0, none, 0, rfl, by simp, fun _ => rfl⟩
  · refine .inr ⟨b, 0, c, cs, E, (0, 0), l.map f, rfl, by simp [Hp.one], h1, h2, AllR.is.2 ⟨rfl, hok⟩, ?_⟩
    rw [List.drop_zero, hR, h4, hxs]
theorem flat_map_one {f : α → Value} (h : ∀ a, (f a).oneCell' = true) : ∀ l : List α, flat (l.map f) = l.map f
  | [] => rfl
  | a :: l => by rw [List.map_cons, flat_cons, flat_map_one h l, one_cells (h a)]; rfl
theorem WL.sat {l : List Oper} {G' : List Pers} {S' : List Res} (hs : ∀ w, Sat B G S w → Sat B G' S' w) (h : WL P n L Q l B env G' S') : WL P n L Q l B env G S := h.conv .refl hs
theorem WC.sat {c : Code} {G' : List Pers} {S' : List Res} (hs : ∀ w, Sat B G S w → Sat B G' S' w) (h : WC P n c Q B env G' S') : WC P n c Q B env G S := h.conv .refl hs
theorem WX.sat {e : Exit} {G' : List Pers} {S' : List Res} (hs : ∀ w, Sat B G S w → Sat B G' S' w) (h : WX n Q e B env G' S') : WX n Q e B env G S := h.conv .refl hs

/-- An element's address alone. -/
structure IdxV (P : Program) (n : Nat) (L : List Oper) (Q : Exit → Act → World → Prop) (rest : List Oper) (B : Base) (env : Env) (G : List Pers) (S : List Res) (d : Nat) (T : TypeId) (v i : Value) : Prop where
  go : ∀ w, Sat B G S w → ∃ p, (Instr.indexAt T v i).run P w = .ok p w ∧ ∃ G', Sat B G' S w ∧ WL P n L Q rest B ((d, p) :: env) G' S
theorem WL.idx (hx : env.ev x = some v) (hy : env.ev y = some v') (hd : Nat.blt d n = true) (h : IdxV P n L Q rest B env G S d T v v') : WL P n L Q (⟨some d, .indexAddr T x y, ty, pos, af, none⟩ :: rest) B env G S := by
  refine ⟨fun ac w sa sw => wpList_plain rfl fun K hK => ?_⟩
  obtain ⟨p, h1, G', sw', hh⟩ := h.go w sw
  unfold Oper.wp
  have r1 : (execOp ac.eval ⟨some d, .indexAddr T x y, ty, pos, af, none⟩).run P w = .ok (.value p) w := by simp [execOp, sa.ev hx, sa.ev hy, h1]
  rw [r1, Oper.upon_value]
  exact hK _ _ (hh.go _ _ (sa.put hd p) sw')
theorem run_index_cell {w : World} {m : Hp} (hr : slRel R l v m) {k : Nat} (hk : l[k]? = some a) (kd : IntKind) (hT : P.underlying T = some (.slice E')) (hs' : tsz P E' = some R.sz) :
    ∃ p, (Instr.indexAt T v (.int kd k)).run P w = .ok p w ∧ (pcell R a p).holds m := by
  have hkl : k < l.length := (List.getElem?_eq_some_iff.1 hk).1
  rcases hr with ⟨rfl, _⟩ | ⟨b, o, c, cs, E, fr, vs, rfl, h2, h3, h4, h5, h6⟩
  · simp at hkl
  obtain ⟨u, hu, hr⟩ := h5.get hk
  have hT' : P.underlying T = some (.slice (P.elem T)) := by simp [Program.elem, hT]
  have hel : P.elem T = E' := by simp [Program.elem, hT]
  refine ⟨.pointer (some ⟨b, o + k * R.sz, none⟩), ?_, b, o + k * R.sz, cs, E, fr, u, rfl, h2, hr, fun j cc hj => ?_⟩
  · rw [run_indexAt_slice w T _ _ _ _ _ hT', if_pos (by omega), hel, run_sizeOf_of w hs']
    simp [Addr.add_none]
  · have := h5.cell hu hj
    rw [← h6, List.getElem?_take] at this
    split at this
    · rw [Nat.add_assoc]; simpa using this
    · cases this
theorem IdxV.sl {k : Nat} {kd : IntKind} (hm : Qd.rd (Ty.sl R) l v ∈ G) (hk : l[k]? = some a) {sa : Nat} [hT : TU P T (.slice E')] [hs' : TS P E' sa] (e1 : sa = R.sz)
    (h : ∀ p, WL P n L Q rest B ((d, p) :: env) (pcell R a p :: G) S) : IdxV P n L Q rest B env G S d T v (.int kd (k : Int)) := by
  refine ⟨fun w sw => ?_⟩
  obtain ⟨m, k', dj, hw, hk', hg, hs1⟩ := sw.heap
  obtain ⟨p, h1, h3⟩ := run_index_cell (P := P) (T := T) (w := w) (hg _ hm) hk kd hT.h (e1 ▸ hs'.h)
  refine ⟨p, h1, pcell R a p :: G, ⟨sw.os, sw.tape, sw.output, sw.size, m, k', dj, hw, hk', fun g hgg => ?_, hs1⟩, h p⟩
  cases hgg with
  | head => exact h3
  | tail _ hgg => exact hg g hgg
/-- A load where what is known for good grows. -/
structure LodV (P : Program) (n : Nat) (L : List Oper) (Q : Exit → Act → World → Prop) (rest : List Oper) (B : Base) (env : Env) (G : List Pers) (S : List Res) (d : Nat) (T : TypeId) (u : Value) : Prop where
  go : ∀ w, Sat B G S w → ∃ r, (Instr.loadAt T u).run P w = .ok r w ∧ ∃ G', Sat B G' S w ∧ WL P n L Q rest B ((d, r) :: env) G' S
theorem WL.lod (hx : env.ev x = some v) (hd : Nat.blt d n = true) (h : LodV P n L Q rest B env G S d T v) : WL P n L Q (⟨some d, .load T x, ty, pos, af, none⟩ :: rest) B env G S := by
  refine ⟨fun ac w sa sw => wpList_plain rfl fun K hK => ?_⟩
  obtain ⟨r, h1, G', sw', hh⟩ := h.go w sw
  unfold Oper.wp
  have r1 : (execOp ac.eval ⟨some d, .load T x, ty, pos, af, none⟩).run P w = .ok (.value r) w := by simp [execOp, sa.ev hx, h1]
  rw [r1, Oper.upon_value]
  exact hK _ _ (hh.go _ _ (sa.put hd r) sw')
theorem run_load_cell {w : World} {m : Hp} (hp : (pcell R a v).holds m) (hw : ∀ (b : Nat) (o : Obj), m b = some o → w.heap[b]? = some o) (hs : tsz P T = some R.sz) (hE : aggT P T = some R.agg) :
    ∃ u, (Instr.loadAt T v).run P w = .ok u w ∧ R.rel a u m := by
  obtain ⟨b, o, cs, E, fr, u, rfl, h2, hr, hc⟩ := hp
  have hcells : ∀ j cc, u.cells.toList[j]? = some cc → w.cell? ⟨b, o + j, none⟩ = some cc := fun j cc hj => by
    rw [cell_of_row w b (o + j) cs E fr (hw _ _ h2)]; exact hc j cc hj
  have hf := R.form hr
  have hsz := R.size hr
  refine ⟨u, ?_, hr⟩
  cases hagg : R.agg with
  | true =>
    rw [hagg] at hf hE
    obtain ⟨cs, rfl⟩ := (by simpa using hf : ∃ cs, u = .agg cs)
    have := run_loadVar_agg (P := P) (T := T) w (a := ⟨b, o, none⟩) (cs := cs.toList) hE (by rw [hs]; simpa [Value.cells] using hsz.symm) (fun j cc hj => by
      rw [Addr.add_none]; exact hcells j cc (by simpa [Value.cells] using hj))
    simpa [Instr.loadAt, Instr.sureAddr] using this
  | false =>
    rw [hagg] at hf hE
    have h1 : u.oneCell' = true := by simpa using hf
    simpa [Instr.loadAt, Instr.sureAddr] using run_loadVar_plain w hE (by simpa using hcells 0 u (by rw [one_cells h1]; rfl))
theorem LodV.cell (hm : pcell R a v ∈ G) {sb : Nat} {ag : Bool} [hs : TS P T sb] [hE : TA P T ag] (e2 : sb = R.sz) (e3 : ag = R.agg)
    (h : ∀ u, WL P n L Q rest B ((d, u) :: env) (Qd.rd R a u :: G) S) : LodV P n L Q rest B env G S d T v := by
  refine ⟨fun w sw => ?_⟩
  obtain ⟨m, k', dj, hw, hk', hg, hs1⟩ := sw.heap
  obtain ⟨u, h1, h3⟩ := run_load_cell (P := P) (T := T) (hg _ hm) hw (e2 ▸ hs.h) (e3 ▸ hE.h)
  refine ⟨u, h1, Qd.rd R a u :: G, ⟨sw.os, sw.tape, sw.output, sw.size, m, k', dj, hw, hk', fun g hgg => ?_, hs1⟩, h u⟩
  cases hgg with
  | head => exact h3
  | tail _ hgg => exact hg g hgg
theorem LodV.cellIs {f : α → Value} {ok : α → Prop} (hm : pcell R a v ∈ G) [hR : R.Is f ok] {sb : Nat} {ag : Bool} [hs : TS P T sb] [hE : TA P T ag] (e2 : sb = R.sz) (e3 : ag = R.agg)
    (h : ok a → WL P n L Q rest B ((d, f a) :: env) G S) : LodV P n L Q rest B env G S d T v := by
  refine .cell hm e2 e3 (fun u => ⟨fun ac w sa sw => ?_⟩)
  have hu : u = f a ∧ ok a := sw.pure fun m hm => (Ty.Is.iff _ _ _).1 (hm (Qd.rd R a u) (.head _))
  obtain ⟨rfl, ho⟩ := hu
  exact (h ho).go ac w sa (sw.sub fun g hg => .tail _ hg)

/-- A slice of the call's own becomes known for good, its elements read by what is known. -/
theorem Sat.pubR {B : World} {w : World} {sz m : Nat} {xs vs : List Value} (h : Sat B G S w) (hm : Sel S (Qd.own E sz v m xs) S') (hR : R.sz = sz) (hxs : xs = flat vs) (hml : m = l.length) (hall : ∀ mm, (∀ g ∈ G, g.holds mm) → AllR R l vs mm) : Sat B (Qd.rd (Ty.sl R) l v :: G) S' w := by
  have h' := h.perm hm.perm
  obtain ⟨mm, k, d, hw, hk, hg, h1, h2, d2, rfl, hr, hs⟩ := h'.heap
  rw [Hp.disj_union] at d
  have hle : Hp.le mm (Hp.union mm h1) := Hp.le_union_left _ _
  refine ⟨h.os, h.tape, h.output, h.size, Hp.union mm h1, h2, Hp.disj_comm (Hp.disj_union.2 ⟨Hp.disj_comm d.2, Hp.disj_comm d2⟩), ?_, fun b o e => hk b o (Hp.union_right d2 e), ?_, hs⟩
  · intro b o e
    rcases Hp.union_some e with e | e
    · exact hw b o e
    · exact hk b o (Hp.union_left e)
  · intro g hgg
    cases hgg with
    | tail _ hgg => exact g.mono _ _ hle (hg g hgg)
    | head =>
      subst hml
      obtain ⟨_, ⟨rfl, h0, _⟩ | ⟨b, c, cs, rfl, rfl, e1, e2, e3, e4⟩⟩ := hr
      · exact .inl ⟨List.eq_nil_of_length_eq_zero h0, none, 0, rfl, by simp, fun _ => rfl⟩
      · refine .inr ⟨b, 0, c, cs, E, (0, 0), vs, rfl, Hp.union_right d.1 (by simp [Hp.one]), e1, e2, (hall mm hg).mono hle, ?_⟩
        rw [List.drop_zero, hR, e4, hxs]
theorem AllR.mem {h : Hp} : ∀ {l : List α} {vs : List Value}, AllR R l vs h → ∀ a ∈ l, ∃ v, R.rel a v h
  | _ :: _, v :: _, ⟨x, _⟩, _, .head _ => ⟨v, x⟩
  | _ :: _, _ :: _, ⟨_, y⟩, a, .tail _ hm => AllR.mem y a hm
  | [], _ :: _, x, _, _ => x.elim
  | _ :: _, [], x, _, _ => x.elim
theorem Sat.all {B : World} {w : World} (h : Sat B G S w) (hm : Qd.rd (Ty.sl R) l v ∈ G) : ∃ m : Hp, ∀ a ∈ l, ∃ u, R.rel a u m := by
  obtain ⟨m, hr, hw⟩ := h.rd hm
  obtain ⟨_, _, vs, _, _, _, hall, _⟩ := slRel.cells hr hw
  exact ⟨m, hall.mem⟩
theorem Sat.lens_le {B : World} {w : World} {ls : List (List α)} (h : Sat B G S w) (hm : Qd.rd (Ty.sl (Ty.sl R)) ls v ∈ G) : ∀ l ∈ ls, l.length ≤ 9223372036854775807 := fun l hl => by
  obtain ⟨m, hall⟩ := h.all hm
  obtain ⟨u, hu⟩ := hall l hl
  obtain ⟨p, c, _, h1, h2, _⟩ := slRel.shape hu
  simp only [maxLen] at h2
  omega
theorem allR_nil : ∀ mm : Hp, (∀ g ∈ G, g.holds mm) → AllR R [] [] mm := fun _ _ => trivial
theorem allR_cons {vs : List Value} (hm : Qd.rd R a v ∈ G) (h : ∀ mm, (∀ g ∈ G, g.holds mm) → AllR R l vs mm) : ∀ mm, (∀ g ∈ G, g.holds mm) → AllR R (a :: l) (v :: vs) mm := fun mm hg => ⟨hg _ hm, h mm hg⟩
end
end Go.Qd
