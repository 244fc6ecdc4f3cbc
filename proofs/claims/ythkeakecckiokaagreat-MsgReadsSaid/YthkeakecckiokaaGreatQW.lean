import Derived.Test.YthkeakecckiokaaGreatQV
import Derived.Test.YthkeakecckiokaaGreatQPhase
namespace Go.Qd
open Go
/-! ### Arrays and slices of numbers, lying open -/
class OneG {α : Type} (g : α → Value) : Prop where
  h : ∀ a, (g a).oneCell' = true
instance : OneG uV := ⟨fun _ => rfl⟩
instance : OneG iV := ⟨fun _ => rfl⟩
section
variable {P : Program} {n : Nat} {Q : Exit → Act → World → Prop} {B : Base} {env : Env} {G : List Pers} {S S' : List Res} {L rest : List Oper} {K : Act → World → Prop}
variable {d sz : Nat} {ty : TypeId} {pos : String} {af : Array Edge} {x y z : Operand} {T T' E E' : TypeId} {u v v' : Value} {α β : Type} {R : Ty α} {l l' : List α} {a : α} {g : α → Value}
instance [hg : OneG g] : OnesC G S (l.map g) := ⟨fun _ _ _ u hu => by
  obtain ⟨a, _, rfl⟩ := List.mem_map.1 hu
  exact hg.h a⟩
instance (priority := 1500) {b s : Nat} [hm : SelBox b S E (l.map g) S'] [hT : TA P T true] [hs : TS P T s] : V (LodV P n L Q rest B env G S d T (.pointer (some ⟨b, 0, none⟩))) (Side (l.length = s) (WL P n L Q rest B ((d, .agg (l.map g).toArray) :: env) G S)) :=
  ⟨fun h => .of (.boxA hm.h (vs := l.map g) (by rw [List.drop_zero]; exact List.take_of_length_le (by rw [List.length_map, h.c]; exact Nat.le_refl _)) (by rw [List.length_map, h.c]) h.p)⟩
instance (priority := 1500) {b sz : Nat} {cs : List Value} [hm : SelBox b S E cs S'] [hs : TS P T sz] [i : OneG g] : V (StV P n L Q rest B env G S T (.pointer (some ⟨b, 0, none⟩)) (.agg (l.map g).toArray)) (Side (l.length = sz ∧ cs.length = sz) (WL P n L Q rest B env G (box b E (l.map g) :: S'))) :=
  ⟨fun h => .bA rfl (by simp [h.c.1]) (by simp [Nat.ble_eq, h.c.1, h.c.2]) (by
    rw [lset_eq _ _ _ (by simp [h.c.1, h.c.2])]
    have e : cs.drop (0 + (l.map g).length) = [] := List.drop_of_length_le (by simp [h.c.1, h.c.2])
    rw [e]; simpa using h.p)⟩
theorem StV.at (h1 : OneG g) {b o : Nat} [hm : SelBox b S E (l.map g) S'] [hs : TS P T 1] [hT : TA P T false] (ho : o < l.length) (h : WL P n L Q rest B env G (box b E ((l.set o a).map g) :: S')) : StV P n L Q rest B env G S T (.pointer (some ⟨b, o, none⟩)) (g a) := by
  refine .one hm.h (by simpa [Nat.blt_eq] using ho) (fun _ _ => h1.h a) ?_
  rw [← List.map_set]; exact h
instance (priority := 1500) {b o : Nat} {l : List Nat} {x : Nat} [hm : SelBox b S E (l.map uV) S'] [hs : TS P T 1] [hT : TA P T false] : V (StV P n L Q rest B env G S T (.pointer (some ⟨b, o, none⟩)) (.int .u64 ((x : Nat) : Int))) (Side (o < l.length) (WL P n L Q rest B env G (box b E ((l.set o x).map uV) :: S'))) := ⟨fun h => StV.at (g := uV) (a := x) inferInstance h.c h.p⟩
instance (priority := 1500) {b o : Nat} {l : List Int} {x : Int} [hm : SelBox b S E (l.map iV) S'] [hs : TS P T 1] [hT : TA P T false] : V (StV P n L Q rest B env G S T (.pointer (some ⟨b, o, none⟩)) (.int .i64 x)) (Side (o < l.length) (WL P n L Q rest B env G (box b E ((l.set o x).map iV) :: S'))) := ⟨fun h => StV.at (g := iV) (a := x) inferInstance h.c h.p⟩
theorem WL.allocA {zs : List Value} [hz : TZ P T zs] (l : List α) (g : α → Value) (he : zs = l.map g) (hd : Nat.blt d n = true) (h : ∀ b, WL P n L Q rest B ((d, .pointer (some ⟨b, 0, none⟩)) :: env) G (Qd.box b T (l.map g) :: S)) :
    WL P n L Q (⟨some d, .alloc T, ty, pos, af, none⟩ :: rest) B env G S := .alloc hd (by rw [he]; exact h)
/-! Arrays compared -/
theorem run_eqItems_map {e : TypeId} {w : World} (hc : P.cellsOf e = 1) (hA : aggT P e = some false) {f : α → Value} {q : Nat} (hf : ∀ a b, ∃ r : Bool, (Op.equalIn q e (f a) (f b)).run P w = .ok r w ∧ (r = true ↔ a = b)) (l l' : List α) :
    ∀ (is : List Nat), (∀ i ∈ is, i < l.length ∧ i < l'.length) → ∃ r : Bool, (Op.eqItems q e (P.cellsOf e) (l.map f).toArray (l'.map f).toArray is).run P w = .ok r w ∧ (r = true ↔ ∀ i ∈ is, l[i]? = l'[i]?)
  | [], _ => ⟨true, by simp [Op.eqItems], by simp⟩
  | i :: is, h => by
    obtain ⟨h1, h2⟩ := h i (.head _)
    obtain ⟨r', hr', hiff⟩ := run_eqItems_map hc hA hf l l' is (fun j hj => h j (.tail _ hj))
    obtain ⟨r, hr, hrf⟩ := hf l[i] l'[i]
    rw [hc] at hr' ⊢
    have p1 : (part e (l.map f).toArray (i * 1)).run P w = .ok (f l[i]) w := by simp [part, run_isAgg_of w hA, h1]
    have p2 : (part e (l'.map f).toArray (i * 1)).run P w = .ok (f l'[i]) w := by simp [part, run_isAgg_of w hA, h2]
    simp only [Op.eqItems, Sem.run_bind, p1, p2, Result.andThen_ok, hr]
    cases r with
    | true =>
      refine ⟨r', by simpa using hr', ?_⟩
      rw [hiff]
      simp [h1, h2, hrf.1 rfl]
    | false =>
      refine ⟨false, by simp, ?_⟩
      simp only [Bool.false_eq_true, false_iff]
      intro hh
      have := hh i (.head _)
      rw [List.getElem?_eq_getElem h1, List.getElem?_eq_getElem h2, Option.some.injEq] at this
      exact absurd (hrf.2 this) (by simp)
theorem cellsOf_of {s : Nat} [h : TS P E s] : P.cellsOf E = s := by
  have := h.h
  unfold tsz at this
  unfold Program.cellsOf
  rw [this]; rfl
theorem EqV.arr {f : α → Value} {k m : Nat} [hT : TU P T (.array m E)] [hs : TS P E 1] [hA : TA P E false] {l l' : List α} (hl : l.length = m) (hl' : l'.length = m) (hf : ∀ a b, EqV P E (f a) (f b) k (a = b)) : EqV P T (.agg (l.map f).toArray) (.agg (l'.map f).toArray) (k + 1) (l = l') := ⟨fun d hd w => by
  obtain ⟨d', rfl⟩ : ∃ d', d = d' + 1 := ⟨d - 1, by omega⟩
  obtain ⟨i, hi, _⟩ := info_of_tsz hs.h
  rw [run_equalIn_array w d' _ _ hT.h hi]
  obtain ⟨r, h1, h2⟩ := run_eqItems_map (w := w) (q := d') cellsOf_of hA.h (fun a b => (hf a b).h d' (by omega) w) l l' (List.range m) (fun i hi => by simp at hi; omega)
  refine ⟨r, h1, h2.trans ⟨fun h => ?_, fun h i _ => by rw [h]⟩⟩
  apply List.ext_getElem?
  intro i
  by_cases hi : i < m
  · exact h i (by simpa using hi)
  · rw [List.getElem?_eq_none (by omega), List.getElem?_eq_none (by omega)]⟩
instance {m : Nat} {l l' : List Nat} [hT : TU P T (.array m E)] [hs : TS P E 1] [hA : TA P E false] [hE : TU P E (.int .u64)] [hq : EQT P T] : V (BinV P n L Q rest B env G S d .eql T (.agg (l.map uV).toArray) (.agg (l'.map uV).toArray)) (Side (l.length = m ∧ l'.length = m) (WL P n L Q rest B ((d, .bool (decide (l = l'))) :: env) G S)) := ⟨fun h => by
  have : EqV P T (.agg (l.map uV).toArray) (.agg (l'.map uV).toArray) 10 (l = l') := EqV.arr h.c.1 h.c.2 (fun a b => ⟨fun d hd w => by
    obtain ⟨b', h1, h2⟩ := (inferInstance : EqV P E (.int .u64 (a : Int)) (.int .u64 (b : Int)) 1 ((a : Int) = b)).h d (by omega) w
    exact ⟨b', h1, h2.trans (by omega)⟩⟩)
  exact .eqa h.p⟩
/-! A box becomes a slice known for good -/
theorem Sat.pubBox {B : World} {w : World} {b c : Nat} {f : α → Value} {ok : α → Prop} [R.Is f ok] {l : List α} (h : Sat B G S w) [hm : SelBox b S E (l.map f) S'] (h1 : R.sz = 1) (hf : OneG f) (hc : c = l.length) (hx : c ≤ maxLen) (hok : ∀ a ∈ l, ok a) : Sat B (Qd.rd (Ty.sl R) l (.slice (some ⟨b, 0, none⟩) c c) :: G) S' w := by
  subst hc
  have h2 := (h.perm hm.h.perm).ownBox (sz := 1) (c := l.length) (m := l.length) (by simp) (Nat.le_refl _) hx
  refine h2.pub (R := R) (l := l) .here h1 ?_ rfl hok
  rw [flat_map_one hf.h]
  rw [List.take_of_length_le (by simp)]
/-! The first places of an array, as a slice; and appended -/
theorem WL.slArr {b m : Nat} {kh : IntKind} {i : Int} {hi : Operand} (hx : env.ev x = some (.pointer (some ⟨b, 0, none⟩))) (hh : env.ev hi = some (.int kh i)) [hA : TU P T (.array m E)] [hs : TS P E 1] (j : Nat) (hj : i = (j : Int)) (hjm : j ≤ m) (hm0 : 0 < m) (hd : Nat.blt d n = true)
    (h : WL P n L Q rest B ((d, .slice (some ⟨b, 0, none⟩) j m) :: env) G S) : WL P n L Q (⟨some d, .slice T x none (some hi) none, ty, pos, af, none⟩ :: rest) B env G S := by
  subst hj
  refine .val rfl rfl hd (fun a w sa _ => ?_) h
  have hT' : P.underlying T = some (.array (P.arrayLen T) (P.elem T)) := by simp [Program.elem, Program.arrayLen, hA.h]
  have hel : P.elem T = E := by simp [Program.elem, hA.h]
  have hl : P.arrayLen T = m := by simp [Program.arrayLen, hA.h]
  have := run_sliceAt_array_h w T ⟨b, 0, none⟩ hT' kh j (by omega) (by rw [hl]; omega)
  rw [hel, run_sizeOf_of w hs.h, hl] at this
  simp [execOp, sa.ev hx, sa.ev hh, this, slicedAt]
  intro _; rfl
theorem Sat.drop' {B : World} {w : World} {r : Res} (h : Sat B G S w) (hm : Sel S r S') : Sat B G S' w := (h.perm hm.perm).drop
theorem AppV.b {sz m j c by_ b : Nat} {xs zs : List Value} {S1 S2 : List Res} {Eb : TypeId} [hg : OneG g] [h1 : SelOwn v S E sz m xs S1] [h2 : SelBox b S1 Eb (l.map g) S2] [hT : TU P T (.slice E)] [hsz : TS P E sz] [hz : TZ P E zs] [hby : TB P E by_] (hzl : (Nat.beq zs.length sz && Nat.beq sz 1 && Nat.ble 1 by_) = true)
    (hj : j ≤ l.length) (hfit : (m + j) * by_ ≤ 140737488355328) (h : ∀ v', WL P n L Q rest B ((d, v') :: env) G (Qd.own E sz v' (m + j) (xs ++ (l.take j).map g) :: S1)) : AppV P n L Q rest B env G S d T v (.slice (some ⟨b, 0, none⟩) j c) := by
  simp only [Bool.and_eq_true, Nat.beq_eq] at hzl
  obtain ⟨⟨hzl, rfl⟩, hb⟩ := hzl
  have hb : 1 ≤ by_ := by simp only [Nat.ble_eq] at hb; exact hb
  have h63 : m + j ≤ (m + j) * by_ := Nat.le_mul_of_pos_right _ hb
  refine ⟨fun ty a w sa sw => ?_⟩
  have sw1 := sw.perm h1.h.perm
  have hsrc : Src w (.slice (some ⟨b, 0, none⟩) j c) j ((l.take j).map g) := .inr ⟨_, c, rfl, fun i x hx => by
    have hi : i < ((l.take j).map g).length := (List.getElem?_eq_some_iff.1 hx).1
    have hij : i < j := by simp at hi; omega
    rw [Addr.add_none, Nat.zero_add, sw.drop' h1.h |>.box_cell h2.h i, ← hx, List.map_take, List.getElem?_take_of_lt hij]⟩
  obtain ⟨v', w', hr, hs⟩ := sw1.append (P := P) (T := T) ty hsrc (by simp; omega) (fun c hc => by
    obtain ⟨a, _, rfl⟩ := List.mem_map.1 hc
    exact hg.h a) hT.h hsz.h hz.h hzl hby.h hfit (by simp only [maxLen]; omega)
  exact ⟨v', w', hr, fun a' sa' => (h v').go a' w' sa' hs⟩
/-! Slices of slices that grow: what their parts read as -/
def rdAll (R : Ty α) (l : List α) (vs : List Value) : Pers := ⟨AllR R l vs, fun _ _ le x => AllR.mono le x⟩
theorem Sat.more {B : World} {w : World} {p : Pers} (h : Sat B G S w) (hp : ∀ m, (∀ g ∈ G, g.holds m) → p.holds m) : Sat B (p :: G) S w := h.pers fun m hm g hg => by
  cases hg with
  | head => exact hp m hm
  | tail _ hg => exact hm g hg
theorem Sat.rdAllNil {B : World} {w : World} (R : Ty α) (h : Sat B G S w) : Sat B (rdAll R [] [] :: G) S w := h.more fun _ _ => trivial
class InAll (vs : List Value) (G : List Pers) {α : outParam Type} (R : outParam (Ty α)) (l : outParam (List α)) : Prop where
  h : rdAll R l vs ∈ G
instance InAll.there {vs : List Value} {p : Pers} [i : InAll vs G R l] : InAll vs (p :: G) R l := ⟨.tail _ i.h⟩
instance InAll.here {vs : List Value} : InAll vs (rdAll R l vs :: G) R l := ⟨.head _⟩
theorem flat_ones {R : Ty α} (hR : R.agg = false) : ∀ {l : List α} {vs : List Value} {h : Hp}, AllR R l vs h → flat vs = vs
  | [], [], _, _ => rfl
  | a :: l, v :: vs, h, ⟨x, y⟩ => by
    have hf := R.form x
    rw [hR] at hf
    rw [flat_cons, flat_ones hR y, one_cells (by simpa using hf)]; rfl
  | [], _ :: _, _, x => x.elim
  | _ :: _, [], _, x => x.elim
end
end Go.Qd
