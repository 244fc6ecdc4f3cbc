import Derived.Test.YthkeakecckiokaaGreatQSl
import Derived.ProofKit
import Derived.ChangeOld
import Derived.OpenShut
import Derived.ShutString
import Derived.Below
import Derived.Carry
namespace Go.Qd
open Go Go.ChangeShapes Go.WideShapes Go.RowKit

/-! ### From the form's reading of an argument to ours -/
def hpOf (w : World) : Hp := fun b => w.heap[b]?
class Ty.Sz {α : Type} (R : Ty α) (s : outParam Nat) : Prop where
  h : R.sz = s ∧ 1 ≤ s
instance : Ty.Sz Ty.u8 1 := ⟨rfl, by decide⟩
instance : Ty.Sz Ty.u32 1 := ⟨rfl, by decide⟩
instance : Ty.Sz Ty.u64 1 := ⟨rfl, by decide⟩
instance : Ty.Sz Ty.i64 1 := ⟨rfl, by decide⟩
instance : Ty.Sz Ty.bool 1 := ⟨rfl, by decide⟩
instance : Ty.Sz Ty.str 1 := ⟨rfl, by decide⟩
instance {α : Type} {R : Ty α} : Ty.Sz (Ty.sl R) 1 := ⟨rfl, by decide⟩
mutual
def wt {H : Type} : DataW H → Nat
  | .lit (.string b) => b.length + 1
  | .slice elems _ => wtAll elems + 1
  | .agg parts => wtAll parts + 1
  | _ => 1
def wtAll {H : Type} : List (DataW H) → Nat
  | [] => 0
  | d :: r => wt d + wtAll r
end
theorem wt_part {H : Type} : ∀ {l : List (DataW H)} {d : DataW H}, d ∈ l → wt d ≤ wtAll l
  | x :: r, _, .head _ => by rw [wtAll]; omega
  | x :: r, d, .tail _ h => by have := wt_part h; rw [wtAll]; omega
theorem wt_agg {H : Type} {l : List (DataW H × List MemPlace)} {y : DataW H × List MemPlace} (h : y ∈ l) : wt y.1 + 1 ≤ wt (.agg (l.map (·.1))) := by
  rw [wt]; have := wt_part (List.mem_map_of_mem (f := (·.1)) h); omega
theorem wt_slice {H : Type} {l : List (DataW H × List MemPlace)} {r : List (DataW H)} {y : DataW H × List MemPlace} (h : y ∈ l) : wt y.1 + 1 ≤ wt (.slice (l.map (·.1)) r) := by
  rw [wt]; have := wt_part (List.mem_map_of_mem (f := (·.1)) h); omega
class ReadsN (N M : Nat) (P : Program) (T : TypeId) {α : Type} (R : Ty α) : Prop where
  read : ∀ {H : Type} {enc : TypeId × Value → H} {w : World} {base : Nat} {spare : Nat → Bool} {held : Bool} {fuel : Nat} {cs : List Value} {x : DataW H × List MemPlace}, fuel ≤ N →
    DataW.trod enc P w base spare held fuel T cs = some x → wt x.1 ≤ M → ∃ (v : Value) (a : α), v.cells.toList = cs ∧ R.rel a v (hpOf w)
class Reads (P : Program) (T : TypeId) {α : Type} (R : Ty α) : Prop where
  read : ∀ {H : Type} {enc : TypeId × Value → H} {w : World} {base : Nat} {spare : Nat → Bool} {held : Bool} {fuel : Nat} {cs : List Value} {x : DataW H × List MemPlace},
    DataW.trod enc P w base spare held fuel T cs = some x → ∃ (v : Value) (a : α), v.cells.toList = cs ∧ R.rel a v (hpOf w)
instance {P : Program} {T : TypeId} {α : Type} {R : Ty α} [h : ∀ N M, ReadsN N M P T R] : Reads P T R := ⟨fun {_ _ _ _ _ _ fuel _ x} hx => (h fuel (wt x.1)).read (Nat.le_refl _) hx (Nat.le_refl _)⟩
/-- The same, for data of some weight at most. -/
class ReadsU (M : Nat) (P : Program) (T : TypeId) {α : Type} (R : Ty α) : Prop where
  read : ∀ {H : Type} {enc : TypeId × Value → H} {w : World} {base : Nat} {spare : Nat → Bool} {held : Bool} {fuel : Nat} {cs : List Value} {x : DataW H × List MemPlace},
    DataW.trod enc P w base spare held fuel T cs = some x → wt x.1 ≤ M → ∃ (v : Value) (a : α), v.cells.toList = cs ∧ R.rel a v (hpOf w)
instance {M : Nat} {P : Program} {T : TypeId} {α : Type} {R : Ty α} [h : ∀ N, ReadsN N M P T R] : ReadsU M P T R := ⟨fun {_ _ _ _ _ _ fuel _ _} hx hw => (h fuel).read (Nat.le_refl _) hx hw⟩

instance reads_i64 {N M : Nat} {P : Program} {T : TypeId} [hT : TU P T (.int .i64)] : ReadsN N M P T Ty.i64 := ⟨fun _ h _ => by
  obtain ⟨m, rfl, _, hw⟩ := DataW.trod_int hT.h h
  refine ⟨.int .i64 m, m, rfl, rfl, ?_⟩
  simp [Lit.wf, IntKind.min, IntKind.max, IntKind.signed, IntKind.bits] at hw
  omega⟩
instance reads_u64 {N M : Nat} {P : Program} {T : TypeId} [hT : TU P T (.int .u64)] : ReadsN N M P T Ty.u64 := ⟨fun _ h _ => by
  obtain ⟨m, rfl, _, hw⟩ := DataW.trod_int hT.h h
  simp [Lit.wf, IntKind.min, IntKind.max, IntKind.signed, IntKind.bits] at hw
  refine ⟨.int .u64 m, m.toNat, rfl, ?_, by omega⟩
  show Value.int .u64 m = .int .u64 (m.toNat : Int)
  rw [Int.toNat_of_nonneg hw.1]⟩
instance reads_u32 {N M : Nat} {P : Program} {T : TypeId} [hT : TU P T (.int .u32)] : ReadsN N M P T Ty.u32 := ⟨fun _ h _ => by
  obtain ⟨m, rfl, _, hw⟩ := DataW.trod_int hT.h h
  simp [Lit.wf, IntKind.min, IntKind.max, IntKind.signed, IntKind.bits] at hw
  refine ⟨.int .u32 m, m.toNat, rfl, ?_, by omega⟩
  show Value.int .u32 m = .int .u32 (m.toNat : Int)
  rw [Int.toNat_of_nonneg hw.1]⟩
instance reads_u8 {N M : Nat} {P : Program} {T : TypeId} [hT : TU P T (.int .u8)] : ReadsN N M P T Ty.u8 := ⟨fun _ h _ => by
  obtain ⟨m, rfl, _, hw⟩ := DataW.trod_int hT.h h
  simp [Lit.wf, IntKind.min, IntKind.max, IntKind.signed, IntKind.bits] at hw
  refine ⟨.int .u8 m, UInt8.ofNat m.toNat, rfl, ?_, trivial⟩
  have : (UInt8.ofNat m.toNat).toNat = m.toNat := by simp [UInt8.toNat_ofNat']; omega
  show Value.int .u8 m = .int .u8 ((UInt8.ofNat m.toNat).toNat : Int)
  rw [this, Int.toNat_of_nonneg hw.1]⟩
instance reads_bool {N M : Nat} {P : Program} {T : TypeId} [hT : TU P T .bool] : ReadsN N M P T Ty.bool := ⟨fun _ h _ => by
  obtain ⟨m, rfl, _⟩ := DataW.trod_bool hT.h h
  exact ⟨.bool m, m, rfl, rfl, trivial⟩⟩
instance reads_str {N M : Nat} {P : Program} {T : TypeId} [hT : TU P T .string] : ReadsN N M P T Ty.str := ⟨fun _ h _ => by
  obtain ⟨s, rfl, _, hs⟩ := DataW.trod_string hT.h h
  exact ⟨.string s, s.data.toList, rfl, rfl, by simpa using hs⟩⟩

theorem cell_block {w : World} {a : Addr} {v : Value} (h : w.cell? a = some v) : ∃ cs E fr, a.spot = none ∧ w.heap[a.block]? = some (.cells cs E fr) := by
  unfold World.cell? at h
  split at h
  · rename_i c e f hb
    cases hs : a.spot with
    | none => exact ⟨c, e, f, rfl, hb⟩
    | some s => simp [hs] at h
  · cases h

instance reads_sl {N M : Nat} {P : Program} {T E : TypeId} {α : Type} {R : Ty α} {s : Nat} [hT : TU P T (.slice E)] [hE : ReadsN N M P E R] [hs : TS P E s] [hR : Ty.Sz R s] : ReadsN N M P T (Ty.sl R) := ⟨fun {H enc w base spare held fuel cs x} hN h hW => by
  obtain ⟨rfl, hpos'⟩ := hR.h
  have hcE : P.cellsOf E = R.sz := by
    have := hs.h
    unfold tsz at this
    unfold Program.cellsOf
    rw [this]; rfl
  rcases DataW.trod_slice hT.h h with ⟨rfl, _⟩ | ⟨a, len, cap, elems, rest, n, hfu, rfl, hxx, hb, hl, hm, hlen, hel, _, _⟩
  · exact ⟨.slice none 0 0, [], rfl, .inl ⟨rfl, none, 0, rfl, by simp, fun _ => rfl⟩⟩
  rcases Nat.eq_zero_or_pos len with rfl | hp
  · exact ⟨.slice (some a) 0 cap, [], rfl, .inl ⟨rfl, some a, cap, rfl, hm, fun e => by cases e⟩⟩
  rw [hcE] at hel
  have each : ∀ i, i < len → ∃ cs' v b, w.cells? base (a.add (i * R.sz)) R.sz = some cs' ∧ v.cells.toList = cs' ∧ R.rel b v (hpOf w) := by
    intro i hi
    have h1 := hel i hi
    rw [List.getElem?_eq_getElem (by omega), Option.bind_eq_some_iff] at h1
    obtain ⟨cs', hcs, hy⟩ := h1
    obtain ⟨v, b, hv, hr⟩ := hE.read (by omega) hy (Nat.le_trans (Nat.le_of_succ_le (hxx ▸ wt_slice (List.getElem_mem (by omega)))) hW)
    exact ⟨cs', v, b, hcs, hv, hr⟩
  have hcell0 : ∀ i, i < len → ∀ j, j < R.sz → ∃ c, w.cell? (a.add (i * R.sz + j)) = some c := by
    intro i hi j hj
    obtain ⟨cs', v, b, hcs, hv, hr⟩ := each i hi
    obtain ⟨_, hl', hc⟩ := World.cells?_some hcs
    have := hc j hj
    rw [List.getElem?_eq_getElem (by omega)] at this
    have e : (a.add (i * R.sz)).add j = a.add (i * R.sz + j) := by
      unfold Addr.add
      by_cases h1 : i * R.sz = 0 <;> by_cases h2 : j = 0 <;> simp [h1, h2, Nat.add_assoc]
    rw [e] at this
    exact ⟨_, this⟩
  obtain ⟨c0, hc0⟩ := hcell0 0 hp 0 hpos'
  obtain ⟨cs0, E0, fr0, hspot, hblock⟩ := cell_block hc0
  have hspot' : a.spot = none := by simpa [Addr.add] using hspot
  obtain ⟨ab, ao, asp⟩ := a
  simp at hspot'; subst hspot'
  have hblk : w.heap[ab]? = some (.cells cs0 E0 fr0) := by simpa [Addr.add] using hblock
  -- the elements, one by one
  have build : ∀ k, k ≤ len → ∃ (vs : List Value) (l : List α), l.length = k ∧ AllR R l vs (hpOf w) ∧ (cs0.toList.drop ao).take (k * R.sz) = flat vs := by
    intro k
    induction k with
    | zero => exact fun _ => ⟨[], [], rfl, trivial, by simp [flat]⟩
    | succ k ih =>
      intro hk
      obtain ⟨vs, l, h1, h2, h3⟩ := ih (by omega)
      obtain ⟨cs', v, b, hcs, hv, hr⟩ := each k (by omega)
      obtain ⟨_, hl', hc⟩ := World.cells?_some hcs
      refine ⟨vs ++ [v], l ++ [b], by simp [h1], h2.append ⟨hr, trivial⟩, ?_⟩
      have e1 : flat (vs ++ [v]) = flat vs ++ cs' := by simp [flat, hv]
      rw [e1, ← h3, Nat.succ_mul, List.take_add]
      congr 1
      apply List.ext_getElem?
      intro j
      rw [List.getElem?_take]
      by_cases hj : j < R.sz
      · rw [if_pos hj, ← hc j hj]
        have e : ((⟨ab, ao, none⟩ : Addr).add (k * R.sz)).add j = ⟨ab, ao + k * R.sz + j, none⟩ := by rw [Addr.add_none, Addr.add_none]
        rw [e, cell_of_row w ab _ cs0 E0 fr0 hblk]
        simp [Nat.add_assoc]
      · rw [if_neg hj, List.getElem?_eq_none (by omega)]
  obtain ⟨vs, l, h1, h2, h3⟩ := build len (Nat.le_refl _)
  subst h1
  exact ⟨.slice (some ⟨ab, ao, none⟩) l.length cap, l, rfl, .inr ⟨ab, ao, cap, cs0, E0, fr0, vs, rfl, hblk, hl, hm, h2, h3⟩⟩⟩

/-! ### A law's call, in the form's words -/
def pworld (W : World) : Pers := ⟨fun h => ∀ (b : Nat) (o : Obj), W.heap[b]? = some o → h b = some o, fun _ _ le x b o e => le _ _ (x b o e)⟩
theorem law_walk {P : Program} {f : FuncId} {args : List Value} {G : List Pers} {R : Value → List Pers → List Res → Prop} (hF : Fun P f args G [] R) (hR : ∀ v G' S', R v G' S' → v = .bool true) (W : World) (hG : ∀ g ∈ G, g.holds (hpOf W)) :
    Calls P f args.toArray W fun e W' => e = .returned (.bool true) ∧ Below W.heap.size W W' := by
  refine (hF.calls W [pworld W] [] W ⟨rfl, rfl, rfl, ⟨Nat.le_refl _, .refl _⟩, hpOf W, Hp.none, fun _ => .inr rfl, fun _ _ e => e, (fun _ _ e => by cases e), ?_, fun _ => rfl⟩).mono ?_
  · intro g hg
    rcases List.mem_append.1 hg with hg | hg
    · exact hG g hg
    · simp at hg; subst hg; exact fun _ _ e => e
  · rintro e W' ⟨v, G', S', rfl, hr, hs⟩
    refine ⟨by rw [hR _ _ _ hr], hs.os, hs.tape, hs.output, hs.size.1, fun k hk => ?_⟩
    obtain ⟨m, h, _, hm, _, hg, _⟩ := hs.heap
    have hp := hg (pworld W) (by simp)
    obtain ⟨o, ho⟩ : ∃ o, W.heap[k]? = some o := ⟨W.heap[k], by simp [hk]⟩
    rw [ho]
    exact hm k o (hp k o ho)
theorem one_of_cells {v u : Value} (h : u.cells.toList = v.cells.toList) (h1 : v.oneCell' = true) (h2 : u.oneCell' = true) : u = v := by
  rw [one_cells h1, one_cells h2] at h
  simpa using h
section
variable {P : Program} {t : TypeId} {w m : World} {r : Reach} {base : Nat} {u v : Value} {α : Type} {R : Ty α} {a : α} {h : Hp}
theorem arg_slice {E : TypeId} [hT : TU P t (.slice E)] (ok : Value.okWide P w r base t v) (hu : u.cells.toList = v.cells.toList) (h1 : u.oneCell' = true) : u = v := by
  obtain ⟨_, _, _, rfl⟩ := okWide_slice hT.h ok
  exact one_of_cells hu rfl h1
end
end Go.Qd
