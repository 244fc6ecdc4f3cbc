/-
  Numbers of 16 bits.
-/
import Derived.Test.YtkpblibaddjcgaaDoorQLaw
import Derived.Test.YtkpblibaddjcgaaDoorQAuto
namespace Go.Qd
/-! ### Numbers of 16 bits. -/
section
open Go Go.ChangeShapes Go.WideShapes Go.RowKit
def Ty.u16 : Ty Nat := .plain (fun m => .int .u16 (m : Int)) (fun m => m < 65536) (fun _ => rfl)
instance : Ty.Is Ty.u16 (fun m => .int .u16 (m : Int)) (fun m => m < 65536) := ⟨fun _ _ _ => Iff.rfl⟩
instance : Ty.NonAgg Ty.u16 := ⟨rfl⟩
instance : Ty.Sz Ty.u16 1 := ⟨rfl, by decide⟩
instance reads_u16 {N M : Nat} {P : Program} {T : TypeId} [hT : TU P T (.int .u16)] : ReadsN N M P T Ty.u16 := ⟨fun _ h _ => by
  obtain ⟨m, rfl, _, hw⟩ := DataW.trod_int hT.h h
  simp [Lit.wf, IntKind.min, IntKind.max, IntKind.signed, IntKind.bits] at hw
  refine ⟨.int .u16 m, m.toNat, rfl, ?_, by omega⟩
  show Value.int .u16 m = .int .u16 (m.toNat : Int)
  rw [Int.toNat_of_nonneg hw.1]⟩
instance : QHi .u16 65535 := ⟨fun r h0 h1 => by rw [wrap_u16]; omega⟩
end
/-! ### Slices of bounded length, as an Upto form reads them. -/
section
open Go Go.ChangeShapes Go.WideShapes Go.RowKit
def slB {α : Type} (M : Nat) (R : Ty α) : Ty (List α) := ⟨1, false, fun l v h => slRel R l v h ∧ l.length ≤ M, fun le x => ⟨x.1.mono le, x.2⟩, fun x => (Ty.sl R).size x.1, fun x => (Ty.sl R).form x.1, fun x => (Ty.sl R).ones x.1⟩
instance {α : Type} {M : Nat} {R : Ty α} : Ty.Sz (slB M R) 1 := ⟨rfl, by decide⟩
theorem wtAll_lenB {H : Type} : ∀ l : List (DataW H × List MemPlace), l.length ≤ wtAll (l.map (·.1))
  | [] => by simp [wtAll]
  | x :: l => by
    have := wtAll_lenB l
    have h1 : 1 ≤ wt x.1 := by cases x.1 with
      | lit b => cases b <;> simp [wt]
      | _ => simp [wt]
    simp only [List.length_cons, List.map_cons, wtAll]; omega
instance reads_slB {N M : Nat} {P : Program} {T E : TypeId} {α : Type} {R : Ty α} {s : Nat} [hT : TU P T (.slice E)] [hE : ReadsN N M P E R] [hs : TS P E s] [hR : Ty.Sz R s] : ReadsN N M P T (slB M R) := ⟨fun {H enc w base spare held fuel cs x} hN h hW => by
  obtain ⟨v, l, hv, hl⟩ := (reads_sl (T := T) (R := R)).read hN h hW
  refine ⟨v, l, hv, hl, ?_⟩
  obtain ⟨p, c, rfl, _⟩ := slRel.shape hl
  rcases DataW.trod_slice hT.h h with ⟨rfl, _⟩ | ⟨a, len, cap, elems, rest, n, hfu, rfl, rfl, hb, h1, h2, hlen, _⟩
  · have : l.length = 0 := by simp [Value.cells] at hv; simp [hv]
    omega
  · have : l.length = len := by simp [Value.cells] at hv; exact hv.2.1
    rw [wt] at hW
    have := wtAll_lenB elems
    omega⟩
theorem Sat.slB {α : Type} {R : Ty α} {M : Nat} {l : List α} {v : Value} {B w : World} {G : List Pers} {S : List Res} (h : Sat B G S w) (hm : Qd.rd (Qd.slB M R) l v ∈ G) : Sat B (Qd.rd (Ty.sl R) l v :: G) S w :=
  h.pers fun m hg g hgg => by
    rcases List.mem_cons.1 hgg with e | e
    · subst e; exact (hg _ hm).1
    · exact hg g e
theorem Sat.slB_len {α : Type} {R : Ty α} {M : Nat} {l : List α} {v : Value} {B w : World} {G : List Pers} {S : List Res} (h : Sat B G S w) (hm : Qd.rd (Qd.slB M R) l v ∈ G) : l.length ≤ M :=
  h.pure fun m hg => (hg _ hm).2
end
end Go.Qd
