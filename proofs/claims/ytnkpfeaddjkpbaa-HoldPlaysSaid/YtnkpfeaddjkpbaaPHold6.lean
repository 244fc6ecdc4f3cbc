/-
  What waits: the law of Due and Old.
-/
import Derived.Test.YtnkpfeaddjkpbaaPHold5
namespace Go.Qd
open Go Go.Proofs
abbrev act17T : Ty (Int × UInt8 × Nat × List Nat) := Ty.pair Ty.i64 (Ty.pair Ty.u8 (Ty.pair Ty.u64 (Ty.rec1 (Ty.sl Ty.u64))))
theorem act17_rel {a : Int × UInt8 × Nat × List Nat} {v : Value} {m : Hp} (h : (rd act17T a v).holds m) : ∃ u, v = actV a.1 a.2.1.toNat a.2.2.1 u ∧ a.2.2.1 < 18446744073709551616 ∧ (rd (Ty.sl Ty.u64) a.2.2.2 u).holds m := by
  obtain ⟨k, o, n, kn⟩ := a
  obtain ⟨x, y, rfl, ⟨rfl, _⟩, x2, y2, rfl, ⟨rfl, _⟩, x3, y3, rfl, ⟨rfl, hn⟩, z, rfl, hz⟩ := h
  obtain ⟨p, c, rfl, _⟩ := slRel.shape hz
  exact ⟨_, rfl, hn, hz⟩
theorem Sat.act17 {B w : World} {G : List Pers} {S : List Res} {a : Int × UInt8 × Nat × List Nat} {v : Value} (h : Sat B G S w) (hm : Qd.rd act17T a v ∈ G) : ∃ u, v = actV a.1 a.2.1.toNat a.2.2.1 u ∧ a.2.2.1 < 18446744073709551616 :=
  h.pure fun m hg => by
    obtain ⟨u, h1, h2, _⟩ := act17_rel (hg _ hm)
    exact ⟨u, h1, h2⟩
theorem Sat.act17K {B w : World} {G : List Pers} {S : List Res} {a : Int × UInt8 × Nat × List Nat} {u : Value} (h : Sat B G S w) (hm : Qd.rd act17T a (actV a.1 a.2.1.toNat a.2.2.1 u) ∈ G) : Sat B (Qd.rd (Ty.sl Ty.u64) a.2.2.2 u :: G) S w :=
  h.more fun m hg => by
    obtain ⟨u', h1, _, h2⟩ := act17_rel (hg _ hm)
    have h3 := List.toArray_inj (Value.agg.inj h1)
    simp only [List.cons.injEq, and_true, true_and] at h3
    rw [h3]; exact h2
def dueQ (kn : List Nat) (o : Int) (n : Nat) (c : List Nat) : Bool := decide ((n : Int) = IntKind.u64.wrap ((getC kn o : Nat) + 1) ∧ withinL c kn)
instance hdue_pure {G : List Pers} {o : Int} {n t : Nat} {c kn : List Nat} {d kv : Value} {k : Int} [i : RdSl d G Ty.u64 c] [j : RdSl kv G Ty.u64 kn] : PureF Try.prog 29 [opV o n t d k, kv] G (1 ≤ o) (.bool (dueQ kn o n c)) :=
  ⟨fun h => ⟨_, by simpa using ⟨i.h, j.h⟩, hdue_fun ⟨o, n, t, c, d, k⟩ kn kv h⟩⟩
instance hold_pure {G : List Pers} {o : Int} {n t : Nat} {c kn : List Nat} {d kv : Value} {k : Int} [i : RdSl d G Ty.u64 c] [j : RdSl kv G Ty.u64 kn] : PureF Try.prog 32 [opV o n t d k, kv] G (1 ≤ o) (.bool (decide (n ≤ getC kn o))) :=
  ⟨fun h => ⟨_, by simpa using ⟨i.h, j.h⟩, hold_fun ⟨o, n, t, c, d, k⟩ kn kv h⟩⟩
instance rdue_pure {G : List Pers} {o : Int} {n t : Nat} {f g : List Nat} {k : Int} : PureF Try.prog 31 [opFV o n t f k, fV g] G (okF f ∧ okF g) (.bool (dueF g o n f)) := ⟨fun h => PureF.of0 (due_fun o n t f k g h.1 h.2)⟩
instance rold_pure {G : List Pers} {o : Int} {n t : Nat} {f g : List Nat} {k : Int} : PureF Try.prog 33 [opFV o n t f k, fV g] G (okF f ∧ okF g) (.bool (decide (n ≤ getC g o))) := ⟨fun h => PureF.of0 (old_fun o n t f k g h.1 h.2)⟩
theorem getC_of {kn : List Nat} (h : kn.length ≤ 64) (o : Int) : getC (ofL kn) o = getC kn o := by
  unfold getC
  split
  · rfl
  · rw [ofL_getD]
    split
    · rfl
    · rw [List.getD_eq_getElem?_getD, List.getElem?_eq_none (by omega)]; rfl
theorem due_same {kn : List Nat} (h : kn.length ≤ 64) {f : List Nat} (hf : f.length = 64) (o : Int) (n : Nat) : dueQ kn o n (trimL f) = dueF (ofL kn) o n f := by
  unfold dueQ dueF
  rw [getC_of h, decide_eq_decide]
  have hw : withinL (trimL f) kn ↔ zipL maxN f (ofL kn) = ofL kn := by
    have h1 := zip_within (a := f) (b := kn) (by omega)
    rw [ofL_self hf] at h1
    rw [h1, withinL_iff, withinL_iff]
    simp only [trimL_getD]
  rw [hw]
  exact ⟨fun h => ⟨h.1.symm, h.2⟩, fun h => ⟨h.1.symm, h.2⟩⟩
end Go.Qd
