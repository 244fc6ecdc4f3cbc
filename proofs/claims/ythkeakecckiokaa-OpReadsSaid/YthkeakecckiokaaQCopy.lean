import Derived.Test.YthkeakecckiokaaQDel
import Derived.Laws.CopyRow
namespace Go.Qd
open Go
section
variable {P : Program} {n : Nat} {Q : Exit → Act → World → Prop} {B : Base} {env : Env} {G : List Pers} {S S' : List Res} {L rest : List Oper}
variable {d b m c : Nat} {ty : TypeId} {pos : String} {af : Array Edge} {x y : Operand} {T T' E E' : TypeId} {u v : Value} {cs : List Value} {α : Type} {R : Ty α} {l : List α}
/-- A slice that is known, copied to the first places of an open one. -/
theorem WL.copyB {f : α → Value} {ok : α → Prop} (hx : env.ev x = some (.slice (some ⟨b, 0, none⟩) m c)) (hy : env.ev y = some v) [hm : SelBox b S E cs S'] [hr : RdSl v G R l] [hR : R.Is f ok] [hT : TU P T (.slice E')] [hs : TS P E' 1] (h1c : ∀ a, (f a).oneCell' = true) (e1 : Nat.beq R.sz 1 = true) (hlm : l.length ≤ m) (hmc : m ≤ cs.length) (hd : Nat.blt d n = true)
    (h : (∀ a ∈ l, ok a) → WL P n L Q rest B ((d, .int .i64 (l.length : Nat)) :: env) G (Qd.box b E (l.map f ++ cs.drop l.length) :: S')) : WL P n L Q (⟨some d, .call ⟨.builtin .copy, #[x, y], #[T, T']⟩, ty, pos, af, none⟩ :: rest) B env G S := by
  have hsz := Nat.eq_of_beq_eq_true e1
  refine ⟨fun ac w sa sw => wpList_plain rfl fun K hK => ?_⟩
  obtain ⟨mm, k', dj, hw, hk', hg, hs1⟩ := sw.heap
  obtain ⟨p, cap, vs, rfl, hlc, hc, hall, hp⟩ := slRel.cells (hg _ hr.h) hw
  obtain ⟨rfl, hok⟩ := AllR.is.1 hall
  rw [flat_map_one h1c] at hp
  obtain ⟨inf, hi, his⟩ := info_of_tsz hs.h
  have hinf : (P.info? E').map (·.size) = some 1 := by rw [hi]; simp [his]
  have sw1 := sw.perm hm.h.perm
  have hbox : w.heap[b]? = some (.cells cs.toArray E (0, 0)) := by simpa [Qd.box] using sw1.at
  have hl1 : ∀ v ∈ l.map f, v.oneCell' = true := fun v hv => by obtain ⟨a, _, rfl⟩ := List.mem_map.1 hv; exact h1c a
  obtain ⟨w', hr', sw'⟩ : ∃ w', (Builtin.copy_ #[T, T'] ty #[.slice (some ⟨b, 0, none⟩) m c, .slice p l.length cap]).run P w = .ok (.int .i64 (l.length : Nat)) w' ∧ Sat B G (Qd.box b E (l.map f ++ cs.drop l.length) :: S') w' := by
    have hmin : Nat.min l.length m = l.length := Nat.min_eq_left hlm
    cases p with
    | none =>
      obtain rfl : l = [] := by
        rcases hp with ⟨h, _⟩ | ⟨b', o', h, _⟩
        · exact h
        · cases h
      have h0 : cap = 0 := by
        rcases hp with ⟨_, _, h⟩ | ⟨b', o', h, _⟩
        · exact h rfl
        · cases h
      subst h0
      refine ⟨w, ?_, by simpa using sw1⟩
      exact run_copy_nil P w T T' ty E' ⟨b, 0, none⟩ m c hT.h (by rw [hi]; rfl)
    | some a =>
      have hsrc : ∀ j v, (l.map f)[j]? = some v → w.cell? (a.add j) = some v := by
        rcases hp with ⟨h, h2, _⟩ | ⟨b', o', h, hcell⟩
        · intro j v hj; rw [h] at hj; simp at hj
        · cases h; intro j v hj; rw [Addr.add_none]; exact hcell j v hj
      have := run_copy_row P w T T' ty E' b 0 m c a l.length cap cs.toArray E (l.map f) hT.h hinf hbox (by rw [List.length_map, hmin]) hsrc (by simp; omega) hl1
      refine ⟨_, this.trans ?_, sw.box_set hm.h⟩
      simp [goInt]
  unfold Oper.wp
  have r1 : (execOp ac.eval ⟨some d, .call ⟨.builtin .copy, #[x, y], #[T, T']⟩, ty, pos, af, none⟩).run P w = .ok (.value (.int .i64 (l.length : Nat))) w' := by
    simp [execOp, resolve, invoke, builtin, sa.ev hx, sa.ev hy, hr']
  rw [r1, Oper.upon_value]
  exact hK _ _ ((h hok).go _ _ (sa.put hd _) sw')
end
end Go.Qd
