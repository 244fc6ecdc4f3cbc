/-
  Texts that grow: a text appended to bytes of the call's own.
-/
import Derived.Test.YtkpblibaddjcgaaDoorQRange
import Derived.Lib.AppendStr
namespace Go.Qd
open Go
abbrev cU (c : UInt8) : Value := .int .u8 (c.toNat : Nat)
/-- A slice's room. -/
def capV : Value → Nat
  | .slice _ _ c => c
  | _ => 0
theorem strCells_bs (l : List UInt8) : Lib.strCells (bs l) = l.map cU := rfl
theorem Sat.appendStr {P : Program} {T U E : TypeId} {B w : World} {G : List Pers} {S : List Res} {m : Nat} {v : Value} {xs : List Value} {l : List UInt8} (ty : TypeId) (h : Sat B G (own E 1 v m xs :: S) w)
    (hT : P.underlying T = some (.slice E)) (hU : P.underlying U = some .string) (hsz : tsz P E = some 1) (hz : tz P E = some [.int .u8 0]) (hby : tby P E = some 1) (hfit : m + l.length ≤ 140737488355328) :
    ∃ v' w', (Builtin.append_ #[T, U] ty #[v, .string (bs l)]).run P w = .ok v' w' ∧ capV v ≤ capV v' ∧ Sat B G (own E 1 v' (m + l.length) (xs ++ l.map cU) :: S) w' := by
  obtain ⟨i, z, hi, hzz, hzc⟩ := info_of_tz hz
  have his : i.size = 1 := by obtain ⟨i', hi', e⟩ := info_of_tsz hsz; rw [hi] at hi'; cases hi'; exact e
  have hib : i.bytes = 1 := by simpa [tby, hi] using hby
  have h63 : m + l.length ≤ maxLen := by unfold maxLen; omega
  obtain ⟨hx, hc⟩ := h.own_cases
  have hlen : (xs ++ l.map cU).length = (m + l.length) * 1 := by rw [List.length_append, hx, List.length_map, Nat.add_mul]; omega
  have hzs : z.cells.size = 1 := by
    have : z.cells.toList.length = 1 := by rw [hzc]; rfl
    simpa using this
  have hss : (bs l).size = l.length := bs_size
  have newB : ∀ (olds : List Value) (cap : Nat), olds = xs → (cap = grownCap w (m + l.length) 0 E ∨ ∃ o, cap = grownCap w (m + l.length) o E) → Sat B G S w →
      Sat B G (own E 1 (.slice (some ⟨w.heap.size, 0, none⟩) (m + l.length) cap) (m + l.length) (xs ++ l.map cU) :: S) (w.drew.alloc (.cells (olds.toArray ++ (l.map cU).toArray ++ Builtin.zeroCells z.cells (cap - (m + l.length))) E)) := by
    rintro olds cap rfl hcap hs
    have hge : m + l.length ≤ cap := by rcases hcap with rfl | ⟨o, rfl⟩ <;> exact grownCap_ge _ _ _ _
    have hcm : cap ≤ maxLen := by rcases hcap with rfl | ⟨o, rfl⟩ <;> exact grownCap_le_maxLen _ _ _ _ h63
    have ha := hs.drew.alloc (.cells (olds.toArray ++ (l.map cU).toArray ++ Builtin.zeroCells z.cells (cap - (m + l.length))) E)
    refine ha.conv fun q hq => ⟨hlen, .inr ⟨w.heap.size, cap, _, rfl, hq, hge, hcm, ?_, ?_⟩⟩
    · have e : (olds.toArray ++ (l.map cU).toArray).size = (m + l.length) * 1 := by simpa using hlen
      rw [Array.size_append, e, size_zeroCells, hzs, ← Nat.add_mul]; congr 1; omega
    · simp only [Array.toList_append]
      rw [← hlen]; exact List.take_left
  rcases hc with ⟨rfl, rfl⟩ | ⟨b, c, cs, rfl, h2, h3, h4, h5, h6⟩
  · have hx0 : xs = [] := List.eq_nil_of_length_eq_zero (by simpa using hx)
    subst hx0
    by_cases hk : l = []
    · subst hk
      have hf := Lib.run_firstCells_string (P := P) w 1 (bs [])
      exact ⟨.slice none 0 0, w, by simp [Builtin.append_, run_underlying hT, run_underlying hU, sizeOf, typeInfo, hi, his, Builtin.lenOf, Builtin.firstCells, bs, ByteArray.size], Nat.le_refl _, by simpa using h⟩
    · have hpos : 0 < l.length := List.length_pos_iff.2 hk
      have hr := run_append_nil_string (P := P) w T U ty E i z hT hU hi hzz (bs l) (by omega) (by omega) (by rw [hib]; omega)
      have e1 : ((bs l).data.map fun b => Value.int .u8 b.toNat) = (l.map cU).toArray := by simp [bs]
      rw [e1, hss] at hr
      refine ⟨_, _, hr, Nat.zero_le _, ?_⟩
      have := newB [] (grownCap w (0 + l.length) 0 E) rfl (.inl rfl) h.drop
      simpa using this
  · by_cases hroom : m + l.length ≤ c
    · have hr := Lib.run_append_room_string (P := P) w T U ty E i hT hU hi his b m c cs.toArray (by simpa [Qd.box] using h6.at) (bs l) (by omega) (by simp; omega)
      rw [hss, strCells_bs] at hr
      refine ⟨_, _, hr, Nat.le_refl _, ?_⟩
      have hb := h6.box_set (cs' := cs.take m ++ l.map cU ++ cs.drop (m + l.length)) .here
      have hb2 := hb.ownBox (c := c) (sz := 1) (m := m + l.length) (by simp only [List.length_append, List.length_take, List.length_drop, List.length_map]; omega) hroom h3
      have e : (cs.take m ++ l.map cU ++ cs.drop (m + l.length)).take ((m + l.length) * 1) = xs ++ l.map cU := by
        have h5' : cs.take m = xs := by rw [← h5, Nat.mul_one]
        rw [h5', ← hlen]; exact List.take_left
      rw [e] at hb2
      exact hb2
    · have holds : ∀ j u, xs[j]? = some u → w.cell? ((⟨b, 0, none⟩ : Addr).add j) = some u := fun j u hj => by
        rw [Addr.add_none, h6.box_cell .here, Nat.zero_add]
        rw [← h5, List.getElem?_take] at hj
        split at hj
        · exact hj
        · cases hj
      have hr := Lib.run_append_grow_string (P := P) w T U ty E i z hT hU hi hzz ⟨b, 0, none⟩ m c xs (by rw [his]; exact hx) holds (bs l) (by omega) (by omega) (by rw [hib]; exact growslice_fits (by omega) (by omega))
      rw [hss, strCells_bs] at hr
      exact ⟨_, _, hr, by have := grownCap_ge w (m + l.length) c E; simp only [capV]; omega, newB xs _ rfl (.inr ⟨c, rfl⟩) h.drop⟩
section
variable {P : Program} {n : Nat} {Q : Exit → Act → World → Prop} {B : Base} {env : Env} {G : List Pers} {S S' : List Res} {L rest : List Oper}
variable {d m : Nat} {ty : TypeId} {pos : String} {af : Array Edge} {x y : Operand} {T U E : TypeId} {v : Value} {xs : List Value} {l : List UInt8}
theorem WL.appendStr (hx : env.ev x = some v) (hy : env.ev y = some (.string (bs l))) [hm : SelOwn v S E 1 m xs S'] [hT : TU P T (.slice E)] [hU : TU P U .string] [hs : TS P E 1] [hz : TZ P E [.int .u8 0]] [hby : TB P E 1] (hd : Nat.blt d n = true) (hfit : m + l.length ≤ 140737488355328)
    (h : ∀ v', capV v ≤ capV v' → WL P n L Q rest B ((d, v') :: env) G (Qd.own E 1 v' (m + l.length) (xs ++ l.map cU) :: S')) : WL P n L Q (⟨some d, .call ⟨.builtin .append, #[x, y], #[T, U]⟩, ty, pos, af, none⟩ :: rest) B env G S := by
  refine ⟨fun a w sa sw => wpList_plain rfl fun K hK => ?_⟩
  obtain ⟨v', w', hr, hc, hs2⟩ := (sw.perm hm.h.perm).appendStr (P := P) (T := T) (U := U) (l := l) ty hT.h hU.h hs.h hz.h hby.h hfit
  unfold Oper.wp
  have r1 : (execOp a.eval ⟨some d, .call ⟨.builtin .append, #[x, y], #[T, U]⟩, ty, pos, af, none⟩).run P w = .ok (.value v') w' := by
    simp [execOp, resolve, invoke, builtin, sa.ev hx, sa.ev hy, hr]
  rw [r1, Oper.upon_value]
  exact hK _ _ ((h v' hc).go _ _ (sa.put hd v') hs2)
end
end Go.Qd
