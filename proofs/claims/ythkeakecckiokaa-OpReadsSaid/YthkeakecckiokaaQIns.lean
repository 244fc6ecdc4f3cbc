import Derived.Test.YthkeakecckiokaaQMany
import Derived.Lib.AppendZerosOnto
import Derived.Lib.Overlaps
namespace Go.Qd
open Go
/-! ### Copies between open blocks, at elements of any size; append of zeros; slices.overlaps -/
theorem run_copy_rowS {P : Program} (w : World) (dT sT ty elem : TypeId) (g o dLen dCap : Nat) (a : Addr) (sLen sCap s k : Nat) (cur : Array Value) (t : TypeId) (cs : List Value)
    (hu : P.underlying dT = some (.slice elem)) (hs : tsz P elem = some s)
    (hg : w.heap[g]? = some (.cells cur t (0, 0))) (hk : Nat.min sLen dLen = k) (hn : cs.length = k * s)
    (hsrc : ∀ j v, cs[j]? = some v → w.cell? (a.add j) = some v) (hfit : o + cs.length ≤ cur.size) (h1 : ∀ v ∈ cs, v.oneCell' = true) :
    (Builtin.copy_ #[dT, sT] ty #[.slice (some ⟨g, o, none⟩) dLen dCap, .slice (some a) sLen sCap]).run P w =
      .ok (goInt k) (w.setRow g (cur.toList.take o ++ cs ++ cur.toList.drop (o + cs.length)).toArray) := by
  have hl := run_loadCells_list (P := P) w a cs hsrc
  have hst := run_storeCells_at P g o t cs 0 cur w hg (by simpa using hfit) h1
  obtain ⟨i, hq, hi⟩ := info_of_tsz hs
  simp [Builtin.copy_, run_underlying hu, Builtin.lenOf, Builtin.firstCells, sizeOf, typeInfo, hq, hi, hk, ← hn, hl, hst]
section
variable {P : Program} {n : Nat} {Q : Exit → Act → World → Prop} {B : Base} {env : Env} {G : List Pers} {S S' S2 : List Res} {L rest : List Oper}
variable {d b m c k s o b2 o2 k2 c2 : Nat} {ty : TypeId} {pos : String} {af : Array Edge} {x y : Operand} {T T' E E' E2 : TypeId} {u v : Value} {cs cs2 zs : List Value}
theorem WL.copyX (k : Nat) (hx : env.ev x = some (.slice (some ⟨b, o, none⟩) m c)) (hy : env.ev y = some (.slice (some ⟨b2, o2, none⟩) k2 c2)) [hm : SelBox b S E cs S'] [hm2 : SelBox b2 S E2 cs2 S2] [hT : TU P T (.slice E')] [hs : TS P E' s] (hd : Nat.blt d n = true)
    (hk : Nat.min k2 m = k) (ho : o + k * s ≤ cs.length) (ho2 : o2 + k * s ≤ cs2.length) (h1 : ∀ u ∈ (cs2.drop o2).take (k * s), u.oneCell' = true)
    (h : WL P n L Q rest B ((d, .int .i64 (k : Int)) :: env) G (Qd.box b E (cs.take o ++ (cs2.drop o2).take (k * s) ++ cs.drop (o + k * s)) :: S')) : WL P n L Q (⟨some d, .call ⟨.builtin .copy, #[x, y], #[T, T']⟩, ty, pos, af, none⟩ :: rest) B env G S := by
  refine ⟨fun ac w sa sw => wpList_plain rfl fun K hK => ?_⟩
  have hl : ((cs2.drop o2).take (k * s)).length = k * s := by rw [List.length_take, List.length_drop]; omega
  have hsrc : ∀ j v, ((cs2.drop o2).take (k * s))[j]? = some v → w.cell? ((⟨b2, o2, none⟩ : Addr).add j) = some v := fun j v hj => by
    rw [List.getElem?_take] at hj
    split at hj
    · rw [Addr.add_none, sw.box_cell hm2.h, ← List.getElem?_drop]; exact hj
    · cases hj
  have hr := run_copy_rowS (P := P) w T T' ty E' b o m c ⟨b2, o2, none⟩ k2 c2 s k cs.toArray E _ hT.h hs.h (by simpa [Qd.box] using (sw.perm hm.h.perm).at) hk hl hsrc (by rw [hl]; simpa using ho) h1
  rw [hl] at hr
  unfold Oper.wp
  have r1 : (execOp ac.eval ⟨some d, .call ⟨.builtin .copy, #[x, y], #[T, T']⟩, ty, pos, af, none⟩).run P w = .ok (.value (.int .i64 (k : Int))) (w.setRow b (cs.take o ++ (cs2.drop o2).take (k * s) ++ cs.drop (o + k * s)).toArray) := by
    simp [execOp, resolve, invoke, builtin, sa.ev hx, sa.ev hy, hr, goInt]
  rw [r1, Oper.upon_value]
  exact hK _ _ (h.go _ _ (sa.put hd _) (sw.box_set hm.h))
/-- 'append(s, make(..)...)' where there is no room. -/
theorem WL.appendZ {i by_ : Nat} {kd kn : IntKind} {Ti : TypeId} (k : Nat) (hx : env.ev x = some (.slice (some ⟨b, 0, none⟩) i c)) {kv : Int} (hy : env.ev y = some (.int kd kv)) (hkv : kv = (k : Int)) [hm : SelBox b S E cs S'] [hT : TU P T (.slice E)] [hTi : TU P Ti (.int kn)] [hs : TS P E s] [hz : TZ P E zs] [hb : TB P E by_] (hzl : zs.length = s) (hs0 : 0 < s) (hk : 0 < k) (hi : i * s ≤ cs.length) (hroom : c < i + k) (hfit : (i + k) * by_ ≤ 140737488355328) (hby : 1 ≤ by_) (hd : Nat.blt d n = true)
    (h : ∀ v' zz, zz.length = k * s → WL P n L Q rest B ((d, v') :: env) G (Qd.own E s v' (i + k) (cs.take (i * s) ++ zz) :: S)) : WL P n L Q (⟨some d, .call ⟨.builtin .append, #[x, y], #[T, Ti]⟩, ty, pos, af, none⟩ :: rest) B env G S := by
  subst hkv
  obtain ⟨inf, z, hi0, hzz, hzc⟩ := info_of_tz hz.h
  have his : inf.size = s := by obtain ⟨i', hi', e⟩ := info_of_tsz hs.h; rw [hi0] at hi'; cases hi'; exact e
  have hib : inf.bytes = by_ := by have := hb.h; simpa [tby, hi0] using this
  have hzs : z.cells.size = s := by rw [← hzl, ← hzc]; simp
  have hle : i + k ≤ (i + k) * by_ := Nat.le_mul_of_pos_right _ hby
  have hle2 : k * by_ ≤ (i + k) * by_ := Nat.mul_le_mul_right _ (by omega)
  refine ⟨fun ac w sa sw => wpList_plain rfl fun K hK => ?_⟩
  have hl : (cs.take (i * s)).length = i * s := by rw [List.length_take]; omega
  have hold : (Builtin.firstCells inf.size i (.slice (some ⟨b, 0, none⟩) i c)).run P w.drew = .ok (cs.take (i * s)).toArray w.drew := by
    rw [his]
    exact run_firstCells_some w.drew s i ⟨b, 0, none⟩ i c (cs.take (i * s)) hl (fun j v hj => by
      rw [List.getElem?_take] at hj
      split at hj
      · rw [Addr.add_none]
        have := sw.drew.box_cell hm.h (0 + j)
        rw [this, Nat.zero_add]; exact hj
      · cases hj)
  have hr := Lib.run_append_grow_zeros (P := P) w T Ti ty E inf z kd kn hT.h hTi.h hi0 hzz (some ⟨b, 0, none⟩) i c _ hold k hk (by omega) hroom (by omega) (by rw [hib]; omega) (by rw [hib]; exact growslice_fits hroom hfit)
  have hge : i + k ≤ grownCap w (i + k) c E := grownCap_ge _ _ _ _
  have hcm : grownCap w (i + k) c E ≤ maxLen := grownCap_le_maxLen _ _ _ _ (by simp only [maxLen]; omega)
  have ha := sw.drew.alloc (.cells ((cs.take (i * s)).toArray ++ Builtin.zeroCells z.cells k ++ Builtin.zeroCells z.cells (grownCap w (i + k) c E - (i + k))) E)
  have hzk : (Builtin.zeroCells z.cells k).toList.length = k * s := by rw [Array.length_toList, size_zeroCells, hzs]
  have hlen : (cs.take (i * s) ++ (Builtin.zeroCells z.cells k).toList).length = (i + k) * s := by rw [List.length_append, hl, hzk, Nat.add_mul]
  have sw2 : Sat B G (Qd.own E s (.slice (some ⟨w.heap.size, 0, none⟩) (i + k) (grownCap w (i + k) c E)) (i + k) (cs.take (i * s) ++ (Builtin.zeroCells z.cells k).toList) :: S) (w.drew.alloc (.cells ((cs.take (i * s)).toArray ++ Builtin.zeroCells z.cells k ++ Builtin.zeroCells z.cells (grownCap w (i + k) c E - (i + k))) E)) := by
    refine ha.conv fun q hq => ⟨hlen, .inr ⟨w.heap.size, _, _, rfl, hq, hge, hcm, ?_, ?_⟩⟩
    · have e : ((cs.take (i * s)).toArray ++ Builtin.zeroCells z.cells k).size = (i + k) * s := by
        rw [← hlen]; simp
      rw [Array.size_append, e, size_zeroCells, hzs, ← Nat.add_mul]; congr 1; omega
    · simp only [Array.toList_append]
      rw [← hlen]; exact List.take_left
  unfold Oper.wp
  have r1 : (execOp ac.eval ⟨some d, .call ⟨.builtin .append, #[x, y], #[T, Ti]⟩, ty, pos, af, none⟩).run P w = .ok (.value (.slice (some ⟨w.heap.size, 0, none⟩) (i + k) (grownCap w (i + k) c E))) (w.drew.alloc (.cells ((cs.take (i * s)).toArray ++ Builtin.zeroCells z.cells k ++ Builtin.zeroCells z.cells (grownCap w (i + k) c E - (i + k))) E)) := by
    simp [execOp, resolve, invoke, builtin, sa.ev hx, sa.ev hy, hr]
  rw [r1, Oper.upon_value]
  exact hK _ _ ((h _ _ hzk).go _ _ (sa.put hd _) sw2)
theorem CallV.extW {f : FuncId} {fn : Func} {e : Array Value → Sem Value} {vs : List Value} (hf : P.funcs[f]? = some fn) (hname : (fn.name == "runtime.NumGoroutine") = false)
    (hb : fn.body.isNone = true) (hn : Extern.findNext fn = none) (he : Extern.find fn = some e) (hr : ∀ w, Sat B G S w → (e vs.toArray).run P w = .ok v w) (h : WL P n L Q rest B ((d, v) :: env) G S) : CallV P n L Q rest B env G S (some d) f vs :=
  ⟨fun ty pos af op hop hd => ⟨fun a w sa sw => wpList_plain rfl fun K hK => by
    unfold Oper.wp
    rw [hop a sa w, run_callFunc_extern hf hname hb hn he, hr w sw]
    show Oper.upon _ _ _ _ _ _
    exact hK _ _ (h.go _ _ (sa.put (hd d rfl) v) sw)⟩⟩
theorem run_overlapsX {w : World} {tS tR e : TypeId} {la ca lb cb : Nat} [hm : SelBox b S E cs S'] [hm2 : SelBox b2 S E2 cs2 S2] (sw : Sat B G S w) (ht : P.underlying tS = some (.slice e)) (hs : tsz P e = some s) (hne : b ≠ b2) (hk : 0 < cs2.length) :
    (Extern.SlicesOverlaps.overlaps #[tS, tS] #[tR] #[.slice (some ⟨b, o, none⟩) la ca, .slice (some ⟨b2, o2, none⟩) lb cb]).run P w = .ok (.bool false) w := by
  have h1 : w.heap[b]? = some (.cells cs.toArray E (0, 0)) := by simpa [Qd.box] using (sw.perm hm.h.perm).at
  have h2 : w.heap[b2]? = some (.cells cs2.toArray E2 (0, 0)) := by simpa [Qd.box] using (sw.perm hm2.h.perm).at
  exact Lib.run_overlaps_apart w tS tR e ht s (fun w => run_sizeOf_of w hs) ⟨b, o, none⟩ ⟨b2, o2, none⟩ la ca lb cb hne E E2 cs.length cs2.length (by simp [World.shape?, h1]) (by simp [World.shape?, h2]) (by omega) (by simp [World.frozen?, h1]) (by simp [World.frozen?, h1])
/-- Two pieces that are both owned lie in two blocks. -/
theorem Sat.apart {B : World} {w : World} (sw : Sat B G (Qd.box b E cs :: Qd.box b2 E2 cs2 :: S) w) : b ≠ b2 := by
  obtain ⟨m, k, dj, hm, hk, hg, h1, h2, d2, rfl, hr, h3, h4, d3, rfl, hr2, hs⟩ := sw.heap
  rintro rfl
  have e1 : h1 = Hp.one b _ := hr
  have e2 : h3 = Hp.one b _ := hr2
  subst e1; subst e2
  rcases d2 b with e | e
  · simp [Hp.one] at e
  · have := (Hp.union_eq_none.1 e).1
    simp [Hp.one] at this
end
theorem ins_room {cs news : List Value} {n i s : Nat} (hi : i ≤ n) (hn : (n + 1) * s ≤ cs.length) (hl : news.length = s) :
    ((cs.take ((i + 1) * s) ++ (cs.drop (i * s)).take ((n - i) * s) ++ cs.drop ((i + 1) * s + (n - i) * s)).take (i * s) ++ news ++ (cs.take ((i + 1) * s) ++ (cs.drop (i * s)).take ((n - i) * s) ++ cs.drop ((i + 1) * s + (n - i) * s)).drop (i * s + 1 * s)).take ((n + 1) * s) = (cs.take (n * s)).take (i * s) ++ news ++ (cs.take (n * s)).drop (i * s) := by
  have a1 : i * s ≤ n * s := Nat.mul_le_mul_right _ hi
  have a2 : (n + 1) * s = n * s + s := Nat.succ_mul ..
  have a3 : (i + 1) * s = i * s + s := Nat.succ_mul ..
  have a4 : (n - i) * s = n * s - i * s := Nat.sub_mul ..
  rw [a2] at hn ⊢
  rw [a3, a4, Nat.one_mul]
  obtain ⟨I, hI⟩ : ∃ I, I = i * s := ⟨_, rfl⟩
  obtain ⟨N, hN⟩ : ∃ N, N = n * s := ⟨_, rfl⟩
  rw [← hI, ← hN] at a1 ⊢
  rw [← hN] at hn
  obtain ⟨A, X, Y, rfl, hA, hX⟩ : ∃ A X Y : List Value, cs = A ++ (X ++ Y) ∧ A.length = I ∧ X.length = N - I :=
    ⟨cs.take I, (cs.drop I).take (N - I), (cs.drop I).drop (N - I), by rw [List.take_append_drop, List.take_append_drop], by rw [List.length_take]; omega, by rw [List.length_take, List.length_drop]; omega⟩
  rw [List.length_append, List.length_append] at hn
  obtain ⟨W, hW, hWl⟩ : ∃ W, (A ++ (X ++ Y)).take (I + s) = A ++ W ∧ W.length = s := ⟨(X ++ Y).take s, by rw [← hA, List.take_length_add_append], by rw [List.length_take, List.length_append]; omega⟩
  generalize (A ++ (X ++ Y)).drop (I + s + (N - I)) = D
  have e1 : (A ++ (X ++ Y)).drop I = X ++ Y := List.drop_left' hA
  have e2 : (X ++ Y).take (N - I) = X := List.take_left' hX
  have e3 : (A ++ (X ++ Y)).take N = A ++ X := by rw [← List.append_assoc]; exact List.take_left' (by rw [List.length_append]; omega)
  rw [hW, e1, e2, e3, List.take_left' hA, List.drop_left' hA]
  have e4 : (A ++ W ++ X ++ D).take I = A := by rw [List.append_assoc, List.append_assoc]; exact List.take_left' hA
  have e5 : (A ++ W ++ X ++ D).drop (I + s) = X ++ D := by rw [List.append_assoc]; exact List.drop_left' (by rw [List.length_append]; omega)
  rw [e4, e5, ← List.append_assoc]
  exact List.take_left' (by rw [List.length_append, List.length_append]; omega)
/-- .. and in a new row: what stood ahead, the new one, and what stood behind. -/
theorem ins_new {cs cs2 news zz : List Value} {n i s : Nat} (hi : i ≤ n) (hn : n * s ≤ cs.length) (hl : news.length = s) (hzz : zz.length = (n + 1 - i) * s) (h2 : cs2.take ((n + 1) * s) = cs.take (i * s) ++ zz) (hl2 : (n + 1) * s ≤ cs2.length) :
    ((cs2.take (i * s) ++ news ++ cs2.drop (i * s + 1 * s)).take ((i + 1) * s) ++ (cs.drop (i * s)).take ((n - i) * s) ++ (cs2.take (i * s) ++ news ++ cs2.drop (i * s + 1 * s)).drop ((i + 1) * s + (n - i) * s)).take ((n + 1) * s) = (cs.take (n * s)).take (i * s) ++ news ++ (cs.take (n * s)).drop (i * s) := by
  have a1 : i * s ≤ n * s := Nat.mul_le_mul_right _ hi
  have a2 : (n + 1) * s = n * s + s := Nat.succ_mul ..
  have a3 : (i + 1) * s = i * s + s := Nat.succ_mul ..
  have a4 : (n - i) * s = n * s - i * s := Nat.sub_mul ..
  rw [a2] at h2 hl2 ⊢
  rw [a3, a4, Nat.one_mul]
  obtain ⟨I, hI⟩ : ∃ I, I = i * s := ⟨_, rfl⟩
  obtain ⟨N, hN⟩ : ∃ N, N = n * s := ⟨_, rfl⟩
  rw [← hI, ← hN] at a1 ⊢
  rw [← hI, ← hN] at h2
  rw [← hN] at hl2 hn
  have e0 : cs2.take I = cs.take I := by
    have := congrArg (List.take I) h2
    rw [List.take_take, Nat.min_eq_left (by omega), List.take_left' (by rw [List.length_take]; omega)] at this
    exact this
  obtain ⟨A, X, Y, rfl, hA, hX⟩ : ∃ A X Y : List Value, cs = A ++ (X ++ Y) ∧ A.length = I ∧ X.length = N - I :=
    ⟨cs.take I, (cs.drop I).take (N - I), (cs.drop I).drop (N - I), by rw [List.take_append_drop, List.take_append_drop], by rw [List.length_take]; omega, by rw [List.length_take, List.length_drop]; omega⟩
  generalize cs2.drop (I + s) = D
  rw [e0, List.take_left' hA]
  have e1 : (A ++ (X ++ Y)).drop I = X ++ Y := List.drop_left' hA
  have e2 : (X ++ Y).take (N - I) = X := List.take_left' hX
  have e3 : (A ++ (X ++ Y)).take N = A ++ X := by rw [← List.append_assoc]; exact List.take_left' (by rw [List.length_append]; omega)
  have e4 : (A ++ news ++ D).take (I + s) = A ++ news := List.take_left' (by rw [List.length_append]; omega)
  rw [e4, e1, e2, e3, List.take_left' hA, List.drop_left' hA]
  exact List.take_left' (by rw [List.length_append, List.length_append]; omega)
/-! The walk's own: cap, slices at sums, appends whose two types differ -/
class NatI (z : Int) (k : outParam Nat) : Prop where
  h : z = (k : Int)
instance {k : Nat} : NatI ((k : Nat) : Int) k := ⟨rfl⟩
instance {a b : Int} {i j : Nat} [h1 : NatI a i] [h2 : NatI b j] : NatI (a + b) (i + j) := ⟨by rw [h1.h, h2.h]; rfl⟩
instance : NatI 1 1 := ⟨rfl⟩
section
variable {P : Program} {n : Nat} {Q : Exit → Act → World → Prop} {B : Base} {env : Env} {G : List Pers} {S S' S2 : List Res} {L rest : List Oper}
variable {d b m c s : Nat} {ty : TypeId} {pos : String} {af : Array Edge} {x y : Operand} {T T' E E' : TypeId} {u v : Value}
instance (priority := 300) {kl : IntKind} {z : Int} {i : Nat} [hz : NatI z i] [hT : TU P T (.slice E)] [hs : TS P E s] : V (SliceV P n L Q rest B env G S d T (.slice (some ⟨b, 0, none⟩) m c) (some (.int kl z)) none none) (Side (i ≤ m) (WL P n L Q rest B ((d, .slice (some (adr b i c s)) (m - i) (c - i)) :: env) G S)) := ⟨fun h => by rw [hz.h]; exact .opnLow i h.c h.p⟩
instance (priority := 300) {kl : IntKind} {z : Int} {i : Nat} [hz : NatI z i] [hT : TU P T (.slice E)] [hs : TS P E s] : V (SliceV P n L Q rest B env G S d T (.slice (some ⟨b, 0, none⟩) m c) none (some (.int kl z)) none) (Side (i ≤ c) (WL P n L Q rest B ((d, .slice (some ⟨b, 0, none⟩) i c) :: env) G S)) := ⟨fun h => by rw [hz.h]; exact .opnH i h.c h.p⟩
instance (priority := 400) {kl : IntKind} {i : Int} [hT : TU P T (.slice E)] [hs : TS P E s] : V (SliceV P n L Q rest B env G S d T (.slice none 0 0) (some (.int kl i)) none none) (Side (i = 0) (WL P n L Q rest B ((d, .slice none 0 0) :: env) G S)) := ⟨fun h => by
  obtain ⟨rfl, h⟩ := h
  have hT' : P.underlying T = some (.slice (P.elem T)) := by simp [Program.elem, hT.h]
  have hel : P.elem T = E := by simp [Program.elem, hT.h]
  refine ⟨fun w sw => ⟨_, ?_, G, sw, h⟩⟩
  have := run_slice_l (P := P) w T none 0 0 hT' kl 0 (by omega) (by omega)
  rw [run_sliceAt_slice w T _ _ _ _ hT', this, hel, run_sizeOf_of w hs.h]; simp [Go.sliced]⟩
theorem WL.cap {p : Option Addr} (hx : env.ev x = some (.slice p m c)) [hT : TU P T (.slice E)] (hd : Nat.blt d n = true) (h : WL P n L Q rest B ((d, .int .i64 (c : Int)) :: env) G S) : WL P n L Q (⟨some d, .call ⟨.builtin .cap, #[x], #[T]⟩, ty, pos, af, none⟩ :: rest) B env G S :=
  .val rfl rfl hd (fun ac w sa _ => by simp [execOp, resolve, invoke, builtin, sa.ev hx, Builtin.cap_, run_underlying hT.h, goInt]) h
instance [hT : TU P T (.slice E)] : V (WL P n L Q (⟨some d, .call ⟨.builtin .cap, #[x], #[T]⟩, ty, pos, af, none⟩ :: rest) B env G S) (∃ m c p, env.ev x = some (.slice p m c) ∧ Nat.blt d n = true ∧ WL P n L Q rest B ((d, .int .i64 ((c : Nat) : Int)) :: env) G S) := ⟨fun ⟨_, _, _, h1, h2, h3⟩ => .cap h1 h2 h3⟩
theorem run_append_types {w : World} [hT : TU P T (.slice E)] [hT' : TU P T' (.slice E')] : (Builtin.append_ #[T, T'] ty #[v, u]).run P w = (Builtin.append_ #[T, T] ty #[v, u]).run P w := by
  cases v <;> simp [Builtin.append_, run_underlying hT.h, run_underlying hT'.h]
theorem WL.append2 (hx : env.ev x = some v) (hy : env.ev y = some u) (hd : Nat.blt d n = true) [hT : TU P T (.slice E)] [hT' : TU P T' (.slice E')] (h : AppV P n L Q rest B env G S d T v u) :
    WL P n L Q (⟨some d, .call ⟨.builtin .append, #[x, y], #[T, T']⟩, ty, pos, af, none⟩ :: rest) B env G S := by
  refine ⟨fun a w sa sw => wpList_plain rfl fun K hK => ?_⟩
  obtain ⟨v', w', hr, hh⟩ := h.go ty a w sa sw
  unfold Oper.wp
  have r1 : (execOp a.eval ⟨some d, .call ⟨.builtin .append, #[x, y], #[T, T']⟩, ty, pos, af, none⟩).run P w = .ok (.value v') w' := by
    simp [execOp, resolve, invoke, builtin, sa.ev hx, sa.ev hy, run_append_types, hr]
  rw [r1, Oper.upon_value]
  exact hK _ _ (hh _ (sa.put hd v'))
instance (priority := 100) [hT : TU P T (.slice E)] [hT' : TU P T' (.slice E')] : V (WL P n L Q (⟨some d, .call ⟨.builtin .append, #[x, y], #[T, T']⟩, ty, pos, af, none⟩ :: rest) B env G S) (∃ v, env.ev x = some v ∧ ∃ u, env.ev y = some u ∧ Nat.blt d n = true ∧ AppV P n L Q rest B env G S d T v u) := ⟨fun ⟨_, h1, _, h2, h3, h4⟩ => .append2 h1 h2 h3 h4⟩
theorem AppV.sat (hs : ∀ w, Sat B G S w → Sat B G S' w) (h : AppV P n L Q rest B env G S' d T v u) : AppV P n L Q rest B env G S d T v u := ⟨fun ty a w sa sw => h.go ty a w sa (hs w sw)⟩
end
end Go.Qd
