/-
  Texts of a window: what may stand in a line, the program's function.
-/
import Derived.Test.YtkpblibaddjcgaaDoorPGr6
namespace Go.Qd
open Go Go.Proofs
/-- Bytes of the call's own, as the conversion of a text lays them. -/
def boxZ (b E : Nat) (cs : List Value) : Res := blk b (.cells cs.toArray E (cs.length, cs.length + 1))
section
variable {P : Program} {n : Nat} {Q : Exit → Act → World → Prop} {B : Base} {env : Env} {G : List Pers} {S S' : List Res} {L rest : List Oper}
variable {d : Nat} {ty : TypeId} {pos : String} {af : Array Edge} {x y : Operand} {T E : TypeId} {v : Value}
theorem WL.sbZ {src : TypeId} {D : TypeDesc} {l : List UInt8} (hx : env.ev x = some (.string (bs l))) [hs : TU P src D] [hT : TU P T (.slice E)] [hE : TU P E (.int .u8)] (hl : l.length ≤ 9223372036854775807) (hd : Nat.blt d n = true)
    (h : ∀ b c zs, l.length + zs.length = c → c ≤ maxLen → WL P n L Q rest B ((d, .slice (some ⟨b, 0, none⟩) l.length c) :: env) G (boxZ b E (l.map cU ++ zs) :: S)) : WL P n L Q (⟨some d, .convert src T x, ty, pos, af, none⟩ :: rest) B env G S := by
  refine ⟨fun ac w sa sw => ?_⟩
  have r := Go.Lib.run_convert_string_bytes (P := P) w src T E (bs l) hs.h hT.h hE.h
  rw [bs_size] at r
  refine wpList_plain rfl fun K hK => ?_
  unfold Oper.wp
  have r1 : (execOp ac.eval ⟨some d, .convert src T x, ty, pos, af, none⟩).run P w = .ok (.value (.slice (some ⟨w.heap.size, 0, none⟩) l.length (grownCap w l.length 0 E))) (Go.Lib.bytesWorld w E (bs l)) := by
    simp [execOp, sa.ev hx, r]
  rw [r1, Oper.upon_value]
  have hcm : grownCap w l.length 0 E ≤ maxLen := grownCap_le_maxLen _ _ _ _ (by simp only [maxLen]; omega)
  have hge : l.length ≤ grownCap w l.length 0 E := grownCap_ge _ _ _ _
  refine hK _ _ ((h w.heap.size (grownCap w l.length 0 E) (List.replicate (grownCap w l.length 0 E - l.length) (Value.int .u8 0)) (by rw [List.length_replicate]; omega) hcm).go _ _ (sa.put hd _) ?_)
  have h1 := (sw.drew.alloc (.cells (Go.Lib.bytesCells w E (bs l)) E)).set (w' := Go.Lib.bytesWorld w E (bs l)) (o' := .cells (Go.Lib.bytesCells w E (bs l)) E ((Go.Lib.bytesCells w E (bs l)).size, (Go.Lib.bytesCells w E (bs l)).size + 1))
    rfl rfl rfl (by rw [Go.Lib.bytesWorld_size]; simp [World.alloc, World.drew, -World.alloc_eq, -World.drew_eq]) (Go.Lib.bytesWorld_at_new w E (bs l)) (fun c hc hne => by
      have hc' : c < w.heap.size := by simp [World.alloc, World.drew, -World.alloc_eq, -World.drew_eq] at hc; have : w.drew.heap.size = w.heap.size := rfl; omega
      rw [Go.Lib.bytesWorld_at_old w E (bs l) c hc']
      simp [World.alloc, World.drew, -World.alloc_eq, -World.drew_eq, Array.getElem?_push]; omega)
  have e : Go.Lib.bytesCells w E (bs l) = (l.map cU ++ List.replicate (grownCap w l.length 0 E - l.length) (Value.int .u8 0)).toArray := by
    unfold Go.Lib.bytesCells
    rw [bs_size]
    apply Array.ext'
    simp [bs]
  rw [e] at h1
  unfold boxZ
  have e2 : (l.map cU ++ List.replicate (grownCap w l.length 0 E - l.length) (Value.int .u8 0)).toArray.size = (l.map cU ++ List.replicate (grownCap w l.length 0 E - l.length) (Value.int .u8 0)).length := by simp
  rw [e2] at h1
  exact h1
theorem Sat.z_cell {B w : World} {b : Nat} {cs : List Value} (h : Sat B G (boxZ b E cs :: S) w) (j : Nat) : w.cell? ⟨b, j, none⟩ = cs[j]? := by
  have := h.at
  simp [World.cell?, this]
theorem LoadV.z {b o : Nat} {cs : List Value} (hv : cs[o]? = some v) [hT : TA P T false] (h : WL P n L Q rest B ((d, v) :: env) G (boxZ b E cs :: S)) :
    LoadV P n L Q rest B env G (boxZ b E cs :: S) d T (.pointer (some ⟨b, o, none⟩)) :=
  ⟨v, fun w sw => by
    have := run_loadVar_plain w hT.h ((sw.z_cell o).trans hv)
    simp [Instr.loadAt, Instr.sureAddr, this], h⟩
theorem LodV.z {b o : Nat} {cs : List Value} (hv : cs[o]? = some v) [hT : TA P T false] (h : WL P n L Q rest B ((d, v) :: env) G (boxZ b E cs :: S)) :
    LodV P n L Q rest B env G (boxZ b E cs :: S) d T (.pointer (some ⟨b, o, none⟩)) :=
  ⟨fun w sw => ⟨v, by
    have := run_loadVar_plain w hT.h ((sw.z_cell o).trans hv)
    simp [Instr.loadAt, Instr.sureAddr, this], G, sw, h⟩⟩
theorem set_same {α : Type} {x : α} : ∀ {l : List α} {i : Nat}, l[i]? = some x → l.set i x = l
  | [], _, h => by simp at h
  | _ :: _, 0, h => by simp at h; simp [h]
  | _ :: l, i + 1, h => by
    simp at h
    rw [List.set_cons_succ, set_same (by simpa using h)]
theorem StV.z {b o : Nat} {cs : List Value} [hs : TS P T 1] (hl : o < cs.length) (h1 : v.cells.toList = [v]) (h2 : v.oneCell' = true)
    (h : WL P n L Q rest B env G (boxZ b E (cs.set o v) :: S)) : StV P n L Q rest B env G (boxZ b E cs :: S) T (.pointer (some ⟨b, o, none⟩)) v := by
  refine ⟨fun w sw => ⟨w.setCell ⟨b, o, none⟩ v, ?_, _, ?_, h⟩⟩
  · have hc := sw.z_cell o
    rw [List.getElem?_eq_getElem hl] at hc
    have hf : w.frozen? ⟨b, o, none⟩ = false := by
      have := sw.at
      simp [World.frozen?, this]
      omega
    have hvs : v.cells.size = 1 := by rw [← Array.length_toList, h1]; rfl
    have hone : ∀ j, j < [v].length → j = 0 := fun j hj => by simp at hj; exact hj
    have := run_storeCells_cells (P := P) b o [v] 0 w (fun j hj => by rw [hone j hj]; simp [hc]) (fun j hj => by rw [hone j hj]; exact hf) (by simpa using h2)
    have es : w.setCells b o [v] = w.setCell ⟨b, o, none⟩ v := rfl
    simp [Instr.storeAt, Instr.sureAddr, storeVar, run_sizeOf_of w hs.h, hvs, h1] at this ⊢
    rw [this, es]
  · have hb := sw.at
    have := Sat.set (w' := w.setCell ⟨b, o, none⟩ v) (o' := .cells (cs.set o v).toArray E (cs.length, cs.length + 1)) sw rfl rfl rfl (by simp [World.setCell]) (by simp [World.setCell, Array.getElem?_modify, hb]) (fun c _ hc => by
      simp only [World.setCell, Array.getElem?_modify]
      rw [if_neg (fun e => hc e.symm)])
    unfold boxZ
    rw [List.length_set]
    exact this
theorem Sat.z_pub {B w : World} {b c : Nat} {l : List UInt8} {zs : List Value} (h : Sat B G (boxZ b E (l.map cU ++ zs) :: S) w) (hc : l.length + zs.length = c) (hm : c ≤ maxLen) : Sat B (Qd.rd (Ty.sl Ty.u8) l (.slice (some ⟨b, 0, none⟩) l.length c) :: G) S w := by
  refine h.publish fun k hk => ?_
  have hk' : k = Hp.one b _ := hk
  subst hk'
  refine .inr ⟨b, 0, c, (l.map cU ++ zs).toArray, E, ((l.map cU ++ zs).length, (l.map cU ++ zs).length + 1), l.map fun b => .int .u8 (b.toNat : Int), rfl, by simp [Hp.one], by omega, hm, AllR.is.2 ⟨rfl, fun _ _ => trivial⟩, ?_⟩
  rw [List.drop_zero, flat_one (fun b : UInt8 => Value.int .u8 (b.toNat : Int)) (fun _ => rfl)]
  rw [show Ty.u8.sz = 1 from rfl, Nat.mul_one]
  simp
end
set_option maxHeartbeats 3200000 in
theorem clean_fun (l : List UInt8) (hl2 : l.length ≤ 2000000) : Fun Tryd.prog 14 [.string (bs l)] [tabsP] [] (fun z G S => z = .string (bs (cleanM l false)) ∧ G = [] ∧ S = []) := by
  refine Fun.enter Tryd.func14 (by kernel_rfl) rfl Tryd.ntmps14 rfl (fun B Gf Sf => ?_); (try simp only [List.cons_append]); (try simp only [List.nil_append]); simp only [argEnv]
  refine WC.seq (fun K hK => ?_)
  (repeat (first | refine vgo ?_ | refine ⟨_, rfl, rfl, ?_⟩ | refine ⟨_, rfl, ?_⟩ | refine ⟨rfl, ?_⟩ | intro hb | refine altA ?_ | refine altR ?_ | refine sideA ?_ | refine decTA ?_ | refine decFA ?_ | refine decNA ?_ | refine decBTA ?_ | refine decBFA ?_ | refine ⟨_, by assumption, ?_⟩ | refine ⟨_, _, _, rfl, ?_⟩ | (refine hK _ _ _ ?_; clear hK K) | (refine hK _ _ _ _ rfl ?_; clear hK K) | (refine WX.thenExit (K := K) ?_; clear hK K) | (refine WX.thenExit (K := KL) ?_; clear hL KL)))
  refine WC.seq (fun K hK => ?_)
  refine vgo ?_
  refine vgo ?_
  refine ⟨_, rfl, rfl, ?_⟩
  refine WL.sbZ rfl (by omega) rfl (fun b c zs hzs hm => ?_)
  (repeat (first | refine vgo ?_ | refine ⟨_, rfl, rfl, ?_⟩ | refine ⟨_, rfl, ?_⟩ | refine ⟨rfl, ?_⟩ | intro hb | refine altA ?_ | refine altR ?_ | refine sideA ?_ | refine decTA ?_ | refine decFA ?_ | refine decNA ?_ | refine decBTA ?_ | refine decBFA ?_ | refine ⟨_, by assumption, ?_⟩ | refine ⟨_, _, _, rfl, ?_⟩ | refine WC.seq (fun K hK => ?_) | (refine hK _ _ _ ?_; clear hK K) | (refine hK _ _ _ _ rfl ?_; clear hK K) | (refine WX.thenExit (K := K) ?_; clear hK K) | (refine WX.thenExit (K := KL) ?_; clear hL KL)))
  refine WC.loop (I := Nat) (fun i => [(3, .slice (some ⟨b, 0, none⟩) l.length c), (8, .slice (some ⟨b, 0, none⟩) l.length c), (9, .int .i64 (l.length : Nat)), (10, .int .i64 (i : Nat))]) (fun _ => tabsP :: Gf) (fun i => boxZ b 5 (((l.take i).map fC ++ l.drop i).map cU ++ zs) :: Sf) (fun i => i ≤ l.length) (fun i => l.length - i) 0 (Nat.zero_le _) (.cons rfl (.cons rfl (.cons rfl (.cons rfl .nil)))) (fun w h => by
    have e : (l.take 0).map fC ++ l.drop 0 = l := by simp
    rw [e]; exact h.to) ?_
  rintro i hi KL hL
  by_cases hi2 : i < l.length
  · obtain ⟨x, hx⟩ : ∃ x, l[i]? = some x := ⟨l[i], List.getElem?_eq_getElem hi2⟩
    generalize hmi : (l.take i).map fC ++ l.drop i = mi at *
    have hml : mi.length = l.length := by rw [← hmi]; simp; omega
    have hmx : (mi.map cU ++ zs)[i]? = some (cU x) := by
      rw [List.getElem?_append_left (by rw [List.length_map]; omega), List.getElem?_map, ← hmi, List.getElem?_append_right (by simp; omega)]
      simp only [List.length_map, List.length_take]
      rw [show i - min i l.length = 0 by omega, List.getElem?_drop, Nat.add_zero, hx]
      rfl
    have hset : (mi.map cU ++ zs).set i (cU (fC x)) = ((l.take (i + 1)).map fC ++ l.drop (i + 1)).map cU ++ zs := by
      have hsx : mi.set i (fC x) = (l.take (i + 1)).map fC ++ l.drop (i + 1) := by
        rw [← hmi, List.set_append_right _ _ (by simp; omega), List.take_add_one, hx, List.map_append]
        simp only [List.length_map, List.length_take]
        rw [show i - min i l.length = 0 by omega, List.drop_eq_getElem_cons hi2, List.set_cons_zero]
        simp
      rw [List.set_append_left _ _ (by rw [List.length_map]; omega), ← hsx, List.map_set]
    have hset0 : ctlB x = false → mi.map cU ++ zs = ((l.take (i + 1)).map fC ++ l.drop (i + 1)).map cU ++ zs := fun h => by
      rw [← hset, show fC x = x by unfold fC; rw [h]; rfl]
      exact (set_same hmx).symm
    have hil : i < (mi.map cU ++ zs).length := (List.getElem?_eq_some_iff.1 hmx).1
    have h63 : Value.int .u8 63 = cU 63 := rfl
    (repeat (first | refine vgo ?_ | refine ⟨_, rfl, rfl, ?_⟩ | refine ⟨_, rfl, ?_⟩ | refine ⟨rfl, ?_⟩ | intro hb | refine altA ?_ | refine altR ?_ | refine sideA ?_ | refine decTA ?_ | refine decFA ?_ | refine decNA ?_ | refine decBTA ?_ | refine decBFA ?_ | refine ⟨_, by assumption, ?_⟩ | refine ⟨_, _, _, rfl, ?_⟩ | refine WC.seq (fun K hK => ?_) | (refine hK _ _ _ ?_; clear hK K) | (refine hK _ _ _ _ rfl ?_; clear hK K) | (refine WX.thenExit (K := K) ?_; clear hK K) | (refine WX.thenExit (K := KL) ?_; clear hL KL)))
    refine .z hmx ?_
    by_cases h32 : x.toNat < 32
    · have hf : fC x = 63 := by unfold fC ctlB; simp [h32]
      rw [hf] at hset
      (repeat (first | refine vgo ?_ | refine ⟨_, rfl, rfl, ?_⟩ | refine ⟨_, rfl, ?_⟩ | refine ⟨rfl, ?_⟩ | intro hb | refine altA ?_ | refine altR ?_ | refine sideA ?_ | refine decTA ?_ | refine decFA ?_ | refine decNA ?_ | refine decBTA ?_ | refine decBFA ?_ | refine ⟨_, by assumption, ?_⟩ | refine ⟨_, _, _, rfl, ?_⟩ | refine WC.seq (fun K hK => ?_) | (refine hK _ _ _ ?_; clear hK K) | (refine hK _ _ _ _ rfl ?_; clear hK K) | (refine WX.thenExit (K := K) ?_; clear hK K) | (refine WX.thenExit (K := KL) ?_; clear hL KL)))
      refine .z hil rfl rfl ?_
      rw [h63, hset]
      (repeat (first | refine vgo ?_ | refine ⟨_, rfl, rfl, ?_⟩ | refine ⟨_, rfl, ?_⟩ | refine ⟨rfl, ?_⟩ | intro hb | refine altA ?_ | refine altR ?_ | refine sideA ?_ | refine decTA ?_ | refine decFA ?_ | refine decNA ?_ | refine decBTA ?_ | refine decBFA ?_ | refine ⟨_, by assumption, ?_⟩ | refine ⟨_, _, _, rfl, ?_⟩ | refine WC.seq (fun K hK => ?_) | (refine hK _ _ _ ?_; clear hK K) | (refine hK _ _ _ _ rfl ?_; clear hK K) | (refine WX.thenExit (K := K) ?_; clear hK K) | (refine WX.thenExit (K := KL) ?_; clear hL KL)))
      exact (hL (i + 1) (by omega) (by omega)).conv (.cons rfl (.cons rfl (.cons rfl (.cons rfl .nil)))) (fun w h => h.to)
    · by_cases h127 : x.toNat = 127
      · have hf : fC x = 63 := by unfold fC ctlB; simp [h127]
        rw [hf] at hset
        (repeat (first | refine vgo ?_ | refine ⟨_, rfl, rfl, ?_⟩ | refine ⟨_, rfl, ?_⟩ | refine ⟨rfl, ?_⟩ | intro hb | refine altA ?_ | refine altR ?_ | refine sideA ?_ | refine decTA ?_ | refine decFA ?_ | refine decNA ?_ | refine decBTA ?_ | refine decBFA ?_ | refine ⟨_, by assumption, ?_⟩ | refine ⟨_, _, _, rfl, ?_⟩ | refine WC.seq (fun K hK => ?_) | (refine hK _ _ _ ?_; clear hK K) | (refine hK _ _ _ _ rfl ?_; clear hK K) | (refine WX.thenExit (K := K) ?_; clear hK K) | (refine WX.thenExit (K := KL) ?_; clear hL KL)))
        refine .z hil rfl rfl ?_
        rw [h63, hset]
        (repeat (first | refine vgo ?_ | refine ⟨_, rfl, rfl, ?_⟩ | refine ⟨_, rfl, ?_⟩ | refine ⟨rfl, ?_⟩ | intro hb | refine altA ?_ | refine altR ?_ | refine sideA ?_ | refine decTA ?_ | refine decFA ?_ | refine decNA ?_ | refine decBTA ?_ | refine decBFA ?_ | refine ⟨_, by assumption, ?_⟩ | refine ⟨_, _, _, rfl, ?_⟩ | refine WC.seq (fun K hK => ?_) | (refine hK _ _ _ ?_; clear hK K) | (refine hK _ _ _ _ rfl ?_; clear hK K) | (refine WX.thenExit (K := K) ?_; clear hK K) | (refine WX.thenExit (K := KL) ?_; clear hL KL)))
        exact (hL (i + 1) (by omega) (by omega)).conv (.cons rfl (.cons rfl (.cons rfl (.cons rfl .nil)))) (fun w h => h.to)
      · have e := hset0 (by unfold ctlB; simp [h32, h127])
        rw [e]
        (repeat (first | refine vgo ?_ | refine ⟨_, rfl, rfl, ?_⟩ | refine ⟨_, rfl, ?_⟩ | refine ⟨rfl, ?_⟩ | intro hb | refine altA ?_ | refine altR ?_ | refine sideA ?_ | refine decTA ?_ | refine decFA ?_ | refine decNA ?_ | refine decBTA ?_ | refine decBFA ?_ | refine ⟨_, by assumption, ?_⟩ | refine ⟨_, _, _, rfl, ?_⟩ | refine WC.seq (fun K hK => ?_) | (refine hK _ _ _ ?_; clear hK K) | (refine hK _ _ _ _ rfl ?_; clear hK K) | (refine WX.thenExit (K := K) ?_; clear hK K) | (refine WX.thenExit (K := KL) ?_; clear hL KL)))
        exact (hL (i + 1) (by omega) (by omega)).conv (.cons rfl (.cons rfl (.cons rfl (.cons rfl .nil)))) (fun w h => h.to)
  · have hie : i = l.length := by omega
    subst hie
    have e : (l.take l.length).map fC ++ l.drop l.length = l.map fC := by simp
    rw [e]
    (repeat (first | refine vgo ?_ | refine ⟨_, rfl, rfl, ?_⟩ | refine ⟨_, rfl, ?_⟩ | refine ⟨rfl, ?_⟩ | intro hb | refine altA ?_ | refine altR ?_ | refine sideA ?_ | refine decTA ?_ | refine decFA ?_ | refine decNA ?_ | refine decBTA ?_ | refine decBFA ?_ | refine ⟨_, by assumption, ?_⟩ | refine ⟨_, _, _, rfl, ?_⟩ | refine WC.seq (fun K hK => ?_) | (refine hK _ _ _ ?_; clear hK K) | (refine hK _ _ _ _ rfl ?_; clear hK K) | (refine WX.thenExit (K := K) ?_; clear hK K) | (refine WX.thenExit (K := KL) ?_; clear hL KL)))
    refine ⟨fun x ty pos af h1 h2 => WL.sat (fun w sw => by
      have := sw.z_pub (l := l.map fC) (c := c) (by rw [List.length_map]; exact hzs) hm
      rw [List.length_map] at this
      exact this) (.cv h1 h2 (.bs (l := l.map fC) (fun hm2 => ?_)))⟩
    (repeat (first | refine vgo ?_ | refine ⟨_, rfl, rfl, ?_⟩ | refine ⟨_, rfl, ?_⟩ | refine ⟨rfl, ?_⟩ | intro hb | refine altA ?_ | refine altR ?_ | refine sideA ?_ | refine decTA ?_ | refine decFA ?_ | refine decNA ?_ | refine decBTA ?_ | refine decBFA ?_ | refine ⟨_, by assumption, ?_⟩ | refine ⟨_, _, _, rfl, ?_⟩ | refine WC.seq (fun K hK => ?_) | (refine hK _ _ _ ?_; clear hK K) | (refine hK _ _ _ _ rfl ?_; clear hK K) | (refine WX.thenExit (K := K) ?_; clear hK K) | (refine WX.thenExit (K := KL) ?_; clear hL KL)))
    refine CallV.by' (toValid_fun (l.map fC) (by rw [List.length_map]; exact hl2)) ?_; rintro _ _ _ ⟨rfl, rfl, rfl⟩; (try simp only [List.cons_append]); (try simp only [List.nil_append])
    rw [toV_map l.length l false (Nat.le_refl _)]
    (repeat (first | refine vgo ?_ | refine ⟨_, rfl, rfl, ?_⟩ | refine ⟨_, rfl, ?_⟩ | refine ⟨rfl, ?_⟩ | intro hb | refine altA ?_ | refine altR ?_ | refine sideA ?_ | refine decTA ?_ | refine decFA ?_ | refine decNA ?_ | refine decBTA ?_ | refine decBFA ?_ | refine ⟨_, by assumption, ?_⟩ | refine ⟨_, _, _, rfl, ?_⟩ | refine WC.seq (fun K hK => ?_) | (refine hK _ _ _ ?_; clear hK K) | (refine hK _ _ _ _ rfl ?_; clear hK K) | (refine WX.thenExit (K := K) ?_; clear hK K) | (refine WX.thenExit (K := KL) ?_; clear hL KL)))
    exact WX.ret1 rfl rfl (fun w sw => ⟨[], [], ⟨rfl, rfl, rfl⟩, sw.to⟩)
end Go.Qd
