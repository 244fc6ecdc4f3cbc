import Derived.Test.YthkeakecckiokaaGreatQZ
import Derived.Below
namespace Go.Qd
open Go Go.RowKit
/-! ### A proved contract of the kit's: old memory stays as it was -/
theorem Sat.below {B w w' : World} {G : List Pers} {S : List Res} (h : Sat B G S w) (b : Below w.heap.size w w') (hd : w.drawn ≤ w'.drawn) : Sat B G S w' := by
  obtain ⟨m, k, d, hm, hk, hg, hs⟩ := h.heap
  have old : ∀ (b : Nat) (o : Obj), w.heap[b]? = some o → w'.heap[b]? = some o := fun i o e => by
    rw [b.block i (Array.getElem?_eq_some_iff.1 e).1]; exact e
  exact ⟨b.os.trans h.os, b.tape.trans h.tape, b.output.trans h.output, ⟨Nat.le_trans h.size.1 b.size, h.size.2.on hd⟩, m, k, d, fun i o e => old i o (hm i o e), fun i o e => old i o (hk i o e), hg, hs⟩
theorem Fun.below {P : Program} {f : FuncId} {fn : Func} {args : List Value} {G : List Pers} {v : Value} (hf : P.funcs[f]? = some fn) (hname : (fn.name == "runtime.NumGoroutine") = false) (hb : fn.body.isNone = false)
    (h : ∀ B Gf S w, Sat B (G ++ Gf) S w → Calls P f args.toArray w fun e w' => e = .returned v ∧ Below w.heap.size w w' ∧ w.drawn ≤ w'.drawn) : Fun P f args G [] (fun r G' S' => r = v ∧ G' = [] ∧ S' = []) := by
  refine ⟨callFunc_go hf hname hb, fun B Gf Sf w sw => ?_⟩
  refine (h B Gf _ w sw).mono ?_
  rintro e w' ⟨rfl, hw, hd⟩
  exact ⟨v, [], [], rfl, ⟨rfl, rfl, rfl⟩, sw.below hw hd⟩
theorem Fun.same {P : Program} {f : FuncId} {fn : Func} {args : List Value} {G : List Pers} {v : Value} (hf : P.funcs[f]? = some fn) (hname : (fn.name == "runtime.NumGoroutine") = false) (hb : fn.body.isNone = false)
    (h : ∀ B Gf S w, Sat B (G ++ Gf) S w → Calls P f args.toArray w fun e w' => e = .returned v ∧ w' = w) : Fun P f args G [] (fun r G' S' => r = v ∧ G' = [] ∧ S' = []) :=
  .below hf hname hb fun B Gf S w sw => (h B Gf S w sw).mono fun e w' ⟨h1, h2⟩ => ⟨h1, by subst h2; exact ⟨.refl _ _, Nat.le_refl _⟩⟩
/-! ### Arrays of texts and of numbers, written out -/
abbrev sV (l : List UInt8) : Value := .string (bs l)
instance : OneG sV := ⟨fun _ => rfl⟩
class StrOps (vs : List Value) (ls : outParam (List (List UInt8))) : Prop where
  h : vs = ls.map sV
instance StrOps.nil : StrOps [] [] := ⟨rfl⟩
instance StrOps.cons {l : List UInt8} {vs : List Value} {ls : List (List UInt8)} [i : StrOps vs ls] : StrOps (.string ⟨l.toArray⟩ :: vs) (l :: ls) := ⟨by rw [i.h]; rfl⟩
class IntOps (vs : List Value) (ls : outParam (List Int)) : Prop where
  h : vs = ls.map iV
instance IntOps.nil : IntOps [] [] := ⟨rfl⟩
instance IntOps.cons {l : Int} {vs : List Value} {ls : List Int} [i : IntOps vs ls] : IntOps (.int .i64 l :: vs) (l :: ls) := ⟨by rw [i.h]; rfl⟩
def fullB (n : Nat) (is : List Nat) : Bool := is == List.range n
theorem putAll_full : ∀ (vs : List Value) (zs ws : List Value), zs.length = vs.length → putAll (ws ++ zs) ((List.range vs.length).map (ws.length + ·)) vs = some (ws ++ vs)
  | [], zs, ws, h => by
    obtain rfl := List.eq_nil_of_length_eq_zero h
    simp [putAll]
  | v :: vs, zs, ws, h => by
    obtain ⟨z, zs', rfl⟩ : ∃ z zs', zs = z :: zs' := by cases zs with
      | nil => simp at h
      | cons z zs' => exact ⟨z, zs', rfl⟩
    rw [List.length_cons, List.range_succ_eq_map, List.map_cons, putAll]
    have hb : Nat.blt (ws.length + 0) (ws ++ z :: zs').length = true := by rw [Nat.blt_eq]; simp
    rw [hb]
    have e : (ws ++ z :: zs').set (ws.length + 0) v = (ws ++ [v]) ++ zs' := by
      rw [Nat.add_zero, List.set_append_right _ _ (Nat.le_refl _)]; simp
    have e2 : ((List.range vs.length).map Nat.succ).map (ws.length + ·) = (List.range vs.length).map ((ws ++ [v]).length + ·) := by
      rw [List.map_map]; apply List.map_congr_left; intro a _; simp [Function.comp]; omega
    rw [e, e2, cond_true, putAll_full vs zs' (ws ++ [v]) (by simpa using h)]
    simp
theorem putAll_full0 {vs zs : List Value} {is : List Nat} (h : zs.length = vs.length) (hi : fullB vs.length is = true) : putAll zs is vs = some vs := by
  have := putAll_full vs zs [] h
  have e : is = List.range vs.length := by simpa [fullB] using hi
  rw [e]; simpa using this
section
variable {P : Program} {n : Nat} {Q : Exit → Act → World → Prop} {B : Base} {env : Env} {G : List Pers} {S S' : List Res} {L rest : List Oper} {K : Act → World → Prop}
variable {d sz : Nat} {ty : TypeId} {pos : String} {af : Array Edge} {x y z : Operand} {T T' E E' : TypeId} {u v v' : Value}
theorem BldV.full {α : Type} {g : α → Value} [hg : OneG g] {ops : List (Nat × Operand)} {vs zs : List Value} {ls : List α} {m : Nat} [hT : TU P T (.array m E)] [hs : TS P E 1] [hz : TZ P T zs] (he : vs = ls.map g) (hl : (Nat.beq zs.length vs.length && fullB vs.length (ops.map (·.1))) = true) (h : WL P n L Q rest B ((d, .agg (ls.map g).toArray) :: env) G S) : BldV P n L Q rest B env G S d T ops vs := by
  subst he
  rw [Bool.and_eq_true] at hl
  exact (inferInstance : V (BldV P n L Q rest B env G S d T ops (ls.map g)) _).go ⟨_, putAll_full0 (Nat.eq_of_beq_eq_true hl.1) hl.2, h⟩
instance (priority := 600) {ops : List (Nat × Operand)} {vs zs : List Value} {ls : List (List UInt8)} {m : Nat} [ho : StrOps vs ls] [hT : TU P T (.array m E)] [hs : TS P E 1] [hz : TZ P T zs] : V (BldV P n L Q rest B env G S d T ops vs) ((Nat.beq zs.length vs.length && fullB vs.length (ops.map (·.1))) = true ∧ WL P n L Q rest B ((d, .agg (ls.map sV).toArray) :: env) G S) := ⟨fun h => .full ho.h h.1 h.2⟩
instance (priority := 600) {ops : List (Nat × Operand)} {vs zs : List Value} {ls : List Int} {m : Nat} [ho : IntOps vs ls] [hT : TU P T (.array m E)] [hs : TS P E 1] [hz : TZ P T zs] : V (BldV P n L Q rest B env G S d T ops vs) ((Nat.beq zs.length vs.length && fullB vs.length (ops.map (·.1))) = true ∧ WL P n L Q rest B ((d, .agg (ls.map iV).toArray) :: env) G S) := ⟨fun h => .full ho.h h.1 h.2⟩
end
end Go.Qd
