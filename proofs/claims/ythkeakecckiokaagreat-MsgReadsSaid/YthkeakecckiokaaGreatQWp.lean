import Derived.WalkKit
import Derived.WalkLawsBesides
import Derived.OrdersIn
import Derived.TacticsIn
import Derived.RangeFuncNested
namespace Go.Qd
open Go
/-! ### Operations and regions, in a frame of a call or of a round: the rules are the same, as long as nothing is deferred -/
abbrev Fr (r : Option Nat) : Fence := { Fence.wide with round := r }
theorem calls_fr {r : Option Nat} {n : Nat} {P : Program} {f : FuncId} {args : Array Value} {w : World} {R : Ending → World → Prop} (h : Calls P f args w R) : CallsIn (Fr r) n P f args w R :=
  (callsIn_wide (n := n)).2 h
theorem rows_fr {r : Option Nat} {n : Nat} {P : Program} {row : String} {args : Array Value} {w : World} {R : Value → World → Prop} (h : Rows P row args w R) : RowsIn (Fr r) n P row args w R :=
  fun c cs _ => let ⟨v, w', h1, h2⟩ := h c cs; ⟨v, w', h1, stepsIn_wide.2 h2⟩
theorem round_fr {r : Option Nat} {n m : Nat} {P : Program} {l : Nat} {f : FuncId} {tmps : Array Value} {assign body : Code} {w : World} {R : Ending → World → Prop} (h : RoundIn Fence.wide n P l f tmps assign body w R) : RoundIn (Fr r) m P l f tmps assign body w R :=
  ⟨trivial, fun c cs _ => h.2 c cs (room_wide _)⟩
def Oper.upon (P : Program) (o : Oper) (a : Act) (next : Act → World → Prop) (Q : Exit → Act → World → Prop) : Result Next → Prop
  | .ok (.value v) w' => next (a.put o.dst v) w'
  | .ok .skip w' => next (a.put o.dst undef) w'
  | .ok (.enter f args) w' => Calls P f args w' fun
      | .returned v, w'' => next (a.put o.dst v) w''
      | .panicked chain, w'' => Q (.panic chain) a w''
      | .outgrown, _ => LetsOut Q
  | .ok (.row row args) w' => Rows P row args w' fun v w'' => next (a.put o.dst v) w''
  | .ok (.round l f tmps assign body) w' => RoundIn Fence.wide 0 P l f tmps assign body w' fun
      | .returned v, w'' => next (a.put o.dst v) w''
      | .panicked chain, w'' => Q (.panic chain) a w''
      | .outgrown, _ => LetsOut Q
  | _ => False
def Oper.wp (P : Program) (o : Oper) (a : Act) (w : World) (next : Act → World → Prop) (Q : Exit → Act → World → Prop) : Prop := Oper.upon P o a next Q ((execOp a.eval o).run P w)
section
variable (P : Program) (o : Oper) (a : Act) (next : Act → World → Prop) (Q : Exit → Act → World → Prop) (w : World)
theorem Oper.upon_value (v : Value) : Oper.upon P o a next Q (.ok (.value v) w) = next (a.put o.dst v) w := rfl
theorem Oper.upon_skip : Oper.upon P o a next Q (.ok .skip w) = next (a.put o.dst undef) w := rfl
theorem Oper.upon_enter (f : FuncId) (args : Array Value) : Oper.upon P o a next Q (.ok (.enter f args) w) = Calls P f args w fun
    | .returned v, w'' => next (a.put o.dst v) w''
    | .panicked chain, w'' => Q (.panic chain) a w''
    | .outgrown, _ => LetsOut Q := rfl
theorem Oper.upon_round (l : Nat) (f : FuncId) (tmps : Array Value) (assign body : Code) : Oper.upon P o a next Q (.ok (.round l f tmps assign body) w) = RoundIn Fence.wide 0 P l f tmps assign body w fun
    | .returned v, w'' => next (a.put o.dst v) w''
    | .panicked chain, w'' => Q (.panic chain) a w''
    | .outgrown, _ => LetsOut Q := rfl
end
variable {P : Program} {ops : Array Oper} {Q : Exit → Act → World → Prop} {a : Act} {w : World} {rest : List Oper} {o : Oper}
theorem Oper.wp_in {K : Act → World → Prop} (r : Option Nat) (h : Oper.wp P o a w K Q) : o.wpIn (Fr r) 0 P a w K Q := by
  refine ⟨fun _ _ => trivial, ?_⟩
  have hs : (o.semAt r a.eval) = execOp a.eval o := by
    refine Oper.semAt_eq _ _ _ (fun c hc => ?_)
    unfold Oper.wp at h
    have : ∃ s : Sem Deferred, execOp a.eval o = (do let d ← s; pure (.defer d)) := ⟨resolve a.eval c o.type, by simp [execOp, hc]⟩
    obtain ⟨s, hs⟩ := this
    rw [hs, Sem.run_bind] at h
    cases hr : s.run P w with
    | ok d w' => rw [hr] at h; simp [Oper.upon] at h
    | halt x w' => rw [hr] at h; simp [Oper.upon] at h
  show o.uponIn (Fr r) 0 P a K Q ((o.semAt r a.eval).run P w)
  rw [hs]
  unfold Oper.wp at h
  generalize (execOp a.eval o).run P w = res at h
  cases res with
  | ok x w' =>
    cases x <;> simp only [Oper.upon] at h <;> simp only [Oper.uponIn] <;> first
      | exact h
      | exact ⟨fun e => (by cases e), calls_fr h⟩
      | exact ⟨fun e => (by cases e), rows_fr h⟩
      | exact ⟨fun e => (by cases e), round_fr h⟩
  | halt x w' => simp only [Oper.upon] at h
def wpList (P : Program) (ops : Array Oper) (Q : Exit → Act → World → Prop) : List Oper → Act → World → Prop
  | [], a, w => Q .normal a w
  | o :: rest, a, w => if Region.wanted o (yielded ops a.tmps) then Oper.wp P o a w (wpList P ops Q rest) Q else wpList P ops Q rest (a.put o.dst undef) w
theorem wpList_nil (h : Q .normal a w) : wpList P ops Q [] a w := h
theorem wpList_step (h : ∀ K : Act → World → Prop, (∀ a w, wpList P ops Q rest a w → K a w) → if Region.wanted o (yielded ops a.tmps) then Oper.wp P o a w K Q else K (a.put o.dst undef) w) : wpList P ops Q (o :: rest) a w := h _ (fun _ _ h => h)
theorem wpList_plain (hg : o.guard = none) (h : ∀ K : Act → World → Prop, (∀ a w, wpList P ops Q rest a w → K a w) → Oper.wp P o a w K Q) : wpList P ops Q (o :: rest) a w :=
  wpList_step fun K hK => by simp only [Region.wanted, hg, if_true]; exact h K hK
theorem Oper.wp_mono {K K' : Act → World → Prop} (h : ∀ a w, K a w → K' a w) (hh : Oper.wp P o a w K Q) : Oper.wp P o a w K' Q := by
  unfold Oper.wp at *
  generalize (execOp a.eval o).run P w = r at *
  cases r with
  | ok n w' =>
    cases n <;> simp only [Oper.upon] at hh ⊢ <;> first
      | exact h _ _ hh
      | exact Calls.mono hh (fun e w'' he => by cases e <;> first | exact h _ _ he | exact he)
      | exact Rows.mono hh (fun _ _ he => h _ _ he)
      | exact RoundIn.mono hh (fun e w'' he => by cases e <;> first | exact h _ _ he | exact he)
  | halt x w' => simp only [Oper.upon] at hh
theorem wpList_in (r : Option Nat) : ∀ (l : List Oper) (a : Act) (w : World), wpList P ops Q l a w → wpListIn (Fr r) 0 P ops Q l a w
  | [], _, _, h => h
  | o :: l, a, w, h => by
    unfold wpList at h
    unfold wpListIn
    split at h
    · rename_i hw
      rw [if_pos hw]
      exact Oper.wp_in r (Oper.wp_mono (fun a w h => wpList_in r l a w h) h)
    · rename_i hw
      rw [if_neg hw]
      exact ⟨fun _ _ => trivial, wpList_in r l _ _ h⟩
theorem wp_region_lit {r : Option Nat} {id : Nat} {l : List Oper} (h : wpList P l.toArray Q l a w) : (Code.region id l.toArray false).wpIn (Fr r) 0 P Q a w := wpIn_region_lit (wpList_in r _ _ _ h)
def wpOp (P : Program) (ops : Array Oper) (Q : Exit → Act → World → Prop) (i : Nat) (K : Act → World → Prop) (a : Act) (w : World) : Prop :=
  match ops[i]? with
  | none => K a w
  | some o => if Region.wanted o (yielded ops a.tmps) then Oper.wp P o a w K Q else K (a.put o.dst undef) w
theorem wpOp_mono {i : Nat} {K K' : Act → World → Prop} (h : ∀ a w, K a w → K' a w) (hh : wpOp P ops Q i K a w) : wpOp P ops Q i K' a w := by
  unfold wpOp at *
  split
  · exact h _ _ (by simpa [*] using hh)
  · rename_i o ho
    simp only [ho] at hh
    split
    · rename_i hw; simp only [hw, if_true] at hh; exact Oper.wp_mono h hh
    · rename_i hw; simp only [hw] at hh; exact h _ _ hh
theorem wpOp_in (r : Option Nat) {i : Nat} {K : Act → World → Prop} (h : wpOp P ops Q i K a w) : wpOpIn (Fr r) 0 P ops Q i K a w := by
  unfold wpOp at h
  unfold wpOpIn
  split
  · rename_i ho; simpa [ho] using h
  · rename_i o ho
    simp only [ho] at h
    split
    · rename_i hw; simp only [hw, if_true] at h; exact Oper.wp_in r h
    · rename_i hw; simp only [hw] at h; exact ⟨fun _ _ => trivial, h⟩
def wpAny (P : Program) (md : Region.Mode) (ops : Array Oper) (Q : Exit → Act → World → Prop) : Nat → Array Bool → Act → World → Prop
  | 0, listed, a, w => Region.ready md ops listed = [] ∧ Q .normal a w
  | fuel + 1, listed, a, w =>
    (Region.ready md ops listed = [] → Q .normal a w) ∧
    ∀ i ∈ Region.ready md ops listed, wpOp P ops Q i (wpAny P md ops Q fuel (listed.setIfInBounds i true)) a w
theorem wpAny_in (r : Option Nat) {md : Region.Mode} : ∀ (fuel : Nat) (listed : Array Bool) (a : Act) (w : World), wpAny P md ops Q fuel listed a w → wpAnyIn (Fr r) 0 P md ops Q fuel listed a w
  | 0, _, _, _, h => h
  | fuel + 1, _, _, _, h => ⟨h.1, fun i hi => wpOp_in r (wpOp_mono (fun a w h => wpAny_in r fuel _ a w h) (h.2 i hi))⟩
theorem wp_region_any {r : Option Nat} {id : Nat} (hm : P.follows .mixedOrders = true) (h : wpAny P .any ops Q ops.size (Array.replicate ops.size false) a { w with drawn := w.drawn + 1 }) : (Code.region id ops true).wpIn (Fr r) 0 P Q a w :=
  wpIn_region_any hm (wpAny_in r _ _ _ _ h)
/-! ### The base of a walk: the world at the call, the round in which it goes, the marks that loops over functions have left -/
structure Base where
  w : World
  r : Option Nat
  ds : List Deferred
instance : Coe Base World := ⟨Base.w⟩
instance : Coe World Base := ⟨fun w => ⟨w, none, []⟩⟩
class Clean (B : Base) : Prop where
  h : B.ds = []
instance {w : World} {r : Option Nat} : Clean ⟨w, r, []⟩ := ⟨rfl⟩
end Go.Qd
