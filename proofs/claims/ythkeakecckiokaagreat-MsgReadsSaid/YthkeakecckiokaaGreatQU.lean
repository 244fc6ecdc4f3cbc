import Derived.Test.YthkeakecckiokaaGreatQBit
import Derived.Test.YthkeakecckiokaaGreatQAuto
namespace Go.Qd
open Go
def u8s (l : List UInt8) : List Value := l.map fun b => .int .u8 (b.toNat : Int)
theorem flat_u8s (l : List UInt8) : flat (l.map fun b => .int .u8 (b.toNat : Int)) = u8s l := flat_map_one (fun _ => rfl) l
theorem u8s_append (l m : List UInt8) : u8s (l ++ m) = u8s l ++ u8s m := by simp [u8s]
instance {G : List Pers} {S : List Res} {l : List UInt8} : OnesC G S (u8s l) := ⟨fun _ _ _ u hu => by
  simp only [u8s, List.mem_map] at hu
  obtain ⟨_, _, rfl⟩ := hu
  rfl⟩
theorem wrap_u8_nat (m : Nat) : IntKind.u8.wrap (m : Int) = ((UInt8.ofNat m).toNat : Int) := by
  have : IntKind.u8.wrap (m : Int) = (m : Int) % 256 := by
    simp [IntKind.wrap, IntKind.signed, IntKind.bits]
  rw [this]; simp
theorem get_ex {α : Type} {l : List α} {k : Nat} (h : k < l.length) : ∃ x, l[k]? = some x ∧ l.take (k + 1) = l.take k ++ [x] :=
  ⟨l[k], List.getElem?_eq_getElem h, by rw [List.take_succ_eq_append_getElem h]⟩
/-- The first part ends in one known state, whatever ways lead there. -/
theorem WC.cut {P : Program} {n : Nat} {Q : Exit → Act → World → Prop} {B : Base} {env : Env} {G : List Pers} {S : List Res} {a b : Code} (env' : Env) (G' : List Pers) (S' : List Res)
    (h1 : ∀ K : Act → World → Prop, WK n K B env' G' S' → WC P n a (Exit.then K Q) B env G S) (h2 : WC P n b Q B env' G' S') : WC P n (.seq a b) Q B env G S :=
  .seq fun K hK => h1 K (hK _ _ _ h2)
end Go.Qd
