/-
  The library's builder of texts, walked.
-/
import Derived.Test.YtkpblibaddjcgaaDoorQBld
import Derived.Test.YtkpblibaddjcgaaDoorQTab
import Derived.Test.YtkpblibaddjcgaaDoorQZ
import Derived.Lib.Builder
import Derived.Laws.Externs
import Derived.Lib.UnsafeStr
import Derived.Lib.MakeNoZero
import Derived.WalkKit
import Derived.Shelf.RegionOpenPlain
namespace Go.Qd
open Go Go.Proofs
abbrev pB (b : Nat) : Value := .pointer (some ⟨b, 0, none⟩)
instance noEscape_ext {v : Value} : ExtF Tryd.prog 36 [v] v :=
  ⟨Ext.mk' Tryd.func36 (by kernel_rfl) (by kernel_rfl) (by kernel_rfl) (e := Extern.AbiNoEscape.same) (by kernel_rfl) (fun _ => rfl)⟩
theorem bld_size : (Tryd.prog.info? 42).map (·.size) = some 2 := by kernel_rfl
theorem bld_lies : liesAt Tryd.prog Tryd.prog.depth 42 (2 / Tryd.prog.cellsOf 42) 0 42 1 = true := by kernel_rfl
theorem pbld_und : Tryd.prog.underlying 39 = some (.pointer 42) := by kernel_rfl
theorem unsafe_und : Tryd.prog.underlying 61 = some .unsafePointer := by kernel_rfl
set_option maxHeartbeats 1600000 in
theorem copyCheck_new (b : Nat) (v : Value) : Fun Tryd.prog 26 [pB b] [] [box b 42 [.pointer none, v]] (fun z G S => z = .tuple #[] ∧ G = [] ∧ S = [box b 42 [pB b, v]]) := by
  refine Fun.enter Tryd.func26 (by kernel_rfl) rfl Tryd.ntmps26 rfl (fun B Gf Sf => ?_); (try simp only [List.cons_append]); (try simp only [List.nil_append]); simp only [argEnv]
  obtain ⟨j, hj, hjs⟩ := Option.map_eq_some_iff.1 bld_size
  have hsh : ∀ {B w : World} {G : List Pers} {S : List Res}, Sat B G (box b 42 [.pointer none, v] :: S) w → w.shape? b = some (42, 2) := fun sw => by
    have := sw.at
    simp [World.shape?, this]
  (repeat (first | refine vgo ?_ | refine ⟨_, rfl, rfl, ?_⟩ | refine ⟨_, rfl, ?_⟩ | refine ⟨rfl, ?_⟩ | intro hb | refine altA ?_ | refine altR ?_ | refine sideA ?_ | refine decTA ?_ | refine decFA ?_ | refine decNA ?_ | refine decBTA ?_ | refine decBFA ?_ | refine ⟨_, by assumption, ?_⟩ | refine ⟨_, _, _, rfl, ?_⟩ | refine WC.seq (fun K hK => ?_) | (refine hK _ _ _ ?_; clear hK K) | (refine hK _ _ _ _ rfl ?_; clear hK K) | (refine WX.thenExit (K := K) ?_; clear hK K) | (refine WX.thenExit (K := KL) ?_; clear hL KL)))
  refine ⟨fun x ty pos af h1 h2 => .val (v := pB b) rfl rfl h2 (fun a w sa sw => ?_) ?_⟩
  · simp [execOp, sa.ev h1, Lib.run_to_unsafe w ⟨b, 0, none⟩ pbld_und unsafe_und hj (by rw [hjs]; decide) (hsh sw) (Nat.zero_lt_succ 1)]
  (repeat (first | refine vgo ?_ | refine ⟨_, rfl, rfl, ?_⟩ | refine ⟨_, rfl, ?_⟩ | refine ⟨rfl, ?_⟩ | intro hb | refine altA ?_ | refine altR ?_ | refine sideA ?_ | refine decTA ?_ | refine decFA ?_ | refine decNA ?_ | refine decBTA ?_ | refine decBFA ?_ | refine ⟨_, by assumption, ?_⟩ | refine ⟨_, _, _, rfl, ?_⟩ | refine WC.seq (fun K hK => ?_) | (refine hK _ _ _ ?_; clear hK K) | (refine hK _ _ _ _ rfl ?_; clear hK K) | (refine WX.thenExit (K := K) ?_; clear hK K) | (refine WX.thenExit (K := KL) ?_; clear hL KL)))
  refine ⟨fun x ty pos af h1 h2 => .val (v := pB b) rfl rfl h2 (fun a w sa sw => ?_) ?_⟩
  · simp [execOp, sa.ev h1, Lib.run_from_unsafe w ⟨b, 0, none⟩ unsafe_und pbld_und hj (hsh sw) bld_lies]
  (repeat (first | refine vgo ?_ | refine ⟨_, rfl, rfl, ?_⟩ | refine ⟨_, rfl, ?_⟩ | refine ⟨rfl, ?_⟩ | intro hb | refine altA ?_ | refine altR ?_ | refine sideA ?_ | refine decTA ?_ | refine decFA ?_ | refine decNA ?_ | refine decBTA ?_ | refine decBFA ?_ | refine ⟨_, by assumption, ?_⟩ | refine ⟨_, _, _, rfl, ?_⟩ | refine WC.seq (fun K hK => ?_) | (refine hK _ _ _ ?_; clear hK K) | (refine hK _ _ _ _ rfl ?_; clear hK K) | (refine WX.thenExit (K := K) ?_; clear hK K) | (refine WX.thenExit (K := KL) ?_; clear hL KL)))
  exact WX.end0 rfl (fun w sw => ⟨[], _, ⟨rfl, rfl, rfl⟩, sw.to⟩)
set_option maxHeartbeats 1600000 in
theorem copyCheck_old (b : Nat) (v : Value) : Fun Tryd.prog 26 [pB b] [] [box b 42 [pB b, v]] (fun z G S => z = .tuple #[] ∧ G = [] ∧ S = [box b 42 [pB b, v]]) := by
  refine Fun.enter Tryd.func26 (by kernel_rfl) rfl Tryd.ntmps26 rfl (fun B Gf Sf => ?_); (try simp only [List.cons_append]); (try simp only [List.nil_append]); simp only [argEnv]
  obtain ⟨j, hj, hjs⟩ := Option.map_eq_some_iff.1 bld_size
  (repeat (first | refine vgo ?_ | refine ⟨_, rfl, rfl, ?_⟩ | refine ⟨_, rfl, ?_⟩ | refine ⟨rfl, ?_⟩ | intro hb | refine altA ?_ | refine altR ?_ | refine sideA ?_ | refine decTA ?_ | refine decFA ?_ | refine decNA ?_ | refine decBTA ?_ | refine decBFA ?_ | refine ⟨_, by assumption, ?_⟩ | refine ⟨_, _, _, rfl, ?_⟩ | refine WC.seq (fun K hK => ?_) | (refine hK _ _ _ ?_; clear hK K) | (refine hK _ _ _ _ rfl ?_; clear hK K) | (refine WX.thenExit (K := K) ?_; clear hK K) | (refine WX.thenExit (K := KL) ?_; clear hL KL)))
  refine ⟨.bool false, fun x y w _ => by
    have r := Lib.run_neq_ptr_same (P := Tryd.prog) w ⟨b, 0, none⟩ pbld_und hj
    simp [eqGuard, r], ?_⟩
  (repeat (first | refine vgo ?_ | refine ⟨_, rfl, rfl, ?_⟩ | refine ⟨_, rfl, ?_⟩ | refine ⟨rfl, ?_⟩ | intro hb | refine altA ?_ | refine altR ?_ | refine sideA ?_ | refine decTA ?_ | refine decFA ?_ | refine decNA ?_ | refine decBTA ?_ | refine decBFA ?_ | refine ⟨_, by assumption, ?_⟩ | refine ⟨_, _, _, rfl, ?_⟩ | refine WC.seq (fun K hK => ?_) | (refine hK _ _ _ ?_; clear hK K) | (refine hK _ _ _ _ rfl ?_; clear hK K) | (refine WX.thenExit (K := K) ?_; clear hK K) | (refine WX.thenExit (K := KL) ?_; clear hL KL)))
  exact WX.end0 rfl (fun w sw => ⟨[], _, ⟨rfl, rfl, rfl⟩, sw.to⟩)
/-- A builder that holds bytes. -/
abbrev bldS (b : Nat) (p v : Value) (l : List UInt8) : List Res := [box b 42 [p, v], own 5 1 v l.length (l.map cU)]
theorem copyCheck_fun {b : Nat} {p v : Value} (hp : p = .pointer none ∨ p = pB b) : Fun Tryd.prog 26 [pB b] [] [box b 42 [p, v]] (fun z G S => z = .tuple #[] ∧ G = [] ∧ S = [box b 42 [pB b, v]]) := by
  rcases hp with rfl | rfl
  · exact copyCheck_new b v
  · exact copyCheck_old b v
set_option maxHeartbeats 1600000 in
theorem writeString_fun {b : Nat} {p v : Value} {l : List UInt8} (k : List UInt8) (hp : p = .pointer none ∨ p = pB b) (hl : l.length + k.length ≤ 140737488355328) :
    Fun Tryd.prog 16 [pB b, .string (bs k)] [] (bldS b p v l) (fun z G S => z = .tuple #[.int .i64 (k.length : Nat), .nilIface] ∧ G = [] ∧ ∃ v', capV v ≤ capV v' ∧ S = bldS b (pB b) v' (l ++ k)) := by
  refine Fun.enter Tryd.func16 (by kernel_rfl) rfl Tryd.ntmps16 rfl (fun B Gf Sf => ?_); (try simp only [List.cons_append]); (try simp only [List.nil_append]); simp only [argEnv]
  (repeat (first | refine vgo ?_ | refine ⟨_, rfl, rfl, ?_⟩ | refine ⟨_, rfl, ?_⟩ | refine ⟨rfl, ?_⟩ | intro hb | refine altA ?_ | refine altR ?_ | refine sideA ?_ | refine decTA ?_ | refine decFA ?_ | refine decNA ?_ | refine decBTA ?_ | refine decBFA ?_ | refine ⟨_, by assumption, ?_⟩ | refine ⟨_, _, _, rfl, ?_⟩ | refine WC.seq (fun K hK => ?_) | (refine hK _ _ _ ?_; clear hK K) | (refine hK _ _ _ _ rfl ?_; clear hK K) | (refine WX.thenExit (K := K) ?_; clear hK K) | (refine WX.thenExit (K := KL) ?_; clear hL KL)))
  refine CallV.by' (copyCheck_fun (v := v) hp) ?_; rintro _ _ _ ⟨rfl, rfl, rfl⟩; (try simp only [List.cons_append]); (try simp only [List.nil_append])
  (repeat (first | refine vgo ?_ | refine ⟨_, rfl, rfl, ?_⟩ | refine ⟨_, rfl, ?_⟩ | refine ⟨rfl, ?_⟩ | intro hb | refine altA ?_ | refine altR ?_ | refine sideA ?_ | refine decTA ?_ | refine decFA ?_ | refine decNA ?_ | refine decBTA ?_ | refine decBFA ?_ | refine ⟨_, by assumption, ?_⟩ | refine ⟨_, _, _, rfl, ?_⟩ | refine WC.seq (fun K hK => ?_) | (refine hK _ _ _ ?_; clear hK K) | (refine hK _ _ _ _ rfl ?_; clear hK K) | (refine WX.thenExit (K := K) ?_; clear hK K) | (refine WX.thenExit (K := KL) ?_; clear hL KL)))
  refine WL.appendStr rfl rfl rfl hl (fun v' hv' => ?_)
  (repeat (first | refine vgo ?_ | refine ⟨_, rfl, rfl, ?_⟩ | refine ⟨_, rfl, ?_⟩ | refine ⟨rfl, ?_⟩ | intro hb | refine altA ?_ | refine altR ?_ | refine sideA ?_ | refine decTA ?_ | refine decFA ?_ | refine decNA ?_ | refine decBTA ?_ | refine decBFA ?_ | refine ⟨_, by assumption, ?_⟩ | refine ⟨_, _, _, rfl, ?_⟩ | refine WC.seq (fun K hK => ?_) | (refine hK _ _ _ ?_; clear hK K) | (refine hK _ _ _ _ rfl ?_; clear hK K) | (refine WX.thenExit (K := K) ?_; clear hK K) | (refine WX.thenExit (K := KL) ?_; clear hL KL)))
  refine WX.ret2 rfl rfl rfl (fun w sw => ⟨[], _, ⟨rfl, rfl, v', hv', rfl⟩, ?_⟩)
  simp only [bldS, List.length_append, List.map_append]
  exact sw.to
set_option maxHeartbeats 1600000 in
theorem writeByte_fun {b : Nat} {p v : Value} {l : List UInt8} (c : UInt8) (hp : p = .pointer none ∨ p = pB b) (hl : l.length + 1 ≤ 140737488355328) :
    Fun Tryd.prog 31 [pB b, cU c] [] (bldS b p v l) (fun z G S => z = .nilIface ∧ G = [] ∧ ∃ v', S = bldS b (pB b) v' (l ++ [c])) := by
  refine Fun.enter Tryd.func31 (by kernel_rfl) rfl Tryd.ntmps31 rfl (fun B Gf Sf => ?_); (try simp only [List.cons_append]); (try simp only [List.nil_append]); simp only [argEnv]
  (repeat (first | refine vgo ?_ | refine ⟨_, rfl, rfl, ?_⟩ | refine ⟨_, rfl, ?_⟩ | refine ⟨rfl, ?_⟩ | intro hb | refine altA ?_ | refine altR ?_ | refine sideA ?_ | refine decTA ?_ | refine decFA ?_ | refine decNA ?_ | refine decBTA ?_ | refine decBFA ?_ | refine ⟨_, by assumption, ?_⟩ | refine ⟨_, _, _, rfl, ?_⟩ | refine WC.seq (fun K hK => ?_) | (refine hK _ _ _ ?_; clear hK K) | (refine hK _ _ _ _ rfl ?_; clear hK K) | (refine WX.thenExit (K := K) ?_; clear hK K) | (refine WX.thenExit (K := KL) ?_; clear hL KL)))
  refine CallV.by' (copyCheck_fun (v := v) hp) ?_; rintro _ _ _ ⟨rfl, rfl, rfl⟩; (try simp only [List.cons_append]); (try simp only [List.nil_append])
  (repeat (first | refine vgo ?_ | refine ⟨_, rfl, rfl, ?_⟩ | refine ⟨_, rfl, ?_⟩ | refine ⟨rfl, ?_⟩ | intro hb | refine altA ?_ | refine altR ?_ | refine sideA ?_ | refine decTA ?_ | refine decFA ?_ | refine decNA ?_ | refine decBTA ?_ | refine decBFA ?_ | refine ⟨_, by assumption, ?_⟩ | refine ⟨_, _, _, rfl, ?_⟩ | refine WC.seq (fun K hK => ?_) | (refine hK _ _ _ ?_; clear hK K) | (refine hK _ _ _ _ rfl ?_; clear hK K) | (refine WX.thenExit (K := K) ?_; clear hK K) | (refine WX.thenExit (K := KL) ?_; clear hL KL)))
  refine WX.ret1 rfl rfl (fun w sw => ⟨[], _, ⟨rfl, rfl, hb, rfl⟩, ?_⟩)
  have e : bldS b (pB b) hb (l ++ [c]) = [box b 42 [pB b, hb], own 5 1 hb (l.length + 1) (l.map cU ++ ([cU c] ++ []))] := by simp [bldS]
  rw [e]
  exact sw.to
theorem bldCap_fun {b c : Nat} {p : Value} {a : Option Addr} {m : Nat} : Fun Tryd.prog 30 [pB b] [] [box b 42 [p, .slice a m c]] (fun z G S => z = .int .i64 (c : Nat) ∧ G = [] ∧ S = [box b 42 [p, .slice a m c]]) := by
  refine Fun.enter Tryd.func30 (by kernel_rfl) rfl Tryd.ntmps30 rfl (fun B Gf Sf => ?_); (try simp only [List.cons_append]); (try simp only [List.nil_append]); simp only [argEnv]
  (repeat (first | refine vgo ?_ | refine ⟨_, rfl, rfl, ?_⟩ | refine ⟨_, rfl, ?_⟩ | refine ⟨rfl, ?_⟩ | intro hb | refine altA ?_ | refine altR ?_ | refine sideA ?_ | refine decTA ?_ | refine decFA ?_ | refine decNA ?_ | refine decBTA ?_ | refine decBFA ?_ | refine ⟨_, by assumption, ?_⟩ | refine ⟨_, _, _, rfl, ?_⟩ | refine WC.seq (fun K hK => ?_) | (refine hK _ _ _ ?_; clear hK K) | (refine hK _ _ _ _ rfl ?_; clear hK K) | (refine WX.thenExit (K := K) ?_; clear hK K) | (refine WX.thenExit (K := KL) ?_; clear hL KL)))
  exact WX.ret1 rfl rfl (fun w sw => ⟨[], _, ⟨rfl, rfl, rfl⟩, sw.to⟩)
end Go.Qd
