/-
  Delivery: the document's world.
-/
import Derived.Test.YtijebmblhakbpaaPCau2
import Derived.Test.YtijebmblhakbpaaQU16
namespace Go.Qd
open Go Go.Proofs
def Ty.ptr : Ty Nat := .plain (fun b => .pointer (some ⟨b, 0, none⟩)) (fun _ => True) (fun _ => rfl)
instance : Ty.Is Ty.ptr (fun b => .pointer (some ⟨b, 0, none⟩)) (fun _ => True) := ⟨fun _ _ _ => Iff.rfl⟩
instance : Ty.NonAgg Ty.ptr := ⟨rfl⟩
instance : Ty.Sz Ty.ptr 1 := ⟨rfl, by decide⟩
abbrev EnI := Nat × Int × RE
abbrev pB (b : Nat) : Value := .pointer (some ⟨b, 0, none⟩)
abbrev enR (x : EnI) : Res := x.2.2.B x.1 x.2.1
def enO (A : List EnI) : Res := pack (A.map enR)
abbrev enG1 (A : List EnI) : Pers := rdAll (Ty.sl kpT) (A.map fun x => x.2.2.R) (A.map fun x => x.2.2.lv)
abbrev enG2 (A : List EnI) : Pers := rdAll (Ty.sl opFT) (A.map fun x => x.2.2.H) (A.map fun x => x.2.2.hv)
abbrev ptO (v : Value) (bs : List Nat) : Res := own 135 1 v bs.length (bs.map pB)
theorem AllR.set {α : Type} {R : Ty α} : ∀ {l : List α} {vs : List Value} {m : Hp} {i : Nat} {a : α} {v : Value}, AllR R l vs m → R.rel a v m → AllR R (l.set i a) (vs.set i v) m
  | [], [], _, _, _, _, _, _ => trivial
  | _ :: _, _ :: _, _, 0, _, _, ⟨_, h2⟩, h => ⟨h, h2⟩
  | _ :: _, _ :: _, _, i + 1, _, _, ⟨h1, h2⟩, h => ⟨h1, AllR.set (i := i) h2 h⟩
  | [], _ :: _, _, _, _, _, x, _ => x.elim
  | _ :: _, [], _, _, _, _, x, _ => x.elim
theorem perm_eraseIdx {α : Type} : ∀ {l : List α} {i : Nat} {a : α}, l[i]? = some a → l.Perm (a :: l.eraseIdx i)
  | [], _, _, h => by simp at h
  | x :: l, 0, a, h => by
    simp only [List.getElem?_cons_zero, Option.some.injEq] at h; subst h
    exact List.Perm.refl _
  | x :: l, i + 1, a, h => by
    rw [List.getElem?_cons_succ] at h
    exact ((perm_eraseIdx h).cons x).trans (List.Perm.swap _ _ _)
theorem flat_ptr : ∀ bs : List Nat, flat (bs.map pB) = bs.map pB
  | [] => rfl
  | b :: bs => by rw [List.map_cons, flat_cons, flat_ptr bs]; rfl
theorem opflat_seg (t : List Value) : ∀ {L : List OpF} {i : Nat} {x : OpF}, (∀ a ∈ L, a.f.length = 64) → L[i]? = some x → SegC (flat (L.map fun a => a.V) ++ t) (i * 87) 87 x.C
  | [], _, _, _, h => by simp at h
  | y :: L, 0, x, h64, h => ⟨by
    simp only [List.getElem?_cons_zero, Option.some.injEq] at h; subst h
    have hl := opFC_len (h64 y (.head _))
    refine ⟨?_, hl⟩
    rw [Nat.zero_mul, List.drop_zero, List.map_cons, flat_cons, List.append_assoc]
    exact List.take_left' hl⟩
  | y :: L, i + 1, x, h64, h => ⟨by
    rw [List.getElem?_cons_succ] at h
    have hl : (y.V).cells.toList.length = 87 := opFC_len (h64 y (.head _))
    have e := (opflat_seg t (fun a ha => h64 a (.tail _ ha)) h).h
    refine ⟨?_, e.2⟩
    rw [← e.1, List.map_cons, flat_cons, List.append_assoc, show (i + 1) * 87 = 87 + i * 87 from by omega, ← List.drop_drop, List.drop_left' hl]⟩
theorem opflat_len : ∀ {L : List OpF}, (∀ a ∈ L, a.f.length = 64) → (flat (L.map fun a => a.V)).length = L.length * 87
  | [], _ => by simp [flat]
  | y :: L, h64 => by
    have hl : (y.V).cells.toList.length = 87 := opFC_len (h64 y (.head _))
    rw [List.map_cons, flat_cons, List.length_append, hl, opflat_len (fun a ha => h64 a (.tail _ ha)), List.length_cons]; omega
theorem Sat.enTake {B w : World} {G : List Pers} {S : List Res} {A : List EnI} {i : Nat} {b : Nat} {s : Int} {e : RE} (h : Sat B (enG1 A :: enG2 A :: G) (enO A :: S) w) (hi : A[i]? = some (b, s, e)) :
    Sat B (Qd.rd (Ty.sl kpT) e.R e.lv :: Qd.rd (Ty.sl opFT) e.H e.hv :: enG1 A :: enG2 A :: G) (reB b s e.t e.kn e.lv e.hv :: enO (A.eraseIdx i) :: S) w := by
  obtain ⟨hlt, hA⟩ := List.getElem?_eq_some_iff.1 hi
  have hp : A.Perm ((b, s, e) :: A.eraseIdx i) := perm_eraseIdx hi
  have h1 := (Sat.unpack (S := A.map enR) h).perm ((hp.map enR).append_right S)
  have h2 : Sat B (enG1 A :: enG2 A :: G) (reB b s e.t e.kn e.lv e.hv :: enO (A.eraseIdx i) :: S) w := by
    refine (Sat.pack (S := (A.eraseIdx i).map enR) (T := reB b s e.t e.kn e.lv e.hv :: S) (h1.perm ?_)).perm (List.Perm.swap _ _ _)
    exact List.perm_middle.symm
  refine h2.pers fun m hg g hgg => ?_
  have g1 : AllR (Ty.sl kpT) (A.map fun x => x.2.2.R) (A.map fun x => x.2.2.lv) m := hg _ (.head _)
  have g2 : AllR (Ty.sl opFT) (A.map fun x => x.2.2.H) (A.map fun x => x.2.2.hv) m := hg _ (.tail _ (.head _))
  rcases List.mem_cons.1 hgg with rfl | hgg
  · obtain ⟨v, hv, hr⟩ := g1.get (i := i) (a := e.R) (by rw [List.getElem?_map, hi]; rfl)
    rw [List.getElem?_map, hi] at hv
    obtain rfl : e.lv = v := Option.some.inj hv
    exact hr
  rcases List.mem_cons.1 hgg with rfl | hgg
  · obtain ⟨v, hv, hr⟩ := g2.get (i := i) (a := e.H) (by rw [List.getElem?_map, hi]; rfl)
    rw [List.getElem?_map, hi] at hv
    obtain rfl : e.hv = v := Option.some.inj hv
    exact hr
  exact hg g hgg
theorem Sat.enBack {B w : World} {G : List Pers} {S : List Res} {A : List EnI} {i : Nat} {b : Nat} {s : Int} {e e' : RE} (h : Sat B (Qd.rd (Ty.sl kpT) e'.R e'.lv :: Qd.rd (Ty.sl opFT) e'.H e'.hv :: enG1 A :: enG2 A :: G) (reB b s e'.t e'.kn e'.lv e'.hv :: enO (A.eraseIdx i) :: S) w) (hi : A[i]? = some (b, s, e)) :
    Sat B (enG1 (A.set i (b, s, e')) :: enG2 (A.set i (b, s, e')) :: G) (enO (A.set i (b, s, e')) :: S) w := by
  obtain ⟨hlt, hA⟩ := List.getElem?_eq_some_iff.1 hi
  have hp : (A.set i (b, s, e')).Perm ((b, s, e') :: A.eraseIdx i) := by
    have := perm_eraseIdx (l := A.set i (b, s, e')) (i := i) (a := (b, s, e')) (by rw [List.getElem?_set_self hlt])
    rwa [List.eraseIdx_set_eq] at this
  have h1 := Sat.unpack (S := (A.eraseIdx i).map enR) (h.perm (List.Perm.swap _ _ _))
  have h2 := Sat.pack (S := (A.set i (b, s, e')).map enR) (T := S) (h1.perm (List.perm_middle.trans ((hp.map enR).symm.append_right S)))
  refine Sat.pers h2 fun m hg g hgg => ?_
  have f1 : (Ty.sl kpT).rel e'.R e'.lv m := hg _ (.head _)
  have f2 : (Ty.sl opFT).rel e'.H e'.hv m := hg _ (.tail _ (.head _))
  have g1 : AllR (Ty.sl kpT) (A.map fun x => x.2.2.R) (A.map fun x => x.2.2.lv) m := hg _ (.tail _ (.tail _ (.head _)))
  have g2 : AllR (Ty.sl opFT) (A.map fun x => x.2.2.H) (A.map fun x => x.2.2.hv) m := hg _ (.tail _ (.tail _ (.tail _ (.head _))))
  rcases List.mem_cons.1 hgg with rfl | hgg
  · show AllR _ _ _ m
    rw [List.map_set, List.map_set]; exact g1.set f1
  rcases List.mem_cons.1 hgg with rfl | hgg
  · show AllR _ _ _ m
    rw [List.map_set, List.map_set]; exact g2.set f2
  exact hg g (.tail _ (.tail _ (.tail _ (.tail _ hgg))))
theorem Sat.enNew {B w : World} {G : List Pers} {S : List Res} {A : List EnI} {b : Nat} {s : Int} {t : Nat} {kn : List Nat} (h : Sat B (enG1 A :: enG2 A :: G) (reB b s t kn (.slice none 0 0) (.slice none 0 0) :: enO A :: S) w) :
    Sat B (enG1 (A ++ [(b, s, ⟨t, kn, [], .slice none 0 0, [], .slice none 0 0⟩)]) :: enG2 (A ++ [(b, s, ⟨t, kn, [], .slice none 0 0, [], .slice none 0 0⟩)]) :: G) (enO (A ++ [(b, s, ⟨t, kn, [], .slice none 0 0, [], .slice none 0 0⟩)]) :: S) w := by
  have h1 := Sat.unpack (S := A.map enR) (h.perm (List.Perm.swap _ _ _))
  have h2 := Sat.pack (S := (A ++ [(b, s, (⟨t, kn, [], .slice none 0 0, [], .slice none 0 0⟩ : RE))]).map enR) (T := S) (h1.perm (by rw [List.map_append, List.append_assoc]; exact List.Perm.refl _))
  refine Sat.pers ((h2.rdNil kpT).rdNil opFT) fun m hg g hgg => ?_
  have f2 : (Ty.sl opFT).rel [] (.slice none 0 0) m := hg _ (.head _)
  have f1 : (Ty.sl kpT).rel [] (.slice none 0 0) m := hg _ (.tail _ (.head _))
  have g1 : AllR (Ty.sl kpT) (A.map fun x => x.2.2.R) (A.map fun x => x.2.2.lv) m := hg _ (.tail _ (.tail _ (.head _)))
  have g2 : AllR (Ty.sl opFT) (A.map fun x => x.2.2.H) (A.map fun x => x.2.2.hv) m := hg _ (.tail _ (.tail _ (.tail _ (.head _))))
  rcases List.mem_cons.1 hgg with rfl | hgg
  · show AllR _ _ _ m
    rw [List.map_append, List.map_append]; exact g1.snoc f1
  rcases List.mem_cons.1 hgg with rfl | hgg
  · show AllR _ _ _ m
    rw [List.map_append, List.map_append]; exact g2.snoc f2
  exact hg g (.tail _ (.tail _ (.tail _ (.tail _ hgg))))
theorem re_ok0 : REok 0 (List.replicate 64 0) [] [] := ⟨Nat.zero_le _, rfl, fun y hy => by rw [(List.mem_replicate.1 hy).2]; exact Nat.zero_le _, Nat.zero_le _, (fun a ha => by cases ha), Nat.zero_le _, (fun a ha => by cases ha)⟩
def EnOk (A : List EnI) : Prop := ∀ x ∈ A, x.2.2.ok ∧ 1 ≤ x.2.1 ∧ x.2.1 ≤ 4
theorem EnOk.set {A : List EnI} (h : EnOk A) {i : Nat} {b : Nat} {s : Int} {e : RE} (he : e.ok) (hs : 1 ≤ s ∧ s ≤ 4) : EnOk (A.set i (b, s, e)) := fun x hx => by
  rcases List.mem_or_eq_of_mem_set hx with h1 | rfl
  · exact h x h1
  · exact ⟨he, hs⟩
set_option maxHeartbeats 6400000 in
set_option synthInstance.maxSize 2000 in
set_option synthInstance.maxHeartbeats 400000 in
theorem world_fun (L : List Nat) (lv : Value) : Fun Try.prog 23 [lv, .int .i64 4] [rd (Ty.sl Ty.u16) L lv] [] (fun z G S => ∃ out : List OpF, out.length ≤ 40 ∧ (∀ y ∈ out, WOp y) ∧ G = [rd (Ty.sl opFT) out z] ∧ S = []) := by
  refine Fun.enter Try.func23 (by kernel_rfl) rfl Try.ntmps23 rfl (fun B Gf Sf => ?_); (try simp only [List.cons_append]); (try simp only [List.nil_append]); simp only [argEnv]
  refine WC.ex (fun w sw => sw.slOne (v := lv) RdSl.h) (fun hlv => ?_)
  refine WC.ex (fun w sw => sw.oks (f := fun m : Nat => .int .u16 (m : Int)) (ok := fun m => m < 65536) (R := Ty.u16) (l := L) (v := lv) RdSl.h) (fun okL => ?_)
  refine WC.ex (fun w sw => sw.len_le (RdSl.h (v := lv))) (fun hLl => ?_)
  (repeat (first | refine vgo ?_ | refine ⟨_, rfl, rfl, ?_⟩ | refine ⟨_, rfl, ?_⟩ | refine ⟨rfl, ?_⟩ | intro hb | refine altA ?_ | refine altR ?_ | refine sideA ?_ | refine decTA ?_ | refine decFA ?_ | refine decNA ?_ | refine decBTA ?_ | refine decBFA ?_ | refine ⟨_, by assumption, ?_⟩ | refine ⟨_, _, _, rfl, ?_⟩ | refine WC.seq (fun K hK => ?_) | (refine hK _ _ _ ?_; clear hK K) | (refine hK _ _ _ _ rfl ?_; clear hK K) | (refine WX.thenExit (K := K) ?_; clear hK K) | (refine WX.thenExit (K := KL) ?_; clear hL KL)))
  refine WC.loop (I := Nat × List EnI × Value) (fun i => [(0, lv), (1, .int .i64 4), (4, .slice none 0 0), (5, .slice none 0 0), (6, i.2.2), (7, .int .i64 (i.1 : Nat))]) (fun i => enG1 i.2.1 :: enG2 i.2.1 :: rd (Ty.sl Ty.u16) L lv :: Gf) (fun i => enO i.2.1 :: ptO i.2.2 (i.2.1.map (·.1)) :: Sf) (fun i => i.1 ≤ 5 ∧ i.2.1.length + 1 = i.1 ∧ EnOk i.2.1) (fun i => 5 - i.1) (1, [], .slice none 0 0) ⟨by decide, rfl, fun x hx => by cases hx⟩ (.cons rfl (.cons rfl (.cons rfl (.cons rfl (.cons rfl (.cons rfl .nil)))))) (fun w h => ?_) ?_
  · have h2 := h.ownNil 135 1
    have h3 : Sat B (rd (Ty.sl Ty.u16) L lv :: Gf) (enO [] :: own 135 1 (.slice none 0 0) 0 [] :: Sf) w := Sat.pack (S := []) h2
    exact (h3.more (p := enG2 []) fun _ _ => trivial).more (p := enG1 []) fun _ _ => trivial
  rintro ⟨i, A, av⟩ ⟨hi, hA, hok⟩ KL hL
  dsimp only at hi hA hok ⊢
  by_cases g : i ≤ 4
  · (repeat (first | refine vgo ?_ | refine ⟨_, rfl, rfl, ?_⟩ | refine ⟨_, rfl, ?_⟩ | refine ⟨rfl, ?_⟩ | intro hb | refine altA ?_ | refine altR ?_ | refine sideA ?_ | refine decTA ?_ | refine decFA ?_ | refine decNA ?_ | refine decBTA ?_ | refine decBFA ?_ | refine ⟨_, by assumption, ?_⟩ | refine ⟨_, _, _, rfl, ?_⟩ | refine WC.seq (fun K hK => ?_) | (refine hK _ _ _ ?_; clear hK K) | (refine hK _ _ _ _ rfl ?_; clear hK K) | (refine WX.thenExit (K := K) ?_; clear hK K) | (refine WX.thenExit (K := KL) ?_; clear hL KL)))
    refine CallV.by' (rnew18_fun (i : Int)) ?_; rintro _ _ _ ⟨b, rfl, rfl, rfl⟩; (try simp only [List.cons_append]); (try simp only [List.nil_append])
    have hml : (A.map (·.1)).length ≤ 4 := by rw [List.length_map]; omega
    (repeat (first | refine vgo ?_ | refine ⟨_, rfl, rfl, ?_⟩ | refine ⟨_, rfl, ?_⟩ | refine ⟨rfl, ?_⟩ | intro hb | refine altA ?_ | refine altR ?_ | refine sideA ?_ | refine decTA ?_ | refine decFA ?_ | refine decNA ?_ | refine decBTA ?_ | refine decBFA ?_ | refine ⟨_, by assumption, ?_⟩ | refine ⟨_, _, _, rfl, ?_⟩ | refine WC.seq (fun K hK => ?_) | (refine hK _ _ _ ?_; clear hK K) | (refine hK _ _ _ _ rfl ?_; clear hK K) | (refine WX.thenExit (K := K) ?_; clear hK K) | (refine WX.thenExit (K := KL) ?_; clear hL KL)))
    refine (hL (i + 1, A ++ [(b, (i : Int), ⟨0, List.replicate 64 0, [], .slice none 0 0, [], .slice none 0 0⟩)], hb) ⟨by dsimp only; omega, by dsimp only; rw [List.length_append, List.length_singleton]; omega, fun x hx => by
      rcases List.mem_append.1 hx with h | h
      · exact hok x h
      · rw [List.mem_singleton] at h; rw [h]; exact ⟨re_ok0, by dsimp only; omega, by dsimp only; omega⟩⟩ (by dsimp only; omega)).conv (.cons rfl (.cons rfl (.cons rfl (.cons rfl (.cons rfl (.cons rfl .nil)))))) (fun w h => ?_)
    have e1 : ptO hb ((A ++ [(b, (i : Int), (⟨0, List.replicate 64 0, [], .slice none 0 0, [], .slice none 0 0⟩ : RE))]).map (·.1)) = own 135 1 hb ((List.map (fun x => x.fst) A).length + 1) (List.map pB (List.map (fun x => x.fst) A) ++ ([Value.pointer (some { block := b, off := 0 })] ++ [])) := by
      unfold ptO; rw [List.map_append, List.length_append, List.map_append]; rfl
    dsimp only
    rw [e1]
    exact (show Sat B (enG1 A :: enG2 A :: rd (Ty.sl Ty.u16) L lv :: Gf) (reB b (i : Int) 0 (List.replicate 64 0) (.slice none 0 0) (.slice none 0 0) :: enO A :: own 135 1 hb ((List.map (fun x => x.fst) A).length + 1) (List.map pB (List.map (fun x => x.fst) A) ++ ([Value.pointer (some { block := b, off := 0 })] ++ [])) :: Sf) w from h.to).enNew
  · obtain rfl : i = 5 := by omega
    have hA4 : A.length = 4 := by omega
    (repeat (first | refine vgo ?_ | refine ⟨_, rfl, rfl, ?_⟩ | refine ⟨_, rfl, ?_⟩ | refine ⟨rfl, ?_⟩ | intro hb | refine altA ?_ | refine altR ?_ | refine sideA ?_ | refine decTA ?_ | refine decFA ?_ | refine decNA ?_ | refine decBTA ?_ | refine decBFA ?_ | refine ⟨_, by assumption, ?_⟩ | refine ⟨_, _, _, rfl, ?_⟩ | refine WC.seq (fun K hK => ?_) | (refine hK _ _ _ ?_; clear hK K) | (refine hK _ _ _ _ rfl ?_; clear hK K) | (refine WX.thenExit (K := K) ?_; clear hK K) | (refine WX.thenExit (K := KL) ?_; clear hL KL)))
    obtain ⟨bs, hbs⟩ : ∃ bs, bs = A.map (·.1) := ⟨_, rfl⟩
    have hbl : bs.length = 4 := by rw [hbs, List.length_map]; exact hA4
    refine WC.loop (I := Nat × List EnI × Value × List OpF) (fun i => [(0, lv), (1, .int .i64 4), (4, .slice none 0 0), (5, i.2.2.1), (6, av), (8, .int .i64 (i.1 : Nat))]) (fun i => enG1 i.2.1 :: enG2 i.2.1 :: rd (Ty.sl Ty.ptr) bs av :: rd (Ty.sl Ty.u16) L lv :: Gf) (fun i => enO i.2.1 :: opFO i.2.2.1 i.2.2.2 :: Sf) (fun i => i.1 ≤ L.length ∧ i.1 ≤ 40 ∧ i.2.2.2.length ≤ i.1 ∧ i.2.1.map (·.1) = bs ∧ EnOk i.2.1 ∧ ∀ y ∈ i.2.2.2, WOp y) (fun i => L.length - i.1) (0, A, .slice none 0 0, []) ⟨Nat.zero_le _, Nat.zero_le _, Nat.zero_le _, hbs.symm, hok, fun y hy => by cases hy⟩ (.cons rfl (.cons rfl (.cons rfl (.cons rfl (.cons rfl (.cons rfl .nil)))))) (fun w h => ?_) ?_
    · have h1 : Sat B (enG1 A :: enG2 A :: rd (Ty.sl Ty.u16) L lv :: Gf) (ptO av bs :: enO A :: Sf) w := by rw [hbs]; exact h.to
      have h2 := h1.pub (R := Ty.ptr) (l := bs) (v := av) SelOwn.h rfl (flat_ptr bs).symm rfl (fun _ _ => trivial)
      exact (show Sat B (enG1 A :: enG2 A :: rd (Ty.sl Ty.ptr) bs av :: rd (Ty.sl Ty.u16) L lv :: Gf) (enO A :: own 66 87 (.slice none 0 0) 0 [] :: Sf) w from (h2.ownNil 66 87).to)
    clear hok hA4 hA hi g
    rintro ⟨i, A, ov, out⟩ ⟨hi, h40, ho, hAb, hok, hoW⟩ KL2 hL2
    dsimp only at hi h40 ho hAb hok hoW ⊢
    by_cases hgo : i < L.length ∧ i < 40
    · obtain ⟨hgo, hg40⟩ := hgo
      obtain ⟨x, hx⟩ : ∃ x, L[i]? = some x := ⟨_, List.getElem?_eq_getElem hgo⟩
      have hx6 := okL x (List.mem_of_getElem? hx)
      obtain ⟨j, hj⟩ : ∃ j, j = x % 4 := ⟨_, rfl⟩
      have hAl : A.length = 4 := by rw [← hbl, ← hAb, List.length_map]
      obtain ⟨⟨b, s, e⟩, hAj⟩ : ∃ y, A[j]? = some y := ⟨_, List.getElem?_eq_getElem (by omega)⟩
      have hbj : bs[((x : Int) % 4).toNat]? = some b := by
        rw [← hAb, List.getElem?_map, show ((x : Int) % 4).toNat = j from by omega, hAj]; rfl
      have hs4 := (hok _ (List.mem_of_getElem? hAj)).2
      have hoke := (hok _ (List.mem_of_getElem? hAj)).1
      have ho64 : ∀ a ∈ out, a.f.length = 64 := fun a ha => (hoW a ha).2.2.2.1.1
      have hout40 : out.length ≤ 40 := by omega
      (repeat (first | refine vgo ?_ | refine ⟨_, rfl, rfl, ?_⟩ | refine ⟨_, rfl, ?_⟩ | refine ⟨rfl, ?_⟩ | intro hb | refine altA ?_ | refine altR ?_ | refine sideA ?_ | refine decTA ?_ | refine decFA ?_ | refine decNA ?_ | refine decBTA ?_ | refine decBFA ?_ | refine ⟨_, by assumption, ?_⟩ | refine ⟨_, _, _, rfl, ?_⟩ | refine WC.seq (fun K hK => ?_) | (refine hK _ _ _ ?_; clear hK K) | (refine hK _ _ _ _ rfl ?_; clear hK K) | (refine WX.thenExit (K := K) ?_; clear hK K) | (refine WX.thenExit (K := KL) ?_; clear hL KL)))
      have hM : ∀ e' : RE, e'.ok → WK 87 K ⟨B, none, []⟩ [(0, lv), (1, .int .i64 4), (4, .slice none 0 0), (5, ov), (6, av), (8, .int .i64 (i : Nat)), (9, .pointer (some ⟨b, 0, none⟩))] (rd (Ty.sl kpT) e'.R e'.lv :: rd (Ty.sl opFT) e'.H e'.hv :: enG1 A :: enG2 A :: rd (Ty.sl Ty.ptr) bs av :: rd (Ty.sl Ty.u16) L lv :: Gf) (reB b s e'.t e'.kn e'.lv e'.hv :: enO (A.eraseIdx j) :: opFO ov out :: Sf) := by
        rintro ⟨t1, k1, R1, l1, H1, v1⟩ he'
        have ok1 : REok t1 k1 R1 H1 := he'
        refine hK _ _ _ ?_
        clear hK
        dsimp only
        (repeat (first | refine vgo ?_ | refine ⟨_, rfl, rfl, ?_⟩ | refine ⟨_, rfl, ?_⟩ | refine ⟨rfl, ?_⟩ | intro hb | refine altA ?_ | refine altR ?_ | refine sideA ?_ | refine decTA ?_ | refine decFA ?_ | refine decNA ?_ | refine decBTA ?_ | refine decBFA ?_ | refine ⟨_, by assumption, ?_⟩ | refine ⟨_, _, _, rfl, ?_⟩ | refine WC.seq (fun K hK => ?_) | (refine hK _ _ _ ?_; clear hK K) | (refine hK _ _ _ _ rfl ?_; clear hK K) | (refine WX.thenExit (K := K) ?_; clear hK K) | (refine WX.thenExit (K := KL) ?_; clear hL KL)))
        refine CallV.by' (rmake_fun b s hs4 t1 k1 R1 l1 H1 v1 ok1) ?_; rintro _ _ _ ⟨e2, y, n2, rfl, oke, hyo, hyW, rfl, rfl⟩; (try simp only [List.cons_append]); (try simp only [List.nil_append])
        have i4 : Len64 y.f := ⟨hyo.2.2.2.1.1⟩
        (repeat (first | refine vgo ?_ | refine ⟨_, rfl, rfl, ?_⟩ | refine ⟨_, rfl, ?_⟩ | refine ⟨rfl, ?_⟩ | intro hb | refine altA ?_ | refine altR ?_ | refine sideA ?_ | refine decTA ?_ | refine decFA ?_ | refine decNA ?_ | refine decBTA ?_ | refine decBFA ?_ | refine ⟨_, by assumption, ?_⟩ | refine ⟨_, _, _, rfl, ?_⟩ | refine WC.seq (fun K hK => ?_) | (refine hK _ _ _ ?_; clear hK K) | (refine hK _ _ _ _ rfl ?_; clear hK K) | (refine WX.thenExit (K := K) ?_; clear hK K) | (refine WX.thenExit (K := KL) ?_; clear hL KL)))
        refine WL.alloc rfl ?_; intro b11
        (repeat (first | refine vgo ?_ | refine ⟨_, rfl, rfl, ?_⟩ | refine ⟨_, rfl, ?_⟩ | refine ⟨rfl, ?_⟩ | intro hb | refine altA ?_ | refine altR ?_ | refine sideA ?_ | refine decTA ?_ | refine decFA ?_ | refine decNA ?_ | refine decBTA ?_ | refine decBFA ?_ | refine ⟨_, by assumption, ?_⟩ | refine ⟨_, _, _, rfl, ?_⟩ | refine WC.seq (fun K hK => ?_) | (refine hK _ _ _ ?_; clear hK K) | (refine hK _ _ _ _ rfl ?_; clear hK K) | (refine WX.thenExit (K := K) ?_; clear hK K) | (refine WX.thenExit (K := KL) ?_; clear hL KL)))
        by_cases hn : n2 = 0
        · have hW := hyW hn
          (repeat (first | refine vgo ?_ | refine ⟨_, rfl, rfl, ?_⟩ | refine ⟨_, rfl, ?_⟩ | refine ⟨rfl, ?_⟩ | intro hb | refine altA ?_ | refine altR ?_ | refine sideA ?_ | refine decTA ?_ | refine decFA ?_ | refine decNA ?_ | refine decBTA ?_ | refine decBFA ?_ | refine ⟨_, by assumption, ?_⟩ | refine ⟨_, _, _, rfl, ?_⟩ | refine WC.seq (fun K hK => ?_) | (refine hK _ _ _ ?_; clear hK K) | (refine hK _ _ _ _ rfl ?_; clear hK K) | (refine WX.thenExit (K := K) ?_; clear hK K) | (refine WX.thenExit (K := KL) ?_; clear hL KL)))
          refine (hL2 (i + 1, A.set j (b, s, e2), hb, out ++ [y]) ⟨hgo, hg40, by dsimp only; rw [List.length_append, List.length_singleton]; omega, by dsimp only; rw [← hAb, List.map_set]; exact set_self (by rw [List.getElem?_map, hAj]; rfl), hok.set oke hs4, fun z hz => by
            rcases List.mem_append.1 hz with h | h
            · exact hoW z h
            · rw [List.mem_singleton] at h; rw [h]; exact hW⟩ (by dsimp only; omega)).conv (.cons rfl (.cons rfl (.cons rfl (.cons rfl (.cons rfl (.cons rfl .nil)))))) (fun w h => ?_)
          dsimp only
          unfold opFO
          rw [List.map_append, flat_app, List.length_append, show flat (List.map (fun a : OpF => a.V) [y]) = opFC y.o y.n y.t y.f y.k ++ [] from rfl, show [y].length = 1 from rfl]
          exact ((show Sat B (rd (Ty.sl kpT) e2.R e2.lv :: rd (Ty.sl opFT) e2.H e2.hv :: enG1 A :: enG2 A :: rd (Ty.sl Ty.ptr) bs av :: rd (Ty.sl Ty.u16) L lv :: Gf) (reB b s e2.t e2.kn e2.lv e2.hv :: enO (A.eraseIdx j) :: own 66 87 hb (out.length + 1) (flat (out.map fun a => a.V) ++ (opFC y.o y.n y.t y.f y.k ++ [])) :: Sf) w from h.to).enBack hAj)
        · (repeat (first | refine vgo ?_ | refine ⟨_, rfl, rfl, ?_⟩ | refine ⟨_, rfl, ?_⟩ | refine ⟨rfl, ?_⟩ | intro hb | refine altA ?_ | refine altR ?_ | refine sideA ?_ | refine decTA ?_ | refine decFA ?_ | refine decNA ?_ | refine decBTA ?_ | refine decBFA ?_ | refine ⟨_, by assumption, ?_⟩ | refine ⟨_, _, _, rfl, ?_⟩ | refine WC.seq (fun K hK => ?_) | (refine hK _ _ _ ?_; clear hK K) | (refine hK _ _ _ _ rfl ?_; clear hK K) | (refine WX.thenExit (K := K) ?_; clear hK K) | (refine WX.thenExit (K := KL) ?_; clear hL KL)))
          refine (hL2 (i + 1, A.set j (b, s, e2), ov, out) ⟨hgo, hg40, by dsimp only; omega, by dsimp only; rw [← hAb, List.map_set]; exact set_self (by rw [List.getElem?_map, hAj]; rfl), hok.set oke hs4, hoW⟩ (by dsimp only; omega)).conv (.cons rfl (.cons rfl (.cons rfl (.cons rfl (.cons rfl (.cons rfl .nil)))))) (fun w h => ?_)
          exact ((show Sat B (rd (Ty.sl kpT) e2.R e2.lv :: rd (Ty.sl opFT) e2.H e2.hv :: enG1 A :: enG2 A :: rd (Ty.sl Ty.ptr) bs av :: rd (Ty.sl Ty.u16) L lv :: Gf) (reB b s e2.t e2.kn e2.lv e2.hv :: enO (A.eraseIdx j) :: opFO ov out :: Sf) w from h.to).enBack hAj)
      clear hK
      refine WC.sat (fun w sw => (show Sat B (enG1 A :: enG2 A :: rd (Ty.sl Ty.ptr) bs av :: rd (Ty.sl Ty.u16) L lv :: Gf) (enO A :: opFO ov out :: Sf) w from sw.to).enTake hAj) ?_
      refine WC.openOwn (v := ov) (fun e0 m0 => ?_) (fun bo cp cs e0 hmc hcp hcl hct => ?_)
      · obtain rfl : out = [] := List.eq_nil_of_length_eq_zero m0
        subst e0
        refine WC.loop (I := Unit) (fun _ => [(10, .int .i64 0), (0, lv), (1, .int .i64 4), (4, .slice none 0 0), (5, .slice none 0 0), (6, av), (8, .int .i64 (i : Nat)), (9, .pointer (some ⟨b, 0, none⟩))]) (fun _ => rd (Ty.sl kpT) e.R e.lv :: rd (Ty.sl opFT) e.H e.hv :: enG1 A :: enG2 A :: rd (Ty.sl Ty.ptr) bs av :: rd (Ty.sl Ty.u16) L lv :: Gf) (fun _ => own 66 87 (.slice none 0 0) 0 [] :: reB b s e.t e.kn e.lv e.hv :: enO (A.eraseIdx j) :: Sf) (fun _ => True) (fun _ => 0) () trivial (.cons rfl (.cons rfl (.cons rfl (.cons rfl (.cons rfl (.cons rfl (.cons rfl (.cons rfl .nil)))))))) (fun w h => (h.ownNil 66 87).to) ?_
        intro _ _ KL3 hL3
        clear hL3
        (repeat (first | refine vgo ?_ | refine ⟨_, rfl, rfl, ?_⟩ | refine ⟨_, rfl, ?_⟩ | refine ⟨rfl, ?_⟩ | intro hb | refine altA ?_ | refine altR ?_ | refine sideA ?_ | refine decTA ?_ | refine decFA ?_ | refine decNA ?_ | refine decBTA ?_ | refine decBFA ?_ | refine ⟨_, by assumption, ?_⟩ | refine ⟨_, _, _, rfl, ?_⟩ | refine WC.seq (fun K hK => ?_) | (refine hK _ _ _ ?_; clear hK K) | (refine hK _ _ _ _ rfl ?_; clear hK K) | (refine WX.thenExit (K := K) ?_; clear hK K) | (refine WX.thenExit (K := KL) ?_; clear hL KL)))
        refine WX.thenExit ?_
        (repeat (first | refine vgo ?_ | refine ⟨_, rfl, rfl, ?_⟩ | refine ⟨_, rfl, ?_⟩ | refine ⟨rfl, ?_⟩ | intro hb | refine altA ?_ | refine altR ?_ | refine sideA ?_ | refine decTA ?_ | refine decFA ?_ | refine decNA ?_ | refine decBTA ?_ | refine decBFA ?_ | refine ⟨_, by assumption, ?_⟩ | refine ⟨_, _, _, rfl, ?_⟩ | refine WC.seq (fun K hK => ?_) | (refine hK _ _ _ ?_; clear hK K) | (refine hK _ _ _ _ rfl ?_; clear hK K) | (refine WX.thenExit (K := K) ?_; clear hK K) | (refine WX.thenExit (K := KL) ?_; clear hL KL)))
        exact (hM e hoke).conv (.cons rfl (.cons rfl (.cons rfl (.cons rfl (.cons rfl (.cons rfl (.cons rfl .nil))))))) (fun w h => (show Sat B (rd (Ty.sl kpT) e.R e.lv :: rd (Ty.sl opFT) e.H e.hv :: enG1 A :: enG2 A :: rd (Ty.sl Ty.ptr) bs av :: rd (Ty.sl Ty.u16) L lv :: Gf) (reB b s e.t e.kn e.lv e.hv :: enO (A.eraseIdx j) :: own 66 87 (.slice none 0 0) 0 [] :: Sf) w from h.to))
      · subst e0
        have hfl := opflat_len ho64
        obtain ⟨t, rfl⟩ : ∃ t, cs = flat (out.map fun a => a.V) ++ t := ⟨cs.drop (out.length * 87), by rw [← hct, List.take_append_drop]⟩
        refine WC.loop (I := Nat × RE) (fun k => [(10, .int .i64 (k.1 : Nat)), (0, lv), (1, .int .i64 4), (4, .slice none 0 0), (5, .slice (some ⟨bo, 0, none⟩) out.length cp), (6, av), (8, .int .i64 (i : Nat)), (9, .pointer (some ⟨b, 0, none⟩))]) (fun k => rd (Ty.sl kpT) k.2.R k.2.lv :: rd (Ty.sl opFT) k.2.H k.2.hv :: enG1 A :: enG2 A :: rd (Ty.sl Ty.ptr) bs av :: rd (Ty.sl Ty.u16) L lv :: Gf) (fun k => box bo 66 (flat (out.map fun a => a.V) ++ t) :: reB b s k.2.t k.2.kn k.2.lv k.2.hv :: enO (A.eraseIdx j) :: Sf) (fun k => k.1 ≤ out.length ∧ k.2.ok) (fun k => out.length - k.1) (0, e) ⟨Nat.zero_le _, hoke⟩ (.cons rfl (.cons rfl (.cons rfl (.cons rfl (.cons rfl (.cons rfl (.cons rfl (.cons rfl .nil)))))))) (fun w h => h.to) ?_
        rintro ⟨k, e'⟩ ⟨hk, he'⟩ KL3 hL3
        dsimp only at hk he' ⊢
        have hexit : WK 87 K ⟨B, none, []⟩ [(0, lv), (1, .int .i64 4), (4, .slice none 0 0), (5, .slice (some ⟨bo, 0, none⟩) out.length cp), (6, av), (8, .int .i64 (i : Nat)), (9, .pointer (some ⟨b, 0, none⟩))] (rd (Ty.sl kpT) e'.R e'.lv :: rd (Ty.sl opFT) e'.H e'.hv :: enG1 A :: enG2 A :: rd (Ty.sl Ty.ptr) bs av :: rd (Ty.sl Ty.u16) L lv :: Gf) (box bo 66 (flat (out.map fun a => a.V) ++ t) :: reB b s e'.t e'.kn e'.lv e'.hv :: enO (A.eraseIdx j) :: Sf) := by
          refine (hM e' he').conv (.cons rfl (.cons rfl (.cons rfl (.cons rfl (.cons rfl (.cons rfl (.cons rfl .nil))))))) (fun w h => ?_)
          have h2 := h.closeOwn (b := bo) (cp := cp) 87 out.length hcl hmc hcp
          rw [List.take_append_of_le_length (by omega), List.take_of_length_le (by omega)] at h2
          exact h2.to
        by_cases hko : k < out.length
        · obtain ⟨X, hX⟩ : ∃ X, out[k]? = some X := ⟨_, List.getElem?_eq_getElem hko⟩
          have hXW := hoW X (List.mem_of_getElem? hX)
          have i4 : Len64 X.f := ⟨ho64 X (List.mem_of_getElem? hX)⟩
          have is1 := opflat_seg t ho64 hX
          have hkw : (IntKind.u16.wrap (k : Int)).tmod 7 = (k : Int) % 7 := by
            rw [wrap_u16, show (k : Int) % 65536 = (k : Int) from by omega, Int.tmod_eq_emod_of_nonneg (by omega)]
          by_cases h3 : 0 < (x : Int) % 3
          · by_cases h7 : (k : Int) % 7 = (x : Int) / 64 % 7
            · (repeat (first | refine vgo ?_ | refine ⟨_, rfl, rfl, ?_⟩ | refine ⟨_, rfl, ?_⟩ | refine ⟨rfl, ?_⟩ | intro hb | refine altA ?_ | refine altR ?_ | refine sideA ?_ | refine decTA ?_ | refine decFA ?_ | refine decNA ?_ | refine decBTA ?_ | refine decBFA ?_ | refine ⟨_, by assumption, ?_⟩ | refine ⟨_, _, _, rfl, ?_⟩ | refine WC.seq (fun K hK => ?_) | (refine hK _ _ _ ?_; clear hK K) | (refine hK _ _ _ _ rfl ?_; clear hK K) | (refine WX.thenExit (K := K) ?_; clear hK K) | (refine WX.thenExit (K := KL) ?_; clear hL KL)))
              rw [hkw]
              (repeat (first | refine vgo ?_ | refine ⟨_, rfl, rfl, ?_⟩ | refine ⟨_, rfl, ?_⟩ | refine ⟨rfl, ?_⟩ | intro hb | refine altA ?_ | refine altR ?_ | refine sideA ?_ | refine decTA ?_ | refine decFA ?_ | refine decNA ?_ | refine decBTA ?_ | refine decBFA ?_ | refine ⟨_, by assumption, ?_⟩ | refine ⟨_, _, _, rfl, ?_⟩ | refine WC.seq (fun K hK => ?_) | (refine hK _ _ _ ?_; clear hK K) | (refine hK _ _ _ _ rfl ?_; clear hK K) | (refine WX.thenExit (K := K) ?_; clear hK K) | (refine WX.thenExit (K := KL) ?_; clear hL KL)))
              exact (hL3 (k + 1, e') ⟨hko, he'⟩ (by dsimp only; omega)).conv (.cons rfl (.cons rfl (.cons rfl (.cons rfl (.cons rfl (.cons rfl (.cons rfl (.cons rfl .nil)))))))) (fun w h => h.to)
            · (repeat (first | refine vgo ?_ | refine ⟨_, rfl, rfl, ?_⟩ | refine ⟨_, rfl, ?_⟩ | refine ⟨rfl, ?_⟩ | intro hb | refine altA ?_ | refine altR ?_ | refine sideA ?_ | refine decTA ?_ | refine decFA ?_ | refine decNA ?_ | refine decBTA ?_ | refine decBFA ?_ | refine ⟨_, by assumption, ?_⟩ | refine ⟨_, _, _, rfl, ?_⟩ | refine WC.seq (fun K hK => ?_) | (refine hK _ _ _ ?_; clear hK K) | (refine hK _ _ _ _ rfl ?_; clear hK K) | (refine WX.thenExit (K := K) ?_; clear hK K) | (refine WX.thenExit (K := KL) ?_; clear hL KL)))
              rw [hkw]
              (repeat (first | refine vgo ?_ | refine ⟨_, rfl, rfl, ?_⟩ | refine ⟨_, rfl, ?_⟩ | refine ⟨rfl, ?_⟩ | intro hb | refine altA ?_ | refine altR ?_ | refine sideA ?_ | refine decTA ?_ | refine decFA ?_ | refine decNA ?_ | refine decBTA ?_ | refine decBFA ?_ | refine ⟨_, by assumption, ?_⟩ | refine ⟨_, _, _, rfl, ?_⟩ | refine WC.seq (fun K hK => ?_) | (refine hK _ _ _ ?_; clear hK K) | (refine hK _ _ _ _ rfl ?_; clear hK K) | (refine WX.thenExit (K := K) ?_; clear hK K) | (refine WX.thenExit (K := KL) ?_; clear hL KL)))
              refine CallV.by' (rreceive_fun b s e'.t e'.kn e'.R e'.lv e'.H e'.hv X he' hXW) ?_; rintro _ _ _ ⟨e2, oke, rfl, rfl⟩; (try simp only [List.cons_append]); (try simp only [List.nil_append])
              (repeat (first | refine vgo ?_ | refine ⟨_, rfl, rfl, ?_⟩ | refine ⟨_, rfl, ?_⟩ | refine ⟨rfl, ?_⟩ | intro hb | refine altA ?_ | refine altR ?_ | refine sideA ?_ | refine decTA ?_ | refine decFA ?_ | refine decNA ?_ | refine decBTA ?_ | refine decBFA ?_ | refine ⟨_, by assumption, ?_⟩ | refine ⟨_, _, _, rfl, ?_⟩ | refine WC.seq (fun K hK => ?_) | (refine hK _ _ _ ?_; clear hK K) | (refine hK _ _ _ _ rfl ?_; clear hK K) | (refine WX.thenExit (K := K) ?_; clear hK K) | (refine WX.thenExit (K := KL) ?_; clear hL KL)))
              exact (hL3 (k + 1, e2) ⟨hko, oke⟩ (by dsimp only; omega)).conv (.cons rfl (.cons rfl (.cons rfl (.cons rfl (.cons rfl (.cons rfl (.cons rfl (.cons rfl .nil)))))))) (fun w h => h.to)
          · (repeat (first | refine vgo ?_ | refine ⟨_, rfl, rfl, ?_⟩ | refine ⟨_, rfl, ?_⟩ | refine ⟨rfl, ?_⟩ | intro hb | refine altA ?_ | refine altR ?_ | refine sideA ?_ | refine decTA ?_ | refine decFA ?_ | refine decNA ?_ | refine decBTA ?_ | refine decBFA ?_ | refine ⟨_, by assumption, ?_⟩ | refine ⟨_, _, _, rfl, ?_⟩ | refine WC.seq (fun K hK => ?_) | (refine hK _ _ _ ?_; clear hK K) | (refine hK _ _ _ _ rfl ?_; clear hK K) | (refine WX.thenExit (K := K) ?_; clear hK K) | (refine WX.thenExit (K := KL) ?_; clear hL KL)))
            refine WX.thenExit ?_
            (repeat (first | refine vgo ?_ | refine ⟨_, rfl, rfl, ?_⟩ | refine ⟨_, rfl, ?_⟩ | refine ⟨rfl, ?_⟩ | intro hb | refine altA ?_ | refine altR ?_ | refine sideA ?_ | refine decTA ?_ | refine decFA ?_ | refine decNA ?_ | refine decBTA ?_ | refine decBFA ?_ | refine ⟨_, by assumption, ?_⟩ | refine ⟨_, _, _, rfl, ?_⟩ | refine WC.seq (fun K hK => ?_) | (refine hK _ _ _ ?_; clear hK K) | (refine hK _ _ _ _ rfl ?_; clear hK K) | (refine WX.thenExit (K := K) ?_; clear hK K) | (refine WX.thenExit (K := KL) ?_; clear hL KL)))
            exact hexit.conv (.cons rfl (.cons rfl (.cons rfl (.cons rfl (.cons rfl (.cons rfl (.cons rfl .nil))))))) (fun w h => h.to)
        · (repeat (first | refine vgo ?_ | refine ⟨_, rfl, rfl, ?_⟩ | refine ⟨_, rfl, ?_⟩ | refine ⟨rfl, ?_⟩ | intro hb | refine altA ?_ | refine altR ?_ | refine sideA ?_ | refine decTA ?_ | refine decFA ?_ | refine decNA ?_ | refine decBTA ?_ | refine decBFA ?_ | refine ⟨_, by assumption, ?_⟩ | refine ⟨_, _, _, rfl, ?_⟩ | refine WC.seq (fun K hK => ?_) | (refine hK _ _ _ ?_; clear hK K) | (refine hK _ _ _ _ rfl ?_; clear hK K) | (refine WX.thenExit (K := K) ?_; clear hK K) | (refine WX.thenExit (K := KL) ?_; clear hL KL)))
          refine WX.thenExit ?_
          (repeat (first | refine vgo ?_ | refine ⟨_, rfl, rfl, ?_⟩ | refine ⟨_, rfl, ?_⟩ | refine ⟨rfl, ?_⟩ | intro hb | refine altA ?_ | refine altR ?_ | refine sideA ?_ | refine decTA ?_ | refine decFA ?_ | refine decNA ?_ | refine decBTA ?_ | refine decBFA ?_ | refine ⟨_, by assumption, ?_⟩ | refine ⟨_, _, _, rfl, ?_⟩ | refine WC.seq (fun K hK => ?_) | (refine hK _ _ _ ?_; clear hK K) | (refine hK _ _ _ _ rfl ?_; clear hK K) | (refine WX.thenExit (K := K) ?_; clear hK K) | (refine WX.thenExit (K := KL) ?_; clear hL KL)))
          exact hexit.conv (.cons rfl (.cons rfl (.cons rfl (.cons rfl (.cons rfl (.cons rfl (.cons rfl .nil))))))) (fun w h => h.to)
    · by_cases hk : i < L.length
      · have h60 : ¬ i < 40 := by omega
        (repeat (first | refine vgo ?_ | refine ⟨_, rfl, rfl, ?_⟩ | refine ⟨_, rfl, ?_⟩ | refine ⟨rfl, ?_⟩ | intro hb | refine altA ?_ | refine altR ?_ | refine sideA ?_ | refine decTA ?_ | refine decFA ?_ | refine decNA ?_ | refine decBTA ?_ | refine decBFA ?_ | refine ⟨_, by assumption, ?_⟩ | refine ⟨_, _, _, rfl, ?_⟩ | refine WC.seq (fun K hK => ?_) | (refine hK _ _ _ ?_; clear hK K) | (refine hK _ _ _ _ rfl ?_; clear hK K) | (refine WX.thenExit (K := K) ?_; clear hK K) | (refine WX.thenExit (K := KL) ?_; clear hL KL)))
        refine WX.thenExit ?_
        (repeat (first | refine vgo ?_ | refine ⟨_, rfl, rfl, ?_⟩ | refine ⟨_, rfl, ?_⟩ | refine ⟨rfl, ?_⟩ | intro hb | refine altA ?_ | refine altR ?_ | refine sideA ?_ | refine decTA ?_ | refine decFA ?_ | refine decNA ?_ | refine decBTA ?_ | refine decBFA ?_ | refine ⟨_, by assumption, ?_⟩ | refine ⟨_, _, _, rfl, ?_⟩ | refine WC.seq (fun K hK => ?_) | (refine hK _ _ _ ?_; clear hK K) | (refine hK _ _ _ _ rfl ?_; clear hK K) | (refine WX.thenExit (K := K) ?_; clear hK K) | (refine WX.thenExit (K := KL) ?_; clear hL KL)))
        exact WX.ret1 rfl rfl (fun w sw => ⟨[rd (Ty.sl opFT) out ov], [], ⟨out, by omega, hoW, rfl, rfl⟩, (sw.pub (R := opFT) (l := out) (v := ov) SelOwn.h rfl rfl rfl (fun a ha => (hoW a ha).ok)).to⟩)
      · (repeat (first | refine vgo ?_ | refine ⟨_, rfl, rfl, ?_⟩ | refine ⟨_, rfl, ?_⟩ | refine ⟨rfl, ?_⟩ | intro hb | refine altA ?_ | refine altR ?_ | refine sideA ?_ | refine decTA ?_ | refine decFA ?_ | refine decNA ?_ | refine decBTA ?_ | refine decBFA ?_ | refine ⟨_, by assumption, ?_⟩ | refine ⟨_, _, _, rfl, ?_⟩ | refine WC.seq (fun K hK => ?_) | (refine hK _ _ _ ?_; clear hK K) | (refine hK _ _ _ _ rfl ?_; clear hK K) | (refine WX.thenExit (K := K) ?_; clear hK K) | (refine WX.thenExit (K := KL) ?_; clear hL KL)))
        refine WX.thenExit ?_
        (repeat (first | refine vgo ?_ | refine ⟨_, rfl, rfl, ?_⟩ | refine ⟨_, rfl, ?_⟩ | refine ⟨rfl, ?_⟩ | intro hb | refine altA ?_ | refine altR ?_ | refine sideA ?_ | refine decTA ?_ | refine decFA ?_ | refine decNA ?_ | refine decBTA ?_ | refine decBFA ?_ | refine ⟨_, by assumption, ?_⟩ | refine ⟨_, _, _, rfl, ?_⟩ | refine WC.seq (fun K hK => ?_) | (refine hK _ _ _ ?_; clear hK K) | (refine hK _ _ _ _ rfl ?_; clear hK K) | (refine WX.thenExit (K := K) ?_; clear hK K) | (refine WX.thenExit (K := KL) ?_; clear hL KL)))
        exact WX.ret1 rfl rfl (fun w sw => ⟨[rd (Ty.sl opFT) out ov], [], ⟨out, by omega, hoW, rfl, rfl⟩, (sw.pub (R := opFT) (l := out) (v := ov) SelOwn.h rfl rfl rfl (fun a ha => (hoW a ha).ok)).to⟩)
end Go.Qd
