import Derived.Test.YthkeakecckiokaaGreatQRange
namespace Go.Qd
open Go
/-! ### Loops over functions whose yielded values are told by a relation -/
/-- The rounds of a loop, as the function that is ranged over sees them: N rounds at most; ahead of the round k J k is owned, behind the last one J N; where a round wants no further one: Jx k. -/
def YieldOkE (P : Program) (Gy : List Pers) (l N : Nat) (E : Nat → List Value → Prop) (J Jx : Nat → Res) : Prop :=
  ∀ k, k < N → ∀ args, E k args → ∀ (B : World) (G : List Pers) (S : List Res) (w : World), (∀ g ∈ Gy, g ∈ G) → Sat B G (J k :: S) w →
    RoundAt P l args w fun e w' => (e = .returned (.bool true) ∧ Sat B G (J (k + 1) :: S) w') ∨ (e = .returned (.bool false) ∧ Sat B G (Jx k :: S) w')
section
variable {P : Program} {n : Nat} {Q : Exit → Act → World → Prop} {B : Base} {env : Env} {G Gy : List Pers} {S S0 : List Res} {L rest : List Oper}
variable {d : Nat} {ty : TypeId} {pos : String} {af : Array Edge}
/-- yield is called. -/
theorem WL.yieldE {l N k : Nat} {E : Nat → List Value → Prop} {J Jx : Nat → Res} {x : Operand} {as : List Operand} {ats : Array TypeId} {vs : List Value} (hy : YieldOkE P Gy l N E J Jx) (hk : k < N) (hv : env.ev x = some (yieldV l)) (hx : env.evs as = some vs) (he : E k vs) (hG : ∀ g ∈ Gy, g ∈ G) (hS : Sel S (J k) S0) (hd : Nat.blt d n = true)
    (ht : WL P n L Q rest B ((d, .bool true) :: env) G (J (k + 1) :: S0)) (hf : WL P n L Q rest B ((d, .bool false) :: env) G (Jx k :: S0)) :
    WL P n L Q (⟨some d, .call ⟨.value x, as.toArray, ats⟩, ty, pos, af, none⟩ :: rest) B env G S := by
  refine ⟨fun a w sa sw => ?_⟩
  refine wpList_plain rfl fun K hK => ?_
  unfold Oper.wp
  obtain ⟨f, tmps, assign, body, h1, h2⟩ := hy k hk vs he B G S0 w hG (sw.perm hS.perm)
  have hr : (execOp a.eval ⟨some d, .call ⟨.value x, as.toArray, ats⟩, ty, pos, af, none⟩).run P w = .ok (.round l f tmps assign body) w := by
    have h3 := sa.ev hv
    have h4 := sa.evs hx
    simp [execOp, resolve, Deferred.ofValue, invoke, h3, h4, h1, Sem.run_bind, Result.andThen]
  rw [hr, Oper.upon_round]
  refine h2.mono ?_
  rintro e w' (⟨rfl, hs⟩ | ⟨rfl, hs⟩)
  · exact hK _ _ (ht.go _ _ (sa.put hd _) hs)
  · exact hK _ _ (hf.go _ _ (sa.put hd _) hs)
/-- The walk of one round: from i on. -/
def RoundWE (P : Program) (n : Nat) (env : Env) (ps : List Nat) (assign body : Code) (Gy : List Pers) (N : Nat) (E : Nat → List Value → Prop) {I : Type} (at_ : I → Nat) (inv : I → Prop) (SS : I → List Res) (invX : Code → I → Prop) (SX : Code → I → List Res) : Prop :=
  ∀ (B : World) (l : Nat) (Gf : List Pers) (i : I), inv i → at_ i < N → ∀ args, E (at_ i) args → ∀ (K : Act → World → Prop) (S0 : List Res),
    (∀ (env' : Env) (G' : List Pers) (Sx : List Res), (∀ Sy, WC P n body (RQ (fun w => ∃ j, inv j ∧ at_ j = at_ i + 1 ∧ Sat B (Gy ++ Gf) (SS j ++ Sy) w) (fun c w => ∃ j, invX c j ∧ at_ j = at_ i ∧ Sat B (Gy ++ Gf) (SX c j ++ Sy) w)) ⟨B, some l, []⟩ env' G' (Sx ++ Sy)) → WK n K ⟨B, some l, []⟩ env' G' (Sx ++ S0)) →
    WC P n assign (Exit.then K (fun _ _ _ => False)) ⟨B, some l, []⟩ (pEnv (ps.zip args) env) (Gy ++ Gf) (SS i ++ S0)
theorem WC.rangeFE {g : Operand} {ps : List Nat} {assign body : Code} {w0 : World} {ds : List Deferred} {gf : Nat} {caps : List Value} {Gc : List Pers} {Sc Sr : List Res} {I : Type} (i0 : I) (at_ : I → Nat) (inv : I → Prop) (SS : I → List Res) (invX : Code → I → Prop) (SX : Code → I → List Res) {N : Nat} {E : Nat → List Value → Prop}
    (hIt : ∀ l J Jx, YieldOkE P Gy l N E J Jx → Fun P gf (yieldV l :: caps) Gc (J 0 :: Sc) (IterR N J Jx Sc))
    (hv : env.ev g = some (.func (.func gf) #[] caps.toArray)) (hps : (ps.all fun p => Nat.blt p n) = true) (hpn : ∀ k args, E k args → args.length = ps.length) (hGc : ∀ g ∈ Gc, g ∈ G) (hGy : ∀ g ∈ Gy, g ∈ G)
    (h0 : inv i0) (hat : at_ i0 = 0) (hs : ∀ w, Sat w0 G S w → Sat w0 G (SS i0 ++ (Sc ++ Sr)) w)
    (hround : RoundWE P n env ps assign body Gy N E at_ inv SS invX SX)
    (hdone : ∀ D j, inv j → at_ j = N → WX n Q .normal ⟨w0, none, mark D :: ds⟩ env G (blk D (.deferred (some [])) :: (SS j ++ (Sc ++ Sr))))
    (hstop : ∀ D c j, invX c j → at_ j < N → WC P n c Q ⟨w0, none, mark D :: ds⟩ env G (blk D (.deferred (some [])) :: (SX c j ++ (Sc ++ Sr)))) :
    WC P n (.rangeFunc g ps.toArray assign body) Q ⟨w0, none, ds⟩ env G S := by
  refine ⟨fun a w sa sw => wpIn_rangeFunc fun fn _ => ?_⟩
  have sw1 := hs w sw
  show ∃ (l : Nat) (mark : List Deferred) (w₁ : World) (d : Deferred) (w₁' : World) (f : FuncId) (args : Array Value) (w₂ : World),
      (Instr.enterLoop fn a.tmps ps.toArray assign body none).run P w = .ok (l, mark) w₁ ∧ _
  obtain ⟨rec, hrec⟩ : ∃ rec : LoopState → Option Code → Loop, rec = fun st pe => { state := st, pending := pe, fn, tmps := a.tmps, params := ps.toArray, assign, body, defers := w.heap.size } := ⟨_, rfl⟩
  obtain ⟨D, hD⟩ : ∃ D, D = w.heap.size := ⟨_, rfl⟩
  obtain ⟨l, hl⟩ : ∃ l, l = D + 1 := ⟨_, rfl⟩
  have s1 := sw1.alloc (.deferred (some []))
  have s2 := s1.alloc (.loop (rec .ready none))
  rw [World.size_alloc, ← hD, ← hl] at s2
  let J : Nat → Res := fun k h => ∃ i, inv i ∧ at_ i = k ∧ pack (blk l (.loop (rec .ready none)) :: SS i) h
  let Jx : Nat → Res := fun k h => ∃ c i, invX c i ∧ at_ i = k ∧ pack (blk l (.loop (rec .done (some c))) :: SX c i) h
  have hJ : ∀ {B : World} {G : List Pers} {S : List Res} {w : World} {i : I}, inv i → Sat B G (blk l (.loop (rec .ready none)) :: (SS i ++ S)) w → Sat B G (J (at_ i) :: S) w := fun hi h =>
    (Sat.pack (S := blk l (.loop (rec .ready none)) :: SS _) h).conv fun _ hk => ⟨_, hi, rfl, hk⟩
  have hJx : ∀ {B : World} {G : List Pers} {S : List Res} {w : World} {c : Code} {i : I}, invX c i → Sat B G (blk l (.loop (rec .done (some c))) :: (SX c i ++ S)) w → Sat B G (Jx (at_ i) :: S) w := fun hi h =>
    (Sat.pack (S := blk l (.loop (rec .done (some _))) :: SX _ _) h).conv fun _ hk => ⟨_, _, hi, rfl, hk⟩
  have unJ : ∀ {B : World} {G : List Pers} {S : List Res} {w : World} {k : Nat}, Sat B G (J k :: S) w → ∃ i, inv i ∧ at_ i = k ∧ Sat B G (blk l (.loop (rec .ready none)) :: (SS i ++ S)) w := fun h => by
    obtain ⟨i, h⟩ := h.exRes
    have h1 := h.pureRes fun _ hk => And.intro hk.1 hk.2.1
    exact ⟨i, h1.1, h1.2, (h.conv fun _ hk => hk.2.2).unpack⟩
  have unJx : ∀ {B : World} {G : List Pers} {S : List Res} {w : World} {k : Nat}, Sat B G (Jx k :: S) w → ∃ c i, invX c i ∧ at_ i = k ∧ Sat B G (blk l (.loop (rec .done (some c))) :: (SX c i ++ S)) w := fun h => by
    obtain ⟨c, h⟩ := h.exRes
    obtain ⟨i, h⟩ := h.exRes
    have h1 := h.pureRes fun _ hk => And.intro hk.1 hk.2.1
    exact ⟨c, i, h1.1, h1.2, (h.conv fun _ hk => hk.2.2).unpack⟩
  have put : ∀ {B : World} {G : List Pers} {S : List Res} {w : World} {o : Obj} (o' : Obj), Sat B G (blk l o :: S) w → Sat B G (blk l o' :: S) (w.putObj l o') := fun o' h =>
    Sat.set h rfl rfl rfl (by simp) (World.putObj_heap_same (Array.getElem?_eq_some_iff.1 h.at).1) (fun c _ hc => World.putObj_heap_other hc)
  have hY : YieldOkE P Gy l N E J Jx := by
    intro k hk args hargs B' G' S' w' hsub hsat
    obtain ⟨i, hi, rfl, hst⟩ := unJ hsat
    have hrun := run_yield (P := P) (r := rec .ready none) (args := args.toArray) hst.at (by rw [hrec]; simp [hpn _ _ hargs])
    rw [hrec] at hrun
    refine ⟨fn, _, assign, body, hrun, roundIn_of_wpIn trivial ?_⟩
    have hfold : ((ps.toArray.zip args.toArray).foldl (fun tmps (t, a) => tmps.setIfInBounds t a) a.tmps) = (ps.zip args).foldl (fun t q => t.setIfInBounds q.1 q.2) a.tmps := by
      simp
    have sa' : St n [] (pEnv (ps.zip args) env) { tmps := (ps.zip args).foldl (fun t q => t.setIfInBounds q.1 q.2) a.tmps, defers := [] } :=
      St.pEnv (a := { tmps := a.tmps, defers := [] }) (by
        rw [List.all_eq_true] at hps ⊢
        intro q hq
        exact hps _ (List.of_mem_zip hq).1) ⟨sa.size, rfl, sa.get⟩
    have hsat' : Sat B' (Gy ++ G') (SS i ++ (blk l (.loop (rec .ready none)) :: S')) w' := (hst.perm List.perm_middle.symm).sub fun g hg => by
      rcases List.mem_append.1 hg with hg | hg
      · exact hsub g hg
      · exact hg
    have hw := hround B' l G' i hi hk args hargs (fun a₁ w₁ => ∃ w₂, (Instr.beginRound l).run P w₁ = .ok () w₂ ∧ body.wpIn (Fr (some l)) 0 P (roundPost P l fun e w' => (e = .returned (.bool true) ∧ Sat B' G' (J (at_ i + 1) :: S') w') ∨ (e = .returned (.bool false) ∧ Sat B' G' (Jx (at_ i) :: S') w')) a₁ w₂)
      (blk l (.loop (rec .ready none)) :: S') (fun env' G'' Sx hb => ⟨fun a₁ w₁ sa₁ sw₁ => ?_⟩)
    · have := hw.go _ w' sa' hsat'
      rw [show ((ps.toArray.zip args.toArray).foldl (fun tmps (t, a) => tmps.setIfInBounds t a) a.tmps) = _ from hfold]
      exact this
    · have sw₂ := sw₁.perm (List.perm_middle (l₁ := Sx) (l₂ := S') (a := blk l (.loop (rec .ready none))))
      refine ⟨_, run_beginRound sw₂.at (by rw [hrec]), ?_⟩
      have sw₃ := (put (.loop { rec .ready none with state := .busy }) sw₂).perm (List.perm_middle (l₁ := Sx)).symm
      refine wpIn_mono ((hb _).go a₁ _ sa₁ sw₃) fun e a₂ w₂ hq => ?_
      have back : ∀ {T : List Res} {w : World}, Sat B' (Gy ++ G') (T ++ (blk l (.loop { rec .ready none with state := .busy }) :: S')) w → Sat B' G' (blk l (.loop { rec .ready none with state := .busy }) :: (T ++ S')) w := fun h =>
        (h.perm List.perm_middle).sub fun g hg => List.mem_append.2 (.inr hg)
      have fin : ∀ {T : List Res} {w : World} (jump : Option Code), Sat B' G' (blk l (.loop { rec .ready none with state := .busy }) :: (T ++ S')) w →
          ∃ w', (Instr.endRound l jump).run P w = .ok (.bool jump.isNone) w' ∧ Sat B' G' (blk l (.loop (rec (if jump.isNone then .ready else .done) jump)) :: (T ++ S')) w' := fun jump h => by
        have h1 := run_endRound (P := P) jump h.at
        rw [hrec] at h1 ⊢
        rw [hrec] at h
        exact ⟨_, h1, put _ h⟩
      cases e with
      | normal =>
        obtain ⟨j, hj, hjat, hs⟩ := hq
        obtain ⟨w3, h1, h2⟩ := fin none (back hs)
        exact ⟨_, w3, h1, .inl ⟨rfl, hjat ▸ hJ hj h2⟩⟩
      | ret =>
        obtain ⟨j, hj, hjat, hs⟩ := hq
        obtain ⟨w3, h1, h2⟩ := fin (some .ret) (back hs)
        exact ⟨_, w3, h1, .inr ⟨rfl, hjat ▸ hJx hj h2⟩⟩
      | exit id =>
        obtain ⟨j, hj, hjat, hs⟩ := hq
        obtain ⟨w3, h1, h2⟩ := fin (some (.exit id)) (back hs)
        exact ⟨_, w3, h1, .inr ⟨rfl, hjat ▸ hJx hj h2⟩⟩
      | goto t => exact hq.elim
      | panic ch => exact hq.elim
      | outgrown => exact hq.elim
  have hF := hIt l J Jx hY
  have henter := run_enterLoop_outer (P := P) (w := w) fn a.tmps ps.toArray assign body
  obtain ⟨W, hW⟩ : ∃ W, W = (w.alloc (.deferred (some []))).alloc (.loop (rec .ready none)) := ⟨_, rfl⟩
  refine ⟨l, [mark D], W, { target := .fn (.func gf) caps.toArray, args := #[yieldV l] }, W, gf, #[yieldV l] ++ caps.toArray, W, ?_, ?_, fun _ _ => trivial, ?_, fun h => (by cases h), ?_⟩
  · rw [hW, hrec, hl, hD]; exact henter
  · have := sa.ev hv
    simp only [resolve, this]
    simp [go_sem]
  · simp [invoke, go_sem, hF.callable]
  · refine calls_fr (r := none) ?_
    have e1 : (yieldV l :: caps).toArray = #[yieldV l] ++ caps.toArray := by simp
    rw [← e1]
    have h2 : Sat w0 (Gc ++ G) ((J 0 :: Sc) ++ (blk D (.deferred (some [])) :: Sr)) W := by
      rw [hW]
      have h3 : Sat w0 G (J (at_ i0) :: (blk D (.deferred (some [])) :: (Sc ++ Sr))) _ := hJ h0 (s2.perm ((List.perm_middle (a := blk D (.deferred (some [])))).symm.cons _))
      rw [hat] at h3
      exact (h3.perm ((List.perm_middle (l₁ := Sc)).symm.cons _)).sub fun g hg => by
        rcases List.mem_append.1 hg with hg | hg
        · exact hGc g hg
        · exact hg
    refine (hF.calls w0 G _ _ h2).mono ?_
    rintro e w3 ⟨v, G3, S3, rfl, ⟨rfl, hS3⟩, h3⟩
    have h4 : Sat w0 G (S3 ++ (blk D (.deferred (some [])) :: Sr)) w3 := h3.sub fun g hg => List.mem_append.2 (.inr (List.mem_append.2 (.inr hg)))
    have sa2 : St n (mark D :: ds) env { a with defers := [mark D] ++ a.defers } := ⟨sa.size, by rw [sa.defers]; rfl, sa.get⟩
    rcases hS3 with rfl | ⟨k, hk, rfl⟩
    · obtain ⟨j, hj, hjat, h5⟩ := unJ h4
      have hend := run_endLoop (P := P) h5.at (by rw [hrec]; simp)
      refine ⟨none, _, by rw [hrec] at hend; exact hend, ?_⟩
      refine (hdone D j hj hjat).go _ _ sa2 ?_
      refine ((put _ h5).drop).perm ?_
      exact (List.Perm.append_left _ (List.perm_middle (l₁ := Sc))).trans List.perm_middle
    · obtain ⟨c, j, hj, hjat, h5⟩ := unJx h4
      have hend := run_endLoop (P := P) h5.at (by rw [hrec]; simp)
      refine ⟨some c, _, by rw [hrec] at hend; exact hend, ?_⟩
      refine (hstop D c j hj (hjat ▸ hk)).go _ _ sa2 ?_
      refine ((put _ h5).drop).perm ?_
      exact (List.Perm.append_left _ (List.perm_middle (l₁ := Sc))).trans List.perm_middle
end
end Go.Qd
