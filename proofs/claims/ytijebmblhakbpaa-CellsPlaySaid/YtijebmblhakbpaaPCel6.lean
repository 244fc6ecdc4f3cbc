/-
  Cells: All.
-/
import Derived.Test.YtijebmblhakbpaaPCel5
namespace Go.Qd
open Go Go.Proofs Go.Shelf
section
variable {P : Program} {n : Nat} {Q : Exit → Act → World → Prop} {B : Base} {env : Env} {G Gy : List Pers} {S S' S0 : List Res} {L rest : List Oper}
variable {d : Nat} {ty : TypeId} {pos : String} {af : Array Edge} {x y z : Operand} {T K E : TypeId} {α β : Type} {f : α → Value} {g : β → Value} {r : Nat} {M : List (α × β)}
theorem WL.openMap {l : List Oper} (r : Nat) [hm : SelMap r S f g M S'] (h : ∀ es clock, MapIs f g M es clock → WL P n L Q l B env G (mapC r es clock :: S')) : WL P n L Q l B env G S :=
  ⟨fun a w sa sw => by
    obtain ⟨es, clock, hi, hs⟩ := (sw.perm hm.h.perm).mapOpen
    exact (h es clock hi).go a w sa hs⟩
theorem WL.lookupF [DecidableEq α] [hk : MapKey P K f] [hT : TU P T (.map K E)] {z : Value} [hz : ZV P E z] (hx : env.ev x = some (.map (some r))) {v : Value} (hy : env.ev y = some v) [hm : SelMap r S f g M S'] {a : α} (hv : v = f a) (hd : Nat.blt d n = true)
    (h : WL P n L Q rest B ((d, (match getM M a with | some b => g b | none => z)) :: env) G S) : WL P n L Q (⟨some d, .lookup T x y false, ty, pos, af, none⟩ :: rest) B env G S := by
  subst hv
  refine .val rfl rfl hd (fun ac w sa sw => ?_) h
  obtain ⟨es, clock, hi, hs⟩ := (sw.perm hm.h.perm).mapOpen
  have e : (Instr.lookup T (.map (some r)) (f a) false).run P w = .ok (match getM M a with | some b => g b | none => z) w := by
    rcases hk.find a w es.toList hi.keys with ⟨h1, h2⟩ | ⟨j, e, h1, h2, h3, h4⟩
    · rw [getM_none hk.inj hi.enc h2]
      simp [Instr.lookup, run_underlying hT.h, run_getMap hs.at, hk.check _ a w, h1, run_zero hz.h, Result.andThen]
    · obtain ⟨b, hb2, he⟩ := getM_some hk.inj hi.enc h2 h3 h4
      rw [hb2]
      simp [Instr.lookup, run_underlying hT.h, run_getMap hs.at, hk.check _ a w, h1, he, Result.andThen]
  simp [execOp, sa.ev hx, sa.ev hy, e, Result.andThen]
theorem CallFV.yieldC {l N k : Nat} {encs : Nat → List Value} {J Jx : Nat → Res} {vs : List Value} (hy : YieldOk P Gy l N encs J Jx) (hk : k < N) (he : vs = encs k) (hG : ∀ g ∈ Gy, g ∈ G) (hS : Sel S (J k) S0)
    (ht : WL P n L Q rest B ((d, .bool true) :: env) G (J (k + 1) :: S0)) (hf : WL P n L Q rest B ((d, .bool false) :: env) G (Jx k :: S0)) : CallFV P n L Q rest B env G S d (yieldV l) vs :=
  ⟨fun _ _ _ _ _ _ h1 h2 h3 => WL.yield hy hk h2 h1 he hG hS h3 ht hf⟩
end
def rfT : Ty RfI := ⟨4, true, fun c v _ => v = rfV c ∧ True, fun _ x => x, fun ⟨e, _⟩ => by subst e; rfl, fun ⟨e, _⟩ => by subst e; exact ⟨_, rfl⟩, fun ⟨e, _⟩ v hv => by
    subst e
    have hv : v ∈ rfC _ := hv
    simp only [List.mem_cons, List.not_mem_nil, or_false] at hv
    rcases hv with rfl | rfl | rfl | rfl <;> rfl⟩
instance : Ty.Sz rfT 4 := ⟨rfl, by decide⟩
instance : Ty.Is rfT rfV (fun _ => True) := ⟨fun _ _ _ => Iff.rfl⟩
def srtK (M : List ClI) : List RfI := (M.map (·.1)).mergeSort leRf
def atC (M : List ClI) (k : Nat) : ClI := ((srtK M).getD k ((0, 0), (0, 0)), (getM M ((srtK M).getD k ((0, 0), (0, 0)))).getD ⟨(0, 0), 0, 0, []⟩)
abbrev allEc (M : List ClI) (k : Nat) : List Value := [rfV (atC M k).1, cnV (atC M k).2.k (atC M k).2.n (atC M k).2.s]
theorem leRf_iff (a b : RfI) : leRf a b = true ↔ ¬ rfLess b a := by
  unfold leRf; rw [ltRf]; simp
theorem srt_facts (l : List RfI) (h : l.Nodup) : (l.mergeSort leRf).Pairwise rfLess ∧ ∀ x, x ∈ l.mergeSort leRf ↔ x ∈ l := by
  have hs : (l.mergeSort leRf).Pairwise fun a b => leRf a b = true := List.pairwise_mergeSort (fun a b c h1 h2 => by
    rw [leRf_iff] at *
    intro h3
    by_cases e : b = c
    · subst e; exact h1 h3
    · exact h1 (rfLess_trans (rfLess_tri (fun h4 => h2 h4) (fun e2 => e e2.symm)) h3)) (fun a b => by
    simp only [Bool.or_eq_true, leRf_iff]
    by_cases h : rfLess b a
    · exact .inr fun h2 => rfLess_irr _ (rfLess_trans h h2)
    · exact .inl h) l
  have hn : (l.mergeSort leRf).Nodup := (List.mergeSort_perm l leRf).nodup_iff.2 h
  refine ⟨?_, fun x => (List.mergeSort_perm l leRf).mem_iff⟩
  refine (hs.and hn).imp fun h => ?_
  exact rfLess_tri ((leRf_iff _ _).1 h.1) (fun e => h.2 e.symm)
theorem srtR_uniq : ∀ {a b : List RfI}, a.Pairwise rfLess → b.Pairwise rfLess → (∀ x, x ∈ a ↔ x ∈ b) → a = b
  | [], [], _, _, _ => rfl
  | [], y :: b, _, _, h => absurd ((h y).2 (.head _)) (by simp)
  | x :: a, [], _, _, h => absurd ((h x).1 (.head _)) (by simp)
  | x :: a, y :: b, ha, hb, h => by
    rw [List.pairwise_cons] at ha hb
    have e : x = y := by
      rcases List.mem_cons.1 ((h x).1 (.head _)) with e | e
      · exact e
      · rcases List.mem_cons.1 ((h y).2 (.head _)) with e2 | e2
        · exact e2.symm
        · exact absurd (rfLess_trans (ha.1 y e2) (hb.1 x e)) (rfLess_irr x)
    subst e
    rw [srtR_uniq ha.2 hb.2 fun z => ?_]
    constructor
    · intro hz
      rcases List.mem_cons.1 ((h z).1 (.tail _ hz)) with e | e
      · subst e; exact absurd (ha.1 z hz) (rfLess_irr z)
      · exact e
    · intro hz
      rcases List.mem_cons.1 ((h z).2 (.tail _ hz)) with e | e
      · subst e; exact absurd (hb.1 z hz) (rfLess_irr z)
      · exact e
theorem srtK_of {M : List ClI} {ks : List RfI} (hM : (M.map (·.1)).Nodup) (hk : ks.Nodup) (h : ∀ x, x ∈ ks ↔ x ∈ M.map (·.1)) : ks.mergeSort leRf = srtK M := by
  obtain ⟨h1, h2⟩ := srt_facts ks hk
  obtain ⟨h3, h4⟩ := srt_facts _ hM
  exact srtR_uniq h1 h3 fun x => by rw [h2, h]; exact (h4 x).symm
theorem srtK_len (M : List ClI) : (srtK M).length = M.length := by unfold srtK; rw [List.length_mergeSort, List.length_map]
theorem getM_mem {M : List ClI} {k : RfI} (h : k ∈ M.map (·.1)) : ∃ x, getM M k = some x := by
  rcases getM_find M k with ⟨_, _, h3⟩ | ⟨_, x, _, _, h3⟩
  · obtain ⟨c, hc, e⟩ := List.mem_map.1 h
    exact absurd e (h3 c hc)
  · exact ⟨x, h3⟩
theorem atC_get {M : List ClI} (hM : (M.map (·.1)).Nodup) {k : Nat} (h : k < M.length) : (srtK M)[k]? = some (atC M k).1 ∧ getM M (atC M k).1 = some (atC M k).2 := by
  have hk : k < (srtK M).length := by rw [srtK_len]; exact h
  have e1 : (srtK M)[k]? = some (atC M k).1 := by
    unfold atC; rw [List.getElem?_eq_getElem hk, List.getD_eq_getElem?_getD, List.getElem?_eq_getElem hk]; rfl
  have hm : (atC M k).1 ∈ M.map (·.1) := ((srt_facts _ hM).2 _).1 (List.mem_of_getElem? e1)
  obtain ⟨x, hx⟩ := getM_mem hm
  refine ⟨e1, ?_⟩
  rw [hx]
  have : (atC M k).2 = ((getM M (atC M k).1)).getD ⟨(0, 0), 0, 0, []⟩ := rfl
  rw [this, hx]; rfl
abbrev celP (c q : Nat) : Res := box c 89 [.pointer (some ⟨q, 0, none⟩)]
theorem call_fun (q : Nat) : Fun Try.prog 66 [.pointer (some ⟨q, 0, none⟩)] [] [] (fun z G S => ∃ c, z = .func (.func 86) #[] (List.toArray [.pointer (some ⟨c, 0, none⟩)]) ∧ G = [] ∧ S = [celP c q]) := by
  refine Fun.enter Try.func66 (by kernel_rfl) rfl Try.ntmps66 rfl (fun B Gf Sf => ?_); (try simp only [List.cons_append]); (try simp only [List.nil_append]); simp only [argEnv]
  (repeat (first | refine vgo ?_ | refine ⟨_, rfl, rfl, ?_⟩ | refine ⟨_, rfl, ?_⟩ | refine ⟨rfl, ?_⟩ | intro hb | (refine altL ?_ ?_; omega) | refine altR ?_ | (refine side ?_ ?_; first | omega | exact True.intro | ((try simp only [List.length_append, List.length_cons, List.length_nil, List.length_map, List.length_replicate, List.length_set, and_true, true_and]); omega) | assumption | (and_intros <;> first | omega | assumption) | decide) | (refine decT ?_ ?_; first | with_reducible assumption | with_reducible rfl | (refine not_not_intro ?_; with_reducible first | assumption | rfl) | omega | decide) | (refine decF ?_ ?_; first | with_reducible assumption | with_reducible rfl | (refine not_not_intro ?_; with_reducible first | assumption | rfl) | omega | decide) | (refine decBT ?_ ?_; with_reducible first | assumption | rfl | exact Bool.not_false) | (refine decBF ?_ ?_; with_reducible first | assumption | rfl | exact Bool.not_true) | refine ⟨_, by assumption, ?_⟩ | refine ⟨_, _, _, rfl, ?_⟩ | refine WC.seq (fun K hK => ?_) | (refine hK _ _ _ ?_; clear hK K) | (refine hK _ _ _ _ rfl ?_; clear hK K) | (refine WX.thenExit (K := K) ?_; clear hK K) | (refine WX.thenExit (K := KL) ?_; clear hL KL)))
  (first | refine WL.boxA rfl rfl ?_ | refine WL.box rfl rfl rfl ?_); intro b1
  (repeat (first | refine vgo ?_ | refine ⟨_, rfl, rfl, ?_⟩ | refine ⟨_, rfl, ?_⟩ | refine ⟨rfl, ?_⟩ | intro hb | (refine altL ?_ ?_; omega) | refine altR ?_ | (refine side ?_ ?_; first | omega | exact True.intro | ((try simp only [List.length_append, List.length_cons, List.length_nil, List.length_map, List.length_replicate, List.length_set, and_true, true_and]); omega) | assumption | (and_intros <;> first | omega | assumption) | decide) | (refine decT ?_ ?_; first | with_reducible assumption | with_reducible rfl | (refine not_not_intro ?_; with_reducible first | assumption | rfl) | omega | decide) | (refine decF ?_ ?_; first | with_reducible assumption | with_reducible rfl | (refine not_not_intro ?_; with_reducible first | assumption | rfl) | omega | decide) | (refine decBT ?_ ?_; with_reducible first | assumption | rfl | exact Bool.not_false) | (refine decBF ?_ ?_; with_reducible first | assumption | rfl | exact Bool.not_true) | refine ⟨_, by assumption, ?_⟩ | refine ⟨_, _, _, rfl, ?_⟩ | refine WC.seq (fun K hK => ?_) | (refine hK _ _ _ ?_; clear hK K) | (refine hK _ _ _ _ rfl ?_; clear hK K) | (refine WX.thenExit (K := K) ?_; clear hK K) | (refine WX.thenExit (K := KL) ?_; clear hL KL)))
  exact WX.ret1 rfl rfl (fun w sw => ⟨[], [celP b1 q], ⟨b1, rfl, rfl, rfl⟩, sw⟩)
abbrev rfO (v : Value) (l : List RfI) : Res := own 49 4 v l.length (flat (l.map rfV))
theorem rfO_snoc (v : Value) (l : List RfI) (k : RfI) : rfO v (l ++ [k]) = own 49 4 v (l.length + 1) (flat (l.map rfV) ++ rfC k) := by
  unfold rfO; rw [List.map_append, List.length_append, List.length_singleton]; exact congrArg _ (flat_snoc _ _)
structure TookM (M : List ClI) (es : Array MapEntry) (ts : List MapEntry) (ks : List RfI) : Prop where
  sub : ∀ e ∈ ts, e ∈ es.toList
  key : ts.map (·.key) = ks.map rfV
  nd : (ts.map (·.born)).Nodup
theorem nodup_of_map {α β : Type} {f : α → β} {l : List α} (h : (l.map f).Nodup) : l.Nodup := (List.pairwise_map.1 h).imp fun h e => h (by rw [e])
theorem inj_of_nodup {α β : Type} {f : α → β} : ∀ {l : List α}, (l.map f).Nodup → ∀ a ∈ l, ∀ b ∈ l, f a = f b → a = b
  | [], _, a, ha, _, _, _ => by simp at ha
  | x :: l, h, a, ha, b, hb, e => by
    rw [List.map_cons, List.nodup_cons] at h
    rcases List.mem_cons.1 ha with e1 | ha
    · rcases List.mem_cons.1 hb with e2 | hb
      · rw [e1, e2]
      · exact absurd (show f x ∈ l.map f by rw [← e1, e]; exact List.mem_map_of_mem hb) h.1
    · rcases List.mem_cons.1 hb with e2 | hb
      · exact absurd (show f x ∈ l.map f by rw [← e2, ← e]; exact List.mem_map_of_mem ha) h.1
      · exact inj_of_nodup h.2 a ha b hb e
theorem nodup_map_on {α β : Type} {f : α → β} {l : List α} (h : l.Nodup) (hi : ∀ a ∈ l, ∀ b ∈ l, f a = f b → a = b) : (l.map f).Nodup :=
  List.pairwise_map.2 (List.Pairwise.imp_of_mem (fun {a b} ha hb hab e => hab (hi a ha b hb e)) h)
theorem TookM.done {M : List ClI} {es : Array MapEntry} {clock : Nat} {ts : List MapEntry} {ks : List RfI} (hes : MapIs rfV enV M es clock) (hM : (M.map (·.1)).Nodup) (tk : TookM M es ts ks) (h0 : (leftOf es (ts.map (·.born)).toArray).size = 0) : ks.mergeSort leRf = srtK M := by
  have hkey : es.toList.map (·.key) = (M.map (·.1)).map rfV := by
    have := congrArg (List.map Prod.fst) hes.enc
    rw [List.map_map, List.map_map] at this
    rw [List.map_map]; exact this
  have hkn : (es.toList.map (·.key)).Nodup := by
    rw [hkey]; exact nodup_map_on hM fun a _ b _ e => rfV_inj e
  have hks : ks.Nodup := by
    have h1 : (ts.map (·.key)).Nodup := nodup_map_on (nodup_of_map tk.nd) fun a ha b hb e => inj_of_nodup hkn a (tk.sub a ha) b (tk.sub b hb) e
    rw [tk.key] at h1
    exact nodup_of_map h1
  refine srtK_of hM hks fun x => ⟨fun hx => ?_, fun hx => ?_⟩
  · have h1 : rfV x ∈ ts.map (·.key) := tk.key ▸ List.mem_map_of_mem hx
    obtain ⟨e, he, e1⟩ := List.mem_map.1 h1
    have h2 : e.key ∈ (M.map (·.1)).map rfV := hkey ▸ List.mem_map_of_mem (tk.sub e he)
    obtain ⟨k, hk, e2⟩ := List.mem_map.1 h2
    rw [← rfV_inj (e2.trans e1)]; exact hk
  · have h1 : rfV x ∈ es.toList.map (·.key) := hkey ▸ List.mem_map_of_mem hx
    obtain ⟨e, he, e1⟩ := List.mem_map.1 h1
    have h2 := left_none h0 e he
    rw [List.mem_toArray] at h2
    obtain ⟨e', he', e2⟩ := List.mem_map.1 h2
    have e3 := inj_of_nodup hes.born e' (tk.sub e' he') e he e2
    subst e3
    have h3 : e'.key ∈ ks.map rfV := tk.key ▸ List.mem_map_of_mem he'
    obtain ⟨k, hk, e4⟩ := List.mem_map.1 h3
    rw [← rfV_inj (e4.trans e1)]; exact hk
theorem TookM.next {M : List ClI} {es : Array MapEntry} {ts : List MapEntry} {ks : List RfI} {e : MapEntry} {k : RfI} (tk : TookM M es ts ks) (he : e ∈ (leftOf es (ts.map (·.born)).toArray).toList) (hk : e.key = rfV k) : TookM M es (ts ++ [e]) (ks ++ [k]) := by
  obtain ⟨h1, h2⟩ := left_sub he
  refine ⟨fun x hx => ?_, by rw [List.map_append, List.map_append, tk.key]; simp [hk], ?_⟩
  · rcases List.mem_append.1 hx with hx | hx
    · exact tk.sub x hx
    · rw [List.mem_singleton] at hx; rw [hx]; exact h1
  · rw [List.map_append]
    refine List.nodup_append.2 ⟨tk.nd, by simp, fun a ha b hb e1 => ?_⟩
    simp only [List.map_cons, List.map_nil, List.mem_singleton] at hb
    subst hb
    rw [← e1] at h2
    simp at h2
    obtain ⟨x, hx, e2⟩ := List.mem_map.1 ha
    exact h2 x hx e2
set_option maxHeartbeats 6400000 in
set_option synthInstance.maxSize 2000 in
set_option synthInstance.maxHeartbeats 400000 in
theorem call1_it (M : List ClI) (q r c : Nat) (hM : (M.map (·.1)).Nodup) (hl : M.length ≤ 1000) {Gy : List Pers} (y : Nat) (J Jx : Nat → Res) (hy : YieldOk Try.prog Gy y M.length (allEc M) J Jx) :
    Fun Try.prog 86 [yieldV y, .pointer (some ⟨c, 0, none⟩)] Gy (J 0 :: [celP c q, celB q r, celM r M]) (IterR M.length J Jx [celP c q, celB q r, celM r M]) := by
  refine Fun.enter Try.func86 (by kernel_rfl) rfl Try.ntmps86 rfl (fun B Gf Sf => ?_); (try simp only [List.cons_append]); (try simp only [List.nil_append]); simp only [argEnv]
  (repeat (first | refine vgo ?_ | refine ⟨_, rfl, rfl, ?_⟩ | refine ⟨_, rfl, ?_⟩ | refine ⟨rfl, ?_⟩ | intro hb | (refine altL ?_ ?_; omega) | refine altR ?_ | (refine side ?_ ?_; first | omega | exact True.intro | ((try simp only [List.length_append, List.length_cons, List.length_nil, List.length_map, List.length_replicate, List.length_set, and_true, true_and]); omega) | assumption | (and_intros <;> first | omega | assumption) | decide) | (refine decT ?_ ?_; first | with_reducible assumption | with_reducible rfl | (refine not_not_intro ?_; with_reducible first | assumption | rfl) | omega | decide) | (refine decF ?_ ?_; first | with_reducible assumption | with_reducible rfl | (refine not_not_intro ?_; with_reducible first | assumption | rfl) | omega | decide) | (refine decBT ?_ ?_; with_reducible first | assumption | rfl | exact Bool.not_false) | (refine decBF ?_ ?_; with_reducible first | assumption | rfl | exact Bool.not_true) | refine ⟨_, by assumption, ?_⟩ | refine ⟨_, _, _, rfl, ?_⟩ | refine WC.seq (fun K hK => ?_) | (refine hK _ _ _ ?_; clear hK K) | (refine hK _ _ _ _ rfl ?_; clear hK K) | (refine WX.thenExit (K := K) ?_; clear hK K) | (refine WX.thenExit (K := KL) ?_; clear hL KL)))
  refine WL.openMap r (fun es clock hes => ?_)
  refine WL.rangeM (es := es) (clock := clock) rfl SelC.h rfl (fun it => ?_)
  (repeat (first | refine vgo ?_ | refine ⟨_, rfl, rfl, ?_⟩ | refine ⟨_, rfl, ?_⟩ | refine ⟨rfl, ?_⟩ | intro hb | (refine altL ?_ ?_; omega) | refine altR ?_ | (refine side ?_ ?_; first | omega | exact True.intro | ((try simp only [List.length_append, List.length_cons, List.length_nil, List.length_map, List.length_replicate, List.length_set, and_true, true_and]); omega) | assumption | (and_intros <;> first | omega | assumption) | decide) | (refine decT ?_ ?_; first | with_reducible assumption | with_reducible rfl | (refine not_not_intro ?_; with_reducible first | assumption | rfl) | omega | decide) | (refine decF ?_ ?_; first | with_reducible assumption | with_reducible rfl | (refine not_not_intro ?_; with_reducible first | assumption | rfl) | omega | decide) | (refine decBT ?_ ?_; with_reducible first | assumption | rfl | exact Bool.not_false) | (refine decBF ?_ ?_; with_reducible first | assumption | rfl | exact Bool.not_true) | refine ⟨_, by assumption, ?_⟩ | refine ⟨_, _, _, rfl, ?_⟩ | refine WC.seq (fun K hK => ?_) | (refine hK _ _ _ ?_; clear hK K) | (refine hK _ _ _ _ rfl ?_; clear hK K) | (refine WX.thenExit (K := K) ?_; clear hK K) | (refine WX.thenExit (K := KL) ?_; clear hL KL)))
  have hlen := hes.len
  have left0 : ([] : List MapEntry).length + (leftOf es (([] : List MapEntry).map (·.born)).toArray).size ≤ es.size := by
    unfold leftOf
    have := Array.size_filter_le (p := fun e : MapEntry => !(#[] : Array Nat).contains e.born) (xs := es)
    simpa using this
  refine WC.loop (I := List MapEntry × List RfI × Value) (fun i => [(0, yieldV y), (1, .pointer (some ⟨c, 0, none⟩)), (3, i.2.2), (13, .pointer (some ⟨it, 0, none⟩))]) (fun _ => Gy ++ Gf) (fun i => itR it r clock (i.1.map (·.born)).toArray :: mapC r es clock :: rfO i.2.2 i.2.1 :: J 0 :: celP c q :: celB q r :: Sf) (fun i => TookM M es i.1 i.2.1 ∧ i.1.length = i.2.1.length ∧ i.1.length + (leftOf es (i.1.map (·.born)).toArray).size ≤ es.size) (fun i => (leftOf es (i.1.map (·.born)).toArray).size) ([], [], .slice none 0 0) ⟨⟨by simp, rfl, by simp⟩, rfl, left0⟩ (.cons rfl (.cons rfl (.cons rfl (.cons rfl .nil)))) (fun w h => ?_) ?_
  · dsimp only
    exact (show Sat B (Gy ++ Gf) (itR it r clock #[] :: mapC r es clock :: own 49 4 (.slice none 0 0) 0 [] :: J 0 :: celP c q :: celB q r :: Sf) w from (h.ownNil 49 4).to)
  rintro ⟨ts, ks, ov⟩ ⟨tk, hlk, hls⟩ KL hL
  dsimp only at tk hlk hls ⊢
  (repeat (first | refine vgo ?_ | refine ⟨_, rfl, rfl, ?_⟩ | refine ⟨_, rfl, ?_⟩ | refine ⟨rfl, ?_⟩ | intro hb | (refine altL ?_ ?_; omega) | refine altR ?_ | (refine side ?_ ?_; first | omega | exact True.intro | ((try simp only [List.length_append, List.length_cons, List.length_nil, List.length_map, List.length_replicate, List.length_set, and_true, true_and]); omega) | assumption | (and_intros <;> first | omega | assumption) | decide) | (refine decT ?_ ?_; first | with_reducible assumption | with_reducible rfl | (refine not_not_intro ?_; with_reducible first | assumption | rfl) | omega | decide) | (refine decF ?_ ?_; first | with_reducible assumption | with_reducible rfl | (refine not_not_intro ?_; with_reducible first | assumption | rfl) | omega | decide) | (refine decBT ?_ ?_; with_reducible first | assumption | rfl | exact Bool.not_false) | (refine decBF ?_ ?_; with_reducible first | assumption | rfl | exact Bool.not_true) | refine ⟨_, by assumption, ?_⟩ | refine ⟨_, _, _, rfl, ?_⟩ | refine WC.seq (fun K hK => ?_) | (refine hK _ _ _ ?_; clear hK K) | (refine hK _ _ _ _ rfl ?_; clear hK K) | (refine WX.thenExit (K := K) ?_; clear hK K) | (refine WX.thenExit (K := KL) ?_; clear hL KL)))
  refine WL.nextM (it := it) (r := r) (clock := clock) (es := es) (seen := (ts.map (·.born)).toArray) rfl SelC.h SelC.h hes.old rfl (fun h0 => ?_) (fun e he => ?_)
  rotate_left
  · obtain ⟨k, hk⟩ := hes.keys e (left_sub he).1
    have hlt := left_lt he
    have hpush : (ts.map (·.born)).toArray.push e.born = ((ts ++ [e]).map (·.born)).toArray := by simp
    (repeat (first | refine vgo ?_ | refine ⟨_, rfl, rfl, ?_⟩ | refine ⟨_, rfl, ?_⟩ | refine ⟨rfl, ?_⟩ | intro hb | (refine altL ?_ ?_; omega) | refine altR ?_ | (refine side ?_ ?_; first | omega | exact True.intro | ((try simp only [List.length_append, List.length_cons, List.length_nil, List.length_map, List.length_replicate, List.length_set, and_true, true_and]); omega) | assumption | (and_intros <;> first | omega | assumption) | decide) | (refine decT ?_ ?_; first | with_reducible assumption | with_reducible rfl | (refine not_not_intro ?_; with_reducible first | assumption | rfl) | omega | decide) | (refine decF ?_ ?_; first | with_reducible assumption | with_reducible rfl | (refine not_not_intro ?_; with_reducible first | assumption | rfl) | omega | decide) | (refine decBT ?_ ?_; with_reducible first | assumption | rfl | exact Bool.not_false) | (refine decBF ?_ ?_; with_reducible first | assumption | rfl | exact Bool.not_true) | refine ⟨_, by assumption, ?_⟩ | refine ⟨_, _, _, rfl, ?_⟩ | refine WC.seq (fun K hK => ?_) | (refine hK _ _ _ ?_; clear hK K) | (refine hK _ _ _ _ rfl ?_; clear hK K) | (refine WX.thenExit (K := K) ?_; clear hK K) | (refine WX.thenExit (K := KL) ?_; clear hL KL)))
    refine WL.entryM (it := it) (r := r) (clock := clock) (es := es) (seen := (ts.map (·.born)).toArray) (e := e) rfl SelC.h SelC.h (left_sub he).1 hes.born rfl ?_
    rw [hk]
    (repeat (first | refine vgo ?_ | refine ⟨_, rfl, rfl, ?_⟩ | refine ⟨_, rfl, ?_⟩ | refine ⟨rfl, ?_⟩ | intro hb | (refine altL ?_ ?_; omega) | refine altR ?_ | (refine side ?_ ?_; first | omega | exact True.intro | ((try simp only [List.length_append, List.length_cons, List.length_nil, List.length_map, List.length_replicate, List.length_set, and_true, true_and]); omega) | assumption | (and_intros <;> first | omega | assumption) | decide) | (refine decT ?_ ?_; first | with_reducible assumption | with_reducible rfl | (refine not_not_intro ?_; with_reducible first | assumption | rfl) | omega | decide) | (refine decF ?_ ?_; first | with_reducible assumption | with_reducible rfl | (refine not_not_intro ?_; with_reducible first | assumption | rfl) | omega | decide) | (refine decBT ?_ ?_; with_reducible first | assumption | rfl | exact Bool.not_false) | (refine decBF ?_ ?_; with_reducible first | assumption | rfl | exact Bool.not_true) | refine ⟨_, by assumption, ?_⟩ | refine ⟨_, _, _, rfl, ?_⟩ | refine WC.seq (fun K hK => ?_) | (refine hK _ _ _ ?_; clear hK K) | (refine hK _ _ _ _ rfl ?_; clear hK K) | (refine WX.thenExit (K := K) ?_; clear hK K) | (refine WX.thenExit (K := KL) ?_; clear hL KL)))
    refine WL.alloc rfl ?_; intro b4
    (repeat (first | refine vgo ?_ | refine ⟨_, rfl, rfl, ?_⟩ | refine ⟨_, rfl, ?_⟩ | refine ⟨rfl, ?_⟩ | intro hb | (refine altL ?_ ?_; omega) | refine altR ?_ | (refine side ?_ ?_; first | omega | exact True.intro | ((try simp only [List.length_append, List.length_cons, List.length_nil, List.length_map, List.length_replicate, List.length_set, and_true, true_and]); omega) | assumption | (and_intros <;> first | omega | assumption) | decide) | (refine decT ?_ ?_; first | with_reducible assumption | with_reducible rfl | (refine not_not_intro ?_; with_reducible first | assumption | rfl) | omega | decide) | (refine decF ?_ ?_; first | with_reducible assumption | with_reducible rfl | (refine not_not_intro ?_; with_reducible first | assumption | rfl) | omega | decide) | (refine decBT ?_ ?_; with_reducible first | assumption | rfl | exact Bool.not_false) | (refine decBF ?_ ?_; with_reducible first | assumption | rfl | exact Bool.not_true) | refine ⟨_, by assumption, ?_⟩ | refine ⟨_, _, _, rfl, ?_⟩ | refine WC.seq (fun K hK => ?_) | (refine hK _ _ _ ?_; clear hK K) | (refine hK _ _ _ _ rfl ?_; clear hK K) | (refine WX.thenExit (K := K) ?_; clear hK K) | (refine WX.thenExit (K := KL) ?_; clear hL KL)))
    refine (hL (ts ++ [e], ks ++ [k], hb) ⟨tk.next he hk, by simp [hlk], ?_⟩ ?_).conv (.cons rfl (.cons rfl (.cons rfl (.cons rfl .nil)))) (fun w h => ?_)
    · dsimp only
      rw [List.length_append, List.length_singleton, ← hpush]; omega
    · dsimp only
      rw [← hpush]; exact hlt
    · dsimp only
      rw [List.append_nil] at h
      rw [rfO_snoc, ← hpush]
      exact h.to
  · have hdone := tk.done hes hM h0
    have hks : ks.length ≤ 1000 := by omega
    (repeat (first | refine vgo ?_ | refine ⟨_, rfl, rfl, ?_⟩ | refine ⟨_, rfl, ?_⟩ | refine ⟨rfl, ?_⟩ | intro hb | (refine altL ?_ ?_; omega) | refine altR ?_ | (refine side ?_ ?_; first | omega | exact True.intro | ((try simp only [List.length_append, List.length_cons, List.length_nil, List.length_map, List.length_replicate, List.length_set, and_true, true_and]); omega) | assumption | (and_intros <;> first | omega | assumption) | decide) | (refine decT ?_ ?_; first | with_reducible assumption | with_reducible rfl | (refine not_not_intro ?_; with_reducible first | assumption | rfl) | omega | decide) | (refine decF ?_ ?_; first | with_reducible assumption | with_reducible rfl | (refine not_not_intro ?_; with_reducible first | assumption | rfl) | omega | decide) | (refine decBT ?_ ?_; with_reducible first | assumption | rfl | exact Bool.not_false) | (refine decBF ?_ ?_; with_reducible first | assumption | rfl | exact Bool.not_true) | refine ⟨_, by assumption, ?_⟩ | refine ⟨_, _, _, rfl, ?_⟩ | refine WC.seq (fun K hK => ?_) | (refine hK _ _ _ ?_; clear hK K) | (refine hK _ _ _ _ rfl ?_; clear hK K) | (refine WX.thenExit (K := K) ?_; clear hK K) | (refine WX.thenExit (K := KL) ?_; clear hL KL)))
    refine CallV.by' (sortRf_fun ks (by omega) ov) ?_; rintro _ _ _ ⟨rfl, rfl⟩; (try simp only [List.cons_append]); (try simp only [List.nil_append])
    rw [hdone]
    refine WL.sat (fun w sw => (show Sat B (Gy ++ Gf) (celM r M :: rfO ov (srtK M) :: J 0 :: celP c q :: celB q r :: Sf) w from ((sw.to : Sat B (Gy ++ Gf) (mapC r es clock :: rfO ov (srtK M) :: J 0 :: celP c q :: celB q r :: Sf) w).mapShut hes))) ?_
    (repeat (first | refine vgo ?_ | refine ⟨_, rfl, rfl, ?_⟩ | refine ⟨_, rfl, ?_⟩ | refine ⟨rfl, ?_⟩ | intro hb | (refine altL ?_ ?_; omega) | refine altR ?_ | (refine side ?_ ?_; first | omega | exact True.intro | ((try simp only [List.length_append, List.length_cons, List.length_nil, List.length_map, List.length_replicate, List.length_set, and_true, true_and]); omega) | assumption | (and_intros <;> first | omega | assumption) | decide) | (refine decT ?_ ?_; first | with_reducible assumption | with_reducible rfl | (refine not_not_intro ?_; with_reducible first | assumption | rfl) | omega | decide) | (refine decF ?_ ?_; first | with_reducible assumption | with_reducible rfl | (refine not_not_intro ?_; with_reducible first | assumption | rfl) | omega | decide) | (refine decBT ?_ ?_; with_reducible first | assumption | rfl | exact Bool.not_false) | (refine decBF ?_ ?_; with_reducible first | assumption | rfl | exact Bool.not_true) | refine ⟨_, by assumption, ?_⟩ | refine ⟨_, _, _, rfl, ?_⟩ | refine WC.seq (fun K hK => ?_) | (refine hK _ _ _ ?_; clear hK K) | (refine hK _ _ _ _ rfl ?_; clear hK K) | (refine WX.thenExit (K := K) ?_; clear hK K) | (refine WX.thenExit (K := KL) ?_; clear hL KL)))
    refine WC.sat (fun w sw => sw.pub (R := rfT) (l := srtK M) (v := ov) SelOwn.h rfl rfl rfl (fun _ _ => trivial)) ?_
    have hsl := srtK_len M
    (repeat (first | refine vgo ?_ | refine ⟨_, rfl, rfl, ?_⟩ | refine ⟨_, rfl, ?_⟩ | refine ⟨rfl, ?_⟩ | intro hb | (refine altL ?_ ?_; omega) | refine altR ?_ | (refine side ?_ ?_; first | omega | exact True.intro | ((try simp only [List.length_append, List.length_cons, List.length_nil, List.length_map, List.length_replicate, List.length_set, and_true, true_and]); omega) | assumption | (and_intros <;> first | omega | assumption) | decide) | (refine decT ?_ ?_; first | with_reducible assumption | with_reducible rfl | (refine not_not_intro ?_; with_reducible first | assumption | rfl) | omega | decide) | (refine decF ?_ ?_; first | with_reducible assumption | with_reducible rfl | (refine not_not_intro ?_; with_reducible first | assumption | rfl) | omega | decide) | (refine decBT ?_ ?_; with_reducible first | assumption | rfl | exact Bool.not_false) | (refine decBF ?_ ?_; with_reducible first | assumption | rfl | exact Bool.not_true) | refine ⟨_, by assumption, ?_⟩ | refine ⟨_, _, _, rfl, ?_⟩ | refine WC.seq (fun K hK => ?_) | (refine hK _ _ _ ?_; clear hK K) | (refine hK _ _ _ _ rfl ?_; clear hK K) | (refine WX.thenExit (K := K) ?_; clear hK K) | (refine WX.thenExit (K := KL) ?_; clear hL KL)))

    refine WC.loop (I := Nat) (fun k => [(0, yieldV y), (1, .pointer (some ⟨c, 0, none⟩)), (24, ov), (25, .int .i64 ((srtK M).length : Int)), (26, .int .i64 ((k : Nat) : Int))]) (fun _ => rd rfT.sl (srtK M) ov :: (Gy ++ Gf)) (fun k => J k :: celM r M :: celP c q :: celB q r :: Sf) (fun k => k ≤ M.length) (fun k => M.length - k) 0 (Nat.zero_le _) (.cons rfl (.cons rfl (.cons rfl (.cons rfl (.cons rfl .nil))))) (fun w h => h.to) ?_
    intro k hkk KL hL
    by_cases g : k < M.length
    · obtain ⟨hk1, hk2⟩ := atC_get hM g
      (repeat (first | refine vgo ?_ | refine ⟨_, rfl, rfl, ?_⟩ | refine ⟨_, rfl, ?_⟩ | refine ⟨rfl, ?_⟩ | intro hb | (refine altL ?_ ?_; omega) | refine altR ?_ | (refine side ?_ ?_; first | omega | exact True.intro | ((try simp only [List.length_append, List.length_cons, List.length_nil, List.length_map, List.length_replicate, List.length_set, and_true, true_and]); omega) | assumption | (and_intros <;> first | omega | assumption) | decide) | (refine decT ?_ ?_; first | with_reducible assumption | with_reducible rfl | (refine not_not_intro ?_; with_reducible first | assumption | rfl) | omega | decide) | (refine decF ?_ ?_; first | with_reducible assumption | with_reducible rfl | (refine not_not_intro ?_; with_reducible first | assumption | rfl) | omega | decide) | (refine decBT ?_ ?_; with_reducible first | assumption | rfl | exact Bool.not_false) | (refine decBF ?_ ?_; with_reducible first | assumption | rfl | exact Bool.not_true) | refine ⟨_, by assumption, ?_⟩ | refine ⟨_, _, _, rfl, ?_⟩ | refine WC.seq (fun K hK => ?_) | (refine hK _ _ _ ?_; clear hK K) | (refine hK _ _ _ _ rfl ?_; clear hK K) | (refine WX.thenExit (K := K) ?_; clear hK K) | (refine WX.thenExit (K := KL) ?_; clear hL KL)))
      refine WL.alloc rfl ?_; intro b9
      (repeat (first | refine vgo ?_ | refine ⟨_, rfl, rfl, ?_⟩ | refine ⟨_, rfl, ?_⟩ | refine ⟨rfl, ?_⟩ | intro hb | (refine altL ?_ ?_; omega) | refine altR ?_ | (refine side ?_ ?_; first | omega | exact True.intro | ((try simp only [List.length_append, List.length_cons, List.length_nil, List.length_map, List.length_replicate, List.length_set, and_true, true_and]); omega) | assumption | (and_intros <;> first | omega | assumption) | decide) | (refine decT ?_ ?_; first | with_reducible assumption | with_reducible rfl | (refine not_not_intro ?_; with_reducible first | assumption | rfl) | omega | decide) | (refine decF ?_ ?_; first | with_reducible assumption | with_reducible rfl | (refine not_not_intro ?_; with_reducible first | assumption | rfl) | omega | decide) | (refine decBT ?_ ?_; with_reducible first | assumption | rfl | exact Bool.not_false) | (refine decBF ?_ ?_; with_reducible first | assumption | rfl | exact Bool.not_true) | refine ⟨_, by assumption, ?_⟩ | refine ⟨_, _, _, rfl, ?_⟩ | refine WC.seq (fun K hK => ?_) | (refine hK _ _ _ ?_; clear hK K) | (refine hK _ _ _ _ rfl ?_; clear hK K) | (refine WX.thenExit (K := K) ?_; clear hK K) | (refine WX.thenExit (K := KL) ?_; clear hL KL)))
      refine WC.drawV (S := (box b9 49 (rfC (atC M k).1) :: celM r M :: celP c q :: celB q r :: Sf)) ([[J k]]) rfl (by repeat (first | exact Wo.nil | (apply Wo.keep; exact rfl) | (apply Wo.drop; exact rfl))) (fun w sw => by (try simp only [List.flatten_cons, List.flatten_nil, List.append_nil, List.cons_append, List.nil_append]); exact sw.to) ?_; (try dsimp only [chunks])
      (repeat (apply ObP3.cons0; focus ((repeat (intro _)); (conv => whnf); (repeat (first | refine vgo ?_ | refine ⟨_, rfl, rfl, ?_⟩ | refine ⟨_, rfl, ?_⟩ | refine ⟨rfl, ?_⟩ | intro hb | (refine altL ?_ ?_; omega) | refine altR ?_ | (refine side ?_ ?_; first | omega | exact True.intro | ((try simp only [List.length_append, List.length_cons, List.length_nil, List.length_map, List.length_replicate, List.length_set, and_true, true_and]); omega) | assumption | (and_intros <;> first | omega | assumption) | decide) | (refine decT ?_ ?_; first | with_reducible assumption | with_reducible rfl | (refine not_not_intro ?_; with_reducible first | assumption | rfl) | omega | decide) | (refine decF ?_ ?_; first | with_reducible assumption | with_reducible rfl | (refine not_not_intro ?_; with_reducible first | assumption | rfl) | omega | decide) | (refine decBT ?_ ?_; with_reducible first | assumption | rfl | exact Bool.not_false) | (refine decBF ?_ ?_; with_reducible first | assumption | rfl | exact Bool.not_true) | refine ⟨_, by assumption, ?_⟩ | refine ⟨_, _, _, rfl, ?_⟩ | refine WC.seq (fun K hK => ?_) | (refine hK _ _ _ ?_; clear hK K) | (refine hK _ _ _ _ rfl ?_; clear hK K) | (refine WX.thenExit (K := K) ?_; clear hK K) | (refine WX.thenExit (K := KL) ?_; clear hL KL))); first | exact WX.pgIs rfl | exact WX.pgRd rfl | exact WX.pgCell rfl | exact WX.pgNone | exact WX.pgOwn rfl))); try (refine ObP3.nil ?_; (repeat (intro _)); (conv => whnf); (try dsimp only [envO, List.cons_append, List.nil_append]))
      refine ObP3.cons1 [] [] (.is (enV (atC M k).2)) ?_ rfl ?_
      · (repeat (intro _)); (conv => whnf); (try dsimp only [envO, List.cons_append, List.nil_append])
        (repeat (first | refine vgo ?_ | refine ⟨_, rfl, rfl, ?_⟩ | refine ⟨_, rfl, ?_⟩ | refine ⟨rfl, ?_⟩ | intro hb | (refine altL ?_ ?_; omega) | refine altR ?_ | (refine side ?_ ?_; first | omega | exact True.intro | ((try simp only [List.length_append, List.length_cons, List.length_nil, List.length_map, List.length_replicate, List.length_set, and_true, true_and]); omega) | assumption | (and_intros <;> first | omega | assumption) | decide) | (refine decT ?_ ?_; first | with_reducible assumption | with_reducible rfl | (refine not_not_intro ?_; with_reducible first | assumption | rfl) | omega | decide) | (refine decF ?_ ?_; first | with_reducible assumption | with_reducible rfl | (refine not_not_intro ?_; with_reducible first | assumption | rfl) | omega | decide) | (refine decBT ?_ ?_; with_reducible first | assumption | rfl | exact Bool.not_false) | (refine decBF ?_ ?_; with_reducible first | assumption | rfl | exact Bool.not_true) | refine ⟨_, by assumption, ?_⟩ | refine ⟨_, _, _, rfl, ?_⟩ | refine WC.seq (fun K hK => ?_) | (refine hK _ _ _ ?_; clear hK K) | (refine hK _ _ _ _ rfl ?_; clear hK K) | (refine WX.thenExit (K := K) ?_; clear hK K) | (refine WX.thenExit (K := KL) ?_; clear hL KL)))
        refine WL.lookupF (f := rfV) (g := enV) (r := r) (M := M) (a := (atC M k).1) rfl rfl rfl rfl ?_
        rw [hk2]
        (repeat (first | refine vgo ?_ | refine ⟨_, rfl, rfl, ?_⟩ | refine ⟨_, rfl, ?_⟩ | refine ⟨rfl, ?_⟩ | intro hb | (refine altL ?_ ?_; omega) | refine altR ?_ | (refine side ?_ ?_; first | omega | exact True.intro | ((try simp only [List.length_append, List.length_cons, List.length_nil, List.length_map, List.length_replicate, List.length_set, and_true, true_and]); omega) | assumption | (and_intros <;> first | omega | assumption) | decide) | (refine decT ?_ ?_; first | with_reducible assumption | with_reducible rfl | (refine not_not_intro ?_; with_reducible first | assumption | rfl) | omega | decide) | (refine decF ?_ ?_; first | with_reducible assumption | with_reducible rfl | (refine not_not_intro ?_; with_reducible first | assumption | rfl) | omega | decide) | (refine decBT ?_ ?_; with_reducible first | assumption | rfl | exact Bool.not_false) | (refine decBF ?_ ?_; with_reducible first | assumption | rfl | exact Bool.not_true) | refine ⟨_, by assumption, ?_⟩ | refine ⟨_, _, _, rfl, ?_⟩ | refine WC.seq (fun K hK => ?_) | (refine hK _ _ _ ?_; clear hK K) | (refine hK _ _ _ _ rfl ?_; clear hK K) | (refine WX.thenExit (K := K) ?_; clear hK K) | (refine WX.thenExit (K := KL) ?_; clear hL KL)))
        first | exact WX.pgIs rfl | exact WX.pgRd rfl | exact WX.pgCell rfl | exact WX.pgNone | exact WX.pgOwn rfl
      (repeat (apply ObP3.cons0; focus ((repeat (intro _)); (conv => whnf); (try dsimp only [envO, List.cons_append, List.nil_append]); (repeat (first | refine vgo ?_ | refine ⟨_, rfl, rfl, ?_⟩ | refine ⟨_, rfl, ?_⟩ | refine ⟨rfl, ?_⟩ | intro hb | (refine altL ?_ ?_; omega) | refine altR ?_ | (refine side ?_ ?_; first | omega | exact True.intro | ((try simp only [List.length_append, List.length_cons, List.length_nil, List.length_map, List.length_replicate, List.length_set, and_true, true_and]); omega) | assumption | (and_intros <;> first | omega | assumption) | decide) | (refine decT ?_ ?_; first | with_reducible assumption | with_reducible rfl | (refine not_not_intro ?_; with_reducible first | assumption | rfl) | omega | decide) | (refine decF ?_ ?_; first | with_reducible assumption | with_reducible rfl | (refine not_not_intro ?_; with_reducible first | assumption | rfl) | omega | decide) | (refine decBT ?_ ?_; with_reducible first | assumption | rfl | exact Bool.not_false) | (refine decBF ?_ ?_; with_reducible first | assumption | rfl | exact Bool.not_true) | refine ⟨_, by assumption, ?_⟩ | refine ⟨_, _, _, rfl, ?_⟩ | refine WC.seq (fun K hK => ?_) | (refine hK _ _ _ ?_; clear hK K) | (refine hK _ _ _ _ rfl ?_; clear hK K) | (refine WX.thenExit (K := K) ?_; clear hK K) | (refine WX.thenExit (K := KL) ?_; clear hL KL))); first | exact WX.pgIs rfl | exact WX.pgRd rfl | exact WX.pgCell rfl | exact WX.pgNone | exact WX.pgOwn rfl))); try (refine ObP3.nil ?_; (repeat (intro _)); (conv => whnf); (try dsimp only [envO, List.cons_append, List.nil_append]))
      refine ObP3.cons1 [] [1000] (.ex Bool (fun b => .bool b) (fun _ => []) (fun b => [bif b then J (k + 1) else Jx k])) ?_ rfl ?_
      · (repeat (intro _)); (conv => whnf); (try dsimp only [envO, List.cons_append, List.nil_append])
        (repeat (first | refine vgo ?_ | refine ⟨_, rfl, rfl, ?_⟩ | refine ⟨_, rfl, ?_⟩ | refine ⟨rfl, ?_⟩ | intro hb | (refine altL ?_ ?_; omega) | refine altR ?_ | (refine side ?_ ?_; first | omega | exact True.intro | ((try simp only [List.length_append, List.length_cons, List.length_nil, List.length_map, List.length_replicate, List.length_set, and_true, true_and]); omega) | assumption | (and_intros <;> first | omega | assumption) | decide) | (refine decT ?_ ?_; first | with_reducible assumption | with_reducible rfl | (refine not_not_intro ?_; with_reducible first | assumption | rfl) | omega | decide) | (refine decF ?_ ?_; first | with_reducible assumption | with_reducible rfl | (refine not_not_intro ?_; with_reducible first | assumption | rfl) | omega | decide) | (refine decBT ?_ ?_; with_reducible first | assumption | rfl | exact Bool.not_false) | (refine decBF ?_ ?_; with_reducible first | assumption | rfl | exact Bool.not_true) | refine ⟨_, by assumption, ?_⟩ | refine ⟨_, _, _, rfl, ?_⟩ | refine WC.seq (fun K hK => ?_) | (refine hK _ _ _ ?_; clear hK K) | (refine hK _ _ _ _ rfl ?_; clear hK K) | (refine WX.thenExit (K := K) ?_; clear hK K) | (refine WX.thenExit (K := KL) ?_; clear hL KL)))
        refine CallFV.yieldC hy g rfl (fun g hg => by simp [hg]) SelC.h ?_ ?_
        · (repeat (first | refine vgo ?_ | refine ⟨_, rfl, rfl, ?_⟩ | refine ⟨_, rfl, ?_⟩ | refine ⟨rfl, ?_⟩ | intro hb | (refine altL ?_ ?_; omega) | refine altR ?_ | (refine side ?_ ?_; first | omega | exact True.intro | ((try simp only [List.length_append, List.length_cons, List.length_nil, List.length_map, List.length_replicate, List.length_set, and_true, true_and]); omega) | assumption | (and_intros <;> first | omega | assumption) | decide) | (refine decT ?_ ?_; first | with_reducible assumption | with_reducible rfl | (refine not_not_intro ?_; with_reducible first | assumption | rfl) | omega | decide) | (refine decF ?_ ?_; first | with_reducible assumption | with_reducible rfl | (refine not_not_intro ?_; with_reducible first | assumption | rfl) | omega | decide) | (refine decBT ?_ ?_; with_reducible first | assumption | rfl | exact Bool.not_false) | (refine decBF ?_ ?_; with_reducible first | assumption | rfl | exact Bool.not_true) | refine ⟨_, by assumption, ?_⟩ | refine ⟨_, _, _, rfl, ?_⟩ | refine WC.seq (fun K hK => ?_) | (refine hK _ _ _ ?_; clear hK K) | (refine hK _ _ _ _ rfl ?_; clear hK K) | (refine WX.thenExit (K := K) ?_; clear hK K) | (refine WX.thenExit (K := KL) ?_; clear hL KL)))
          exact WX.pgEx true rfl (fun w sw => sw)
        · (repeat (first | refine vgo ?_ | refine ⟨_, rfl, rfl, ?_⟩ | refine ⟨_, rfl, ?_⟩ | refine ⟨rfl, ?_⟩ | intro hb | (refine altL ?_ ?_; omega) | refine altR ?_ | (refine side ?_ ?_; first | omega | exact True.intro | ((try simp only [List.length_append, List.length_cons, List.length_nil, List.length_map, List.length_replicate, List.length_set, and_true, true_and]); omega) | assumption | (and_intros <;> first | omega | assumption) | decide) | (refine decT ?_ ?_; first | with_reducible assumption | with_reducible rfl | (refine not_not_intro ?_; with_reducible first | assumption | rfl) | omega | decide) | (refine decF ?_ ?_; first | with_reducible assumption | with_reducible rfl | (refine not_not_intro ?_; with_reducible first | assumption | rfl) | omega | decide) | (refine decBT ?_ ?_; with_reducible first | assumption | rfl | exact Bool.not_false) | (refine decBF ?_ ?_; with_reducible first | assumption | rfl | exact Bool.not_true) | refine ⟨_, by assumption, ?_⟩ | refine ⟨_, _, _, rfl, ?_⟩ | refine WC.seq (fun K hK => ?_) | (refine hK _ _ _ ?_; clear hK K) | (refine hK _ _ _ _ rfl ?_; clear hK K) | (refine WX.thenExit (K := K) ?_; clear hK K) | (refine WX.thenExit (K := KL) ?_; clear hL KL)))
          exact WX.pgEx false rfl (fun w sw => sw)
      refine ObP3.cons1 [] [9] (.ex Bool (fun b => .bool (!b)) (fun _ => []) (fun b => [bif b then J (k + 1) else Jx k])) ?_ rfl ?_
      · (repeat (intro _)); (conv => whnf); (try dsimp only [envO, List.cons_append, List.nil_append])
        (repeat (first | refine vgo ?_ | refine ⟨_, rfl, rfl, ?_⟩ | refine ⟨_, rfl, ?_⟩ | refine ⟨rfl, ?_⟩ | intro hb | (refine altL ?_ ?_; omega) | refine altR ?_ | (refine side ?_ ?_; first | omega | exact True.intro | ((try simp only [List.length_append, List.length_cons, List.length_nil, List.length_map, List.length_replicate, List.length_set, and_true, true_and]); omega) | assumption | (and_intros <;> first | omega | assumption) | decide) | (refine decT ?_ ?_; first | with_reducible assumption | with_reducible rfl | (refine not_not_intro ?_; with_reducible first | assumption | rfl) | omega | decide) | (refine decF ?_ ?_; first | with_reducible assumption | with_reducible rfl | (refine not_not_intro ?_; with_reducible first | assumption | rfl) | omega | decide) | (refine decBT ?_ ?_; with_reducible first | assumption | rfl | exact Bool.not_false) | (refine decBF ?_ ?_; with_reducible first | assumption | rfl | exact Bool.not_true) | refine ⟨_, by assumption, ?_⟩ | refine ⟨_, _, _, rfl, ?_⟩ | refine WC.seq (fun K hK => ?_) | (refine hK _ _ _ ?_; clear hK K) | (refine hK _ _ _ _ rfl ?_; clear hK K) | (refine WX.thenExit (K := K) ?_; clear hK K) | (refine WX.thenExit (K := KL) ?_; clear hL KL)))
        rename_i bb _
        exact WX.pgEx bb rfl (fun w sw => sw.to)
      (repeat (apply ObP3.cons0; focus ((repeat (intro _)); (conv => whnf); (try dsimp only [envO, List.cons_append, List.nil_append]); (repeat (first | refine vgo ?_ | refine ⟨_, rfl, rfl, ?_⟩ | refine ⟨_, rfl, ?_⟩ | refine ⟨rfl, ?_⟩ | intro hb | (refine altL ?_ ?_; omega) | refine altR ?_ | (refine side ?_ ?_; first | omega | exact True.intro | ((try simp only [List.length_append, List.length_cons, List.length_nil, List.length_map, List.length_replicate, List.length_set, and_true, true_and]); omega) | assumption | (and_intros <;> first | omega | assumption) | decide) | (refine decT ?_ ?_; first | with_reducible assumption | with_reducible rfl | (refine not_not_intro ?_; with_reducible first | assumption | rfl) | omega | decide) | (refine decF ?_ ?_; first | with_reducible assumption | with_reducible rfl | (refine not_not_intro ?_; with_reducible first | assumption | rfl) | omega | decide) | (refine decBT ?_ ?_; with_reducible first | assumption | rfl | exact Bool.not_false) | (refine decBF ?_ ?_; with_reducible first | assumption | rfl | exact Bool.not_true) | refine ⟨_, by assumption, ?_⟩ | refine ⟨_, _, _, rfl, ?_⟩ | refine WC.seq (fun K hK => ?_) | (refine hK _ _ _ ?_; clear hK K) | (refine hK _ _ _ _ rfl ?_; clear hK K) | (refine WX.thenExit (K := K) ?_; clear hK K) | (refine WX.thenExit (K := KL) ?_; clear hL KL))); first | exact WX.pgIs rfl | exact WX.pgRd rfl | exact WX.pgCell rfl | exact WX.pgNone | exact WX.pgOwn rfl))); try (refine ObP3.nil ?_; (repeat (intro _)); (conv => whnf); (try dsimp only [envO, List.cons_append, List.nil_append]))
      (repeat (first | refine vgo ?_ | refine ⟨_, rfl, rfl, ?_⟩ | refine ⟨_, rfl, ?_⟩ | refine ⟨rfl, ?_⟩ | intro hb | (refine altL ?_ ?_; omega) | refine altR ?_ | (refine side ?_ ?_; first | omega | exact True.intro | ((try simp only [List.length_append, List.length_cons, List.length_nil, List.length_map, List.length_replicate, List.length_set, and_true, true_and]); omega) | assumption | (and_intros <;> first | omega | assumption) | decide) | (refine decT ?_ ?_; first | with_reducible assumption | with_reducible rfl | (refine not_not_intro ?_; with_reducible first | assumption | rfl) | omega | decide) | (refine decF ?_ ?_; first | with_reducible assumption | with_reducible rfl | (refine not_not_intro ?_; with_reducible first | assumption | rfl) | omega | decide) | (refine decBT ?_ ?_; with_reducible first | assumption | rfl | exact Bool.not_false) | (refine decBF ?_ ?_; with_reducible first | assumption | rfl | exact Bool.not_true) | refine ⟨_, by assumption, ?_⟩ | refine ⟨_, _, _, rfl, ?_⟩ | refine WC.seq (fun K hK => ?_) | (refine hK _ _ _ ?_; clear hK K) | (refine hK _ _ _ _ rfl ?_; clear hK K) | (refine WX.thenExit (K := K) ?_; clear hK K) | (refine WX.thenExit (K := KL) ?_; clear hL KL)))
      rename_i bb _ _
      cases bb
      · (repeat (first | refine vgo ?_ | refine ⟨_, rfl, rfl, ?_⟩ | refine ⟨_, rfl, ?_⟩ | refine ⟨rfl, ?_⟩ | intro hb | (refine altL ?_ ?_; omega) | refine altR ?_ | (refine side ?_ ?_; first | omega | exact True.intro | ((try simp only [List.length_append, List.length_cons, List.length_nil, List.length_map, List.length_replicate, List.length_set, and_true, true_and]); omega) | assumption | (and_intros <;> first | omega | assumption) | decide) | (refine decT ?_ ?_; first | with_reducible assumption | with_reducible rfl | (refine not_not_intro ?_; with_reducible first | assumption | rfl) | omega | decide) | (refine decF ?_ ?_; first | with_reducible assumption | with_reducible rfl | (refine not_not_intro ?_; with_reducible first | assumption | rfl) | omega | decide) | (refine decBT ?_ ?_; with_reducible first | assumption | rfl | exact Bool.not_false) | (refine decBF ?_ ?_; with_reducible first | assumption | rfl | exact Bool.not_true) | refine ⟨_, by assumption, ?_⟩ | refine ⟨_, _, _, rfl, ?_⟩ | refine WC.seq (fun K hK => ?_) | (refine hK _ _ _ ?_; clear hK K) | (refine hK _ _ _ _ rfl ?_; clear hK K) | (refine WX.thenExit (K := K) ?_; clear hK K) | (refine WX.thenExit (K := KL) ?_; clear hL KL)))
        exact WX.ret0 rfl (fun w sw => ⟨_, _, ⟨rfl, .inr ⟨k, g, rfl⟩⟩, (show Sat B _ (Jx k :: _) w from sw).to⟩)
      · (repeat (first | refine vgo ?_ | refine ⟨_, rfl, rfl, ?_⟩ | refine ⟨_, rfl, ?_⟩ | refine ⟨rfl, ?_⟩ | intro hb | (refine altL ?_ ?_; omega) | refine altR ?_ | (refine side ?_ ?_; first | omega | exact True.intro | ((try simp only [List.length_append, List.length_cons, List.length_nil, List.length_map, List.length_replicate, List.length_set, and_true, true_and]); omega) | assumption | (and_intros <;> first | omega | assumption) | decide) | (refine decT ?_ ?_; first | with_reducible assumption | with_reducible rfl | (refine not_not_intro ?_; with_reducible first | assumption | rfl) | omega | decide) | (refine decF ?_ ?_; first | with_reducible assumption | with_reducible rfl | (refine not_not_intro ?_; with_reducible first | assumption | rfl) | omega | decide) | (refine decBT ?_ ?_; with_reducible first | assumption | rfl | exact Bool.not_false) | (refine decBF ?_ ?_; with_reducible first | assumption | rfl | exact Bool.not_true) | refine ⟨_, by assumption, ?_⟩ | refine ⟨_, _, _, rfl, ?_⟩ | refine WC.seq (fun K hK => ?_) | (refine hK _ _ _ ?_; clear hK K) | (refine hK _ _ _ _ rfl ?_; clear hK K) | (refine WX.thenExit (K := K) ?_; clear hK K) | (refine WX.thenExit (K := KL) ?_; clear hL KL)))
        exact (hL (k + 1) g (by omega)).conv (.cons rfl (.cons rfl (.cons rfl (.cons rfl (.cons (by simp only [Env.get]; exact congrArg (fun z : Int => some (Value.int .i64 z)) (by omega)) .nil))))) (fun w h => (show Sat _ _ (J (k + 1) :: _) w from h).to)
    · obtain rfl : k = M.length := by omega
      (repeat (first | refine vgo ?_ | refine ⟨_, rfl, rfl, ?_⟩ | refine ⟨_, rfl, ?_⟩ | refine ⟨rfl, ?_⟩ | intro hb | (refine altL ?_ ?_; omega) | refine altR ?_ | (refine side ?_ ?_; first | omega | exact True.intro | ((try simp only [List.length_append, List.length_cons, List.length_nil, List.length_map, List.length_replicate, List.length_set, and_true, true_and]); omega) | assumption | (and_intros <;> first | omega | assumption) | decide) | (refine decT ?_ ?_; first | with_reducible assumption | with_reducible rfl | (refine not_not_intro ?_; with_reducible first | assumption | rfl) | omega | decide) | (refine decF ?_ ?_; first | with_reducible assumption | with_reducible rfl | (refine not_not_intro ?_; with_reducible first | assumption | rfl) | omega | decide) | (refine decBT ?_ ?_; with_reducible first | assumption | rfl | exact Bool.not_false) | (refine decBF ?_ ?_; with_reducible first | assumption | rfl | exact Bool.not_true) | refine ⟨_, by assumption, ?_⟩ | refine ⟨_, _, _, rfl, ?_⟩ | refine WC.seq (fun K hK => ?_) | (refine hK _ _ _ ?_; clear hK K) | (refine hK _ _ _ _ rfl ?_; clear hK K) | (refine WX.thenExit (K := K) ?_; clear hK K) | (refine WX.thenExit (K := KL) ?_; clear hL KL)))
      exact WX.end0 rfl (fun w sw => ⟨_, _, ⟨rfl, .inl rfl⟩, sw.to⟩)
end Go.Qd
