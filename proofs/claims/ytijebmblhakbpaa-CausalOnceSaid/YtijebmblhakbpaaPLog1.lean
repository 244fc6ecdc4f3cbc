/-
  Operations without content: those of the program, and the document's.
-/
import Derived.Test.YtijebmblhakbpaaPOps
import Derived.Test.YtijebmblhakbpaaPWith
import Derived.Test.YtijebmblhakbpaaQMap
namespace Go.Qd
/-! ### The log: its map, New, Len, Room. -/
section
open Go Go.Proofs
/-! ### Which keys a range has met. -/
section
variable {α β : Type} {f : α → Value} {g : β → Value} {M : List (α × β)} {es : Array MapEntry} {clock : Nat} {seen : Array Nat}
theorem mem_inj {α β : Type} {f : α → β} : ∀ {l : List α}, (l.map f).Nodup → ∀ a ∈ l, ∀ b ∈ l, f a = f b → a = b
  | [], _, a, ha, _, _, _ => by simp at ha
  | x :: l, h, a, ha, b, hb, e => by
    rw [List.map_cons, List.nodup_cons] at h
    rcases List.mem_cons.1 ha with e1 | ha
    · rcases List.mem_cons.1 hb with e2 | hb
      · rw [e1, e2]
      · exact absurd (show f x ∈ l.map f by rw [← e1, e]; exact List.mem_map_of_mem hb) h.1
    · rcases List.mem_cons.1 hb with e2 | hb
      · exact absurd (show f x ∈ l.map f by rw [← e2, ← e]; exact List.mem_map_of_mem ha) h.1
      · exact mem_inj h.2 a ha b hb e
theorem MapIs.keyList (h : MapIs f g M es clock) : es.toList.map (·.key) = (M.map (·.1)).map f := by
  have := congrArg (List.map Prod.fst) h.enc
  rw [List.map_map, List.map_map] at this
  rw [List.map_map]; exact this
theorem MapIs.entry (h : MapIs f g M es clock) {e : MapEntry} (he : e ∈ es.toList) : ∃ p ∈ M, e.key = f p.1 ∧ e.val = g p.2 := by
  have h1 : encE e ∈ M.map (encP f g) := h.enc ▸ List.mem_map_of_mem he
  obtain ⟨p, hp, hpe⟩ := List.mem_map.1 h1
  exact ⟨p, hp, (congrArg Prod.fst hpe).symm, (congrArg Prod.snd hpe).symm⟩
theorem left_le' : (leftOf es seen).size ≤ es.size := by
  unfold leftOf; exact Array.size_filter_le
structure TookK (f : α → Value) (keys : List α) (es : Array MapEntry) (seen : Array Nat) (ks : List α) : Prop where
  sub : ∀ k ∈ ks, k ∈ keys
  nd : ks.Nodup
  bor : ∀ e ∈ es.toList, e.born ∈ seen ↔ ∃ k ∈ ks, e.key = f k
theorem TookK.nil (keys : List α) : TookK f keys es #[] [] := ⟨by simp, by simp, by simp⟩
theorem TookK.new (inj : ∀ a b, f a = f b → a = b) {ks : List α} {keys : List α} (tk : TookK f keys es seen ks) {e : MapEntry} {k : α} (he : e ∈ (leftOf es seen).toList) (hk : e.key = f k) : k ∉ ks := fun hin => by
  obtain ⟨h1, h2⟩ := left_sub he
  have := (tk.bor e h1).2 ⟨k, hin, hk⟩
  rw [Array.contains_iff_mem.2 this] at h2
  cases h2
theorem TookK.next (h : MapIs f g M es clock) (inj : ∀ a b, f a = f b → a = b) (hM : (M.map (·.1)).Nodup) {ks : List α} (tk : TookK f (M.map (·.1)) es seen ks) {e : MapEntry} {k : α} (he : e ∈ (leftOf es seen).toList) (hk : e.key = f k) : TookK f (M.map (·.1)) es (seen.push e.born) (ks ++ [k]) := by
  have h1 := (left_sub he).1
  have hkn : (es.toList.map (·.key)).Nodup := by
    rw [h.keyList]
    exact List.pairwise_map.2 (List.Pairwise.imp (fun {a b} hab e => hab (inj a b e)) hM)
  obtain ⟨p, hp, hpk, _⟩ := h.entry h1
  have hpk2 : p.1 = k := inj _ _ (hpk.symm.trans hk)
  refine ⟨fun k' hk' => ?_, ?_, fun e' he' => ?_⟩
  · rcases List.mem_append.1 hk' with hk' | hk'
    · exact tk.sub k' hk'
    · rw [List.mem_singleton] at hk'; rw [hk', ← hpk2]; exact List.mem_map_of_mem hp
  · refine List.nodup_append.2 ⟨tk.nd, by simp, fun a ha b hb e1 => ?_⟩
    rw [List.mem_singleton] at hb
    subst hb; subst e1
    exact tk.new inj he hk ha
  · rw [Array.mem_push, tk.bor e' he']
    constructor
    · rintro (⟨k', hk', e1⟩ | hb)
      · exact ⟨k', List.mem_append_left _ hk', e1⟩
      · have := mem_inj h.born e' he' e h1 hb
        subst this
        exact ⟨k, by simp, hk⟩
    · rintro ⟨k', hk', e1⟩
      rcases List.mem_append.1 hk' with hk' | hk'
      · exact .inl ⟨k', hk', e1⟩
      · rw [List.mem_singleton] at hk'
        subst hk'
        have := mem_inj hkn e' he' e h1 (e1.trans hk.symm)
        exact .inr (by rw [this])
theorem TookK.done (h : MapIs f g M es clock) (inj : ∀ a b, f a = f b → a = b) (hM : (M.map (·.1)).Nodup) {ks : List α} (tk : TookK f (M.map (·.1)) es seen ks) (h0 : (leftOf es seen).size = 0) : ks.Perm (M.map (·.1)) := by
  refine (List.perm_ext_iff_of_nodup tk.nd hM).2 fun k => ⟨tk.sub k, fun hk => ?_⟩
  have h1 : f k ∈ es.toList.map (·.key) := h.keyList ▸ List.mem_map_of_mem hk
  obtain ⟨e, he, e1⟩ := List.mem_map.1 h1
  obtain ⟨k', hk', e2⟩ := (tk.bor e he).1 (left_none h0 e he)
  rw [inj k k' (e1.symm.trans e2)]; exact hk'
end
/-! ### The log's map. -/
abbrev kI (k : Int) : Value := .int .i64 k
theorem kI_inj (a b : Int) (h : kI a = kI b) : a = b := by injection h
instance mapKey_log : MapKey Try.prog 3 kI := mapKey_int (by kernel_rfl)
abbrev LgE := Int × (Value × List OpT)
abbrev pV (p : Value × List OpT) : Value := p.1
abbrev lgM (r : Nat) (M : List LgE) : Res := mapR kI pV r M
abbrev opO (v : Value) (l : List OpT) : Res := own 56 24 v l.length (opsC l)
abbrev lgE (e : LgE) : Res := opO e.2.1 e.2.2
def lgO (M : List LgE) : Res := pack (M.map lgE)
abbrev lgB (g : Nat) (most : Int) (cv : Value) (r : Nat) : Res := box g 118 [.int .i64 most, cv, .map (some r)]
theorem put_perm : ∀ (M : List LgE) (k : Int) (p : Value × List OpT), (putM M k p).Perm ((k, p) :: delM M k)
  | [], k, p => List.Perm.refl _
  | e :: M, k, p => by
    rw [putM, delM]
    by_cases h : e.1 = k
    · rw [if_pos h, if_pos h]
    · rw [if_neg h, if_neg h]
      exact ((put_perm M k p).cons e).trans (List.Perm.swap _ _ _)
theorem del_perm : ∀ {M : List LgE} {k : Int} {p : Value × List OpT}, getM M k = some p → M.Perm ((k, p) :: delM M k)
  | [], k, p, h => by cases h
  | e :: M, k, p, h => by
    rw [getM] at h
    rw [delM]
    by_cases h2 : e.1 = k
    · rw [if_pos h2] at h ⊢
      cases h
      rw [← h2]
    · rw [if_neg h2] at h ⊢
      exact ((del_perm h).cons e).trans (List.Perm.swap _ _ _)
theorem del_none : ∀ {M : List LgE} {k : Int}, getM M k = none → delM M k = M
  | [], k, _ => rfl
  | e :: M, k, h => by
    rw [getM] at h
    rw [delM]
    by_cases h2 : e.1 = k
    · rw [if_pos h2] at h; cases h
    · rw [if_neg h2] at h ⊢; rw [del_none h]
theorem Sat.lgPerm {B w : World} {G : List Pers} {S : List Res} {M M' : List LgE} (h : Sat B G (lgO M :: S) w) (p : M.Perm M') : Sat B G (lgO M' :: S) w :=
  Sat.pack (S := M'.map lgE) ((Sat.unpack (S := M.map lgE) h).perm ((p.map lgE).append_right S))
theorem Sat.lgTake {B w : World} {G : List Pers} {S : List Res} {M : List LgE} {k : Int} {p : Value × List OpT} (h : Sat B G (lgO M :: S) w) (hk : getM M k = some p) : Sat B G (opO p.1 p.2 :: lgO (delM M k) :: S) w :=
  (Sat.pack (S := (delM M k).map lgE) (T := opO p.1 p.2 :: S) ((Sat.unpack (S := ((k, p) :: delM M k).map lgE) (h.lgPerm (del_perm hk))).perm (List.perm_middle.symm : (lgE (k, p) :: ((delM M k).map lgE ++ S)).Perm ((delM M k).map lgE ++ lgE (k, p) :: S)))).perm (List.Perm.swap _ _ _)
theorem Sat.lgPut {B w : World} {G : List Pers} {S : List Res} {M : List LgE} {k : Int} {p : Value × List OpT} (h : Sat B G (opO p.1 p.2 :: lgO (delM M k) :: S) w) : Sat B G (lgO (putM M k p) :: S) w := by
  have h1 := Sat.unpack (S := (delM M k).map lgE) (h.perm (List.Perm.swap _ _ _))
  have h2 : Sat B G (lgO ((k, p) :: delM M k) :: S) w := Sat.pack (S := ((k, p) :: delM M k).map lgE) (h1.perm List.perm_middle)
  exact h2.lgPerm (put_perm M k p).symm
theorem put_same_key : ∀ {M : List LgE} {k : Int} {p : Value × List OpT}, getM M k = some p → putM M k p = M
  | [], k, p, h => by cases h
  | e :: M, k, p, h => by
    rw [getM] at h
    rw [putM]
    by_cases h2 : e.1 = k
    · rw [if_pos h2] at h ⊢
      cases h
      rw [← h2]
    · rw [if_neg h2] at h ⊢
      rw [put_same_key h]
theorem Sat.lgBack {B w : World} {G : List Pers} {S : List Res} {M : List LgE} {k : Int} {p : Value × List OpT} (h : Sat B G (opO p.1 p.2 :: lgO (delM M k) :: S) w) (hk : getM M k = some p) : Sat B G (lgO M :: S) w := by
  have := h.lgPut
  rwa [put_same_key hk] at this
theorem getM_in : ∀ {M : List LgE}, (M.map (·.1)).Nodup → ∀ e ∈ M, getM M e.1 = some e.2
  | [], _, e, he => by simp at he
  | x :: M, h, e, he => by
    obtain ⟨h1, h2⟩ := List.nodup_cons.1 h
    rw [getM]
    rcases List.mem_cons.1 he with rfl | he
    · rw [if_pos rfl]
    · rw [if_neg fun e1 => h1 (by show x.1 ∈ _; rw [e1]; exact List.mem_map_of_mem he)]
      exact getM_in h2 e he
def lenK (M : List LgE) (k : Int) : Nat := match getM M k with | some p => p.2.length | none => 0
def sizeM (M : List LgE) : Nat := ((M.map (·.1)).map (lenK M)).sum
theorem sum_le {α : Type} {h : α → Nat} {b : Nat} : ∀ {l : List α}, (∀ a ∈ l, h a ≤ b) → (l.map h).sum ≤ l.length * b
  | [], _ => by simp
  | a :: l, hl => by
    have h1 := hl a (.head _)
    have h2 := sum_le (h := h) (b := b) (l := l) fun x hx => hl x (.tail _ hx)
    simp only [List.map_cons, List.sum_cons, List.length_cons, Nat.succ_mul]; omega
theorem lgnew_fun (n : Int) : Fun Try.prog 8 [.int .i64 n] [] [] (fun z G S => ∃ g r, z = .pointer (some ⟨g, 0, none⟩) ∧ G = [] ∧ S = [lgB g (min (max n 0) 1000) (.slice none 0 0) r, lgM r [], lgO []]) := by
  refine Fun.enter Try.func8 (by kernel_rfl) rfl Try.ntmps8 rfl (fun B Gf Sf => ?_); (try simp only [List.cons_append]); (try simp only [List.nil_append]); simp only [argEnv]
  (repeat (first | refine vgo ?_ | refine ⟨_, rfl, rfl, ?_⟩ | refine ⟨_, rfl, ?_⟩ | refine ⟨rfl, ?_⟩ | intro hb | refine altA ?_ | refine altR ?_ | refine sideA ?_ | refine decTA ?_ | refine decFA ?_ | refine decNA ?_ | refine decBTA ?_ | refine decBFA ?_ | refine ⟨_, by assumption, ?_⟩ | refine ⟨_, _, _, rfl, ?_⟩ | refine WC.seq (fun K hK => ?_) | (refine hK _ _ _ ?_; clear hK K) | (refine hK _ _ _ _ rfl ?_; clear hK K) | (refine WX.thenExit (K := K) ?_; clear hK K) | (refine WX.thenExit (K := KL) ?_; clear hL KL)))
  refine WL.makeMap kI pV rfl (fun r => ?_)
  (repeat (first | refine vgo ?_ | refine ⟨_, rfl, rfl, ?_⟩ | refine ⟨_, rfl, ?_⟩ | refine ⟨rfl, ?_⟩ | intro hb | refine altA ?_ | refine altR ?_ | refine sideA ?_ | refine decTA ?_ | refine decFA ?_ | refine decNA ?_ | refine decBTA ?_ | refine decBFA ?_ | refine ⟨_, by assumption, ?_⟩ | refine ⟨_, _, _, rfl, ?_⟩ | refine WC.seq (fun K hK => ?_) | (refine hK _ _ _ ?_; clear hK K) | (refine hK _ _ _ _ rfl ?_; clear hK K) | (refine WX.thenExit (K := K) ?_; clear hK K) | (refine WX.thenExit (K := KL) ?_; clear hL KL)))
  (first | refine WL.boxA rfl rfl ?_ | refine WL.box rfl rfl rfl ?_); intro g
  (repeat (first | refine vgo ?_ | refine ⟨_, rfl, rfl, ?_⟩ | refine ⟨_, rfl, ?_⟩ | refine ⟨rfl, ?_⟩ | intro hb | refine altA ?_ | refine altR ?_ | refine sideA ?_ | refine decTA ?_ | refine decFA ?_ | refine decNA ?_ | refine decBTA ?_ | refine decBFA ?_ | refine ⟨_, by assumption, ?_⟩ | refine ⟨_, _, _, rfl, ?_⟩ | refine WC.seq (fun K hK => ?_) | (refine hK _ _ _ ?_; clear hK K) | (refine hK _ _ _ _ rfl ?_; clear hK K) | (refine WX.thenExit (K := K) ?_; clear hK K) | (refine WX.thenExit (K := KL) ?_; clear hL KL)))
  exact WX.ret1 rfl rfl (fun w sw => ⟨[], _, ⟨g, r, rfl, rfl, rfl⟩, (show Sat B Gf (lgO [] :: box g 118 [.int .i64 (min (max n 0) 1000), .slice none 0 0, .map (some r)] :: lgM r [] :: Sf) w from Sat.pack (S := []) sw).to⟩)
set_option maxHeartbeats 3200000 in
set_option synthInstance.maxSize 2000 in
set_option synthInstance.maxHeartbeats 400000 in
theorem lglen_fun (g r : Nat) (most : Int) (cv : Value) (M : List LgE) (hM : (M.map (·.1)).Nodup) (hl : M.length ≤ 64) (hle : ∀ k, lenK M k ≤ 1000) : Fun Try.prog 10 [.pointer (some ⟨g, 0, none⟩)] [] [lgB g most cv r, lgM r M, lgO M] (fun z G S => z = .int .i64 (sizeM M : Nat) ∧ G = [] ∧ S = [lgB g most cv r, lgM r M, lgO M]) := by
  refine Fun.enter Try.func10 (by kernel_rfl) rfl Try.ntmps10 rfl (fun B Gf Sf => ?_); (try simp only [List.cons_append]); (try simp only [List.nil_append]); simp only [argEnv]
  (repeat (first | refine vgo ?_ | refine ⟨_, rfl, rfl, ?_⟩ | refine ⟨_, rfl, ?_⟩ | refine ⟨rfl, ?_⟩ | intro hb | refine altA ?_ | refine altR ?_ | refine sideA ?_ | refine decTA ?_ | refine decFA ?_ | refine decNA ?_ | refine decBTA ?_ | refine decBFA ?_ | refine ⟨_, by assumption, ?_⟩ | refine ⟨_, _, _, rfl, ?_⟩ | refine WC.seq (fun K hK => ?_) | (refine hK _ _ _ ?_; clear hK K) | (refine hK _ _ _ _ rfl ?_; clear hK K) | (refine WX.thenExit (K := K) ?_; clear hK K) | (refine WX.thenExit (K := KL) ?_; clear hL KL)))
  refine WL.openMap r (fun es clock hes => ?_)
  refine WL.rangeM (es := es) (clock := clock) rfl SelC.h rfl (fun it => ?_)
  (repeat (first | refine vgo ?_ | refine ⟨_, rfl, rfl, ?_⟩ | refine ⟨_, rfl, ?_⟩ | refine ⟨rfl, ?_⟩ | intro hb | refine altA ?_ | refine altR ?_ | refine sideA ?_ | refine decTA ?_ | refine decFA ?_ | refine decNA ?_ | refine decBTA ?_ | refine decBFA ?_ | refine ⟨_, by assumption, ?_⟩ | refine ⟨_, _, _, rfl, ?_⟩ | refine WC.seq (fun K hK => ?_) | (refine hK _ _ _ ?_; clear hK K) | (refine hK _ _ _ _ rfl ?_; clear hK K) | (refine WX.thenExit (K := K) ?_; clear hK K) | (refine WX.thenExit (K := KL) ?_; clear hL KL)))
  have hlen := hes.len
  refine WC.loop (I := Array Nat × List Int) (fun i => [(0, .pointer (some ⟨g, 0, none⟩)), (3, .int .i64 (((i.2.map (lenK M)).sum : Nat) : Int)), (12, .pointer (some ⟨it, 0, none⟩))]) (fun _ => Gf) (fun i => itR it r clock i.1 :: mapC r es clock :: lgB g most cv r :: lgO M :: Sf) (fun i => TookK kI (M.map (·.1)) es i.1 i.2 ∧ i.2.length + (leftOf es i.1).size ≤ es.size) (fun i => (leftOf es i.1).size) (#[], []) ⟨TookK.nil _, by have := left_le' (seen := #[]) (es := es); simpa using this⟩ (.cons rfl (.cons rfl (.cons rfl .nil))) (fun w h => h.to) ?_
  rintro ⟨seen, ks⟩ ⟨tk, hks⟩ KL hL
  dsimp only at tk hks ⊢
  have hsum := sum_le (h := lenK M) (b := 1000) (l := ks) (fun k _ => hle k)
  (repeat (first | refine vgo ?_ | refine ⟨_, rfl, rfl, ?_⟩ | refine ⟨_, rfl, ?_⟩ | refine ⟨rfl, ?_⟩ | intro hb | refine altA ?_ | refine altR ?_ | refine sideA ?_ | refine decTA ?_ | refine decFA ?_ | refine decNA ?_ | refine decBTA ?_ | refine decBFA ?_ | refine ⟨_, by assumption, ?_⟩ | refine ⟨_, _, _, rfl, ?_⟩ | refine WC.seq (fun K hK => ?_) | (refine hK _ _ _ ?_; clear hK K) | (refine hK _ _ _ _ rfl ?_; clear hK K) | (refine WX.thenExit (K := K) ?_; clear hK K) | (refine WX.thenExit (K := KL) ?_; clear hL KL)))
  refine WL.nextM (it := it) (r := r) (clock := clock) (es := es) (seen := seen) rfl SelC.h SelC.h hes.old rfl (fun h0 => ?_) (fun e he => ?_)
  rotate_left
  · obtain ⟨⟨k, v, l⟩, hp, hk, hv⟩ := hes.entry (left_sub he).1
    have hlt := left_lt he
    have hg := getM_in hM _ hp
    dsimp only at hk hv hg
    have hlk : lenK M k = l.length := by unfold lenK; rw [hg]
    have hlk2 := hle k
    have hlt2 := hlt
    (repeat (first | refine vgo ?_ | refine ⟨_, rfl, rfl, ?_⟩ | refine ⟨_, rfl, ?_⟩ | refine ⟨rfl, ?_⟩ | intro hb | refine altA ?_ | refine altR ?_ | refine sideA ?_ | refine decTA ?_ | refine decFA ?_ | refine decNA ?_ | refine decBTA ?_ | refine decBFA ?_ | refine ⟨_, by assumption, ?_⟩ | refine ⟨_, _, _, rfl, ?_⟩ | refine WC.seq (fun K hK => ?_) | (refine hK _ _ _ ?_; clear hK K) | (refine hK _ _ _ _ rfl ?_; clear hK K) | (refine WX.thenExit (K := K) ?_; clear hK K) | (refine WX.thenExit (K := KL) ?_; clear hL KL)))
    refine WL.entryM (it := it) (r := r) (clock := clock) (es := es) (seen := seen) (e := e) rfl SelC.h SelC.h (left_sub he).1 hes.born rfl ?_
    rw [hk, hv]
    refine WL.sat (S' := opO v l :: lgO (delM M k) :: itR it r clock (seen.push e.born) :: mapC r es clock :: lgB g most cv r :: Sf) (fun w sw => (show Sat B Gf (lgO M :: itR it r clock (seen.push e.born) :: mapC r es clock :: lgB g most cv r :: Sf) w from sw.to).lgTake hg) ?_
    (repeat (first | refine vgo ?_ | refine ⟨_, rfl, rfl, ?_⟩ | refine ⟨_, rfl, ?_⟩ | refine ⟨rfl, ?_⟩ | intro hb | refine altA ?_ | refine altR ?_ | refine sideA ?_ | refine decTA ?_ | refine decFA ?_ | refine decNA ?_ | refine decBTA ?_ | refine decBFA ?_ | refine ⟨_, by assumption, ?_⟩ | refine ⟨_, _, _, rfl, ?_⟩ | refine WC.seq (fun K hK => ?_) | (refine hK _ _ _ ?_; clear hK K) | (refine hK _ _ _ _ rfl ?_; clear hK K) | (refine WX.thenExit (K := K) ?_; clear hK K) | (refine WX.thenExit (K := KL) ?_; clear hL KL)))
    refine (hL (seen.push e.born, ks ++ [k]) ⟨tk.next hes kI_inj hM he hk, by dsimp only; rw [List.length_append, List.length_singleton]; omega⟩ hlt).conv (.cons rfl (.cons (by simp only [Env.get]; exact congrArg (fun z : Int => some (Value.int .i64 z)) (by rw [List.map_append, List.sum_append]; simp only [List.map_cons, List.map_nil, List.sum_cons, List.sum_nil, hlk]; omega)) (.cons rfl .nil))) (fun w h => ?_)
    exact ((show Sat B Gf (opO v l :: lgO (delM M k) :: itR it r clock (seen.push e.born) :: mapC r es clock :: lgB g most cv r :: Sf) w from h).lgBack (p := (v, l)) hg).to
  · have hd := (tk.done hes kI_inj hM h0)
    have hsz : (ks.map (lenK M)).sum = sizeM M := (hd.map (lenK M)).sum_nat
    (repeat (first | refine vgo ?_ | refine ⟨_, rfl, rfl, ?_⟩ | refine ⟨_, rfl, ?_⟩ | refine ⟨rfl, ?_⟩ | intro hb | refine altA ?_ | refine altR ?_ | refine sideA ?_ | refine decTA ?_ | refine decFA ?_ | refine decNA ?_ | refine decBTA ?_ | refine decBFA ?_ | refine ⟨_, by assumption, ?_⟩ | refine ⟨_, _, _, rfl, ?_⟩ | refine WC.seq (fun K hK => ?_) | (refine hK _ _ _ ?_; clear hK K) | (refine hK _ _ _ _ rfl ?_; clear hK K) | (refine WX.thenExit (K := K) ?_; clear hK K) | (refine WX.thenExit (K := KL) ?_; clear hL KL)))
    refine WX.ret1 rfl rfl (fun w sw => ⟨[], _, ⟨by rw [hsz], rfl, rfl⟩, ?_⟩)
    exact ((show Sat B Gf (mapC r es clock :: lgB g most cv r :: lgO M :: Sf) w from sw.to).mapShut hes).to
theorem lgroom_fun (g r : Nat) (most : Int) (cv : Value) (M : List LgE) (hm : 0 ≤ most ∧ most ≤ 1000) (hM : (M.map (·.1)).Nodup) (hl : M.length ≤ 64) (hle : ∀ k, lenK M k ≤ 1000) (hs : sizeM M ≤ 100000) : Fun Try.prog 12 [.pointer (some ⟨g, 0, none⟩)] [] [lgB g most cv r, lgM r M, lgO M] (fun z G S => z = .int .i64 (most - (sizeM M : Nat)) ∧ G = [] ∧ S = [lgB g most cv r, lgM r M, lgO M]) := by
  obtain ⟨hm1, hm2⟩ := hm
  refine Fun.enter Try.func12 (by kernel_rfl) rfl Try.ntmps12 rfl (fun B Gf Sf => ?_); (try simp only [List.cons_append]); (try simp only [List.nil_append]); simp only [argEnv]
  (repeat (first | refine vgo ?_ | refine ⟨_, rfl, rfl, ?_⟩ | refine ⟨_, rfl, ?_⟩ | refine ⟨rfl, ?_⟩ | intro hb | refine altA ?_ | refine altR ?_ | refine sideA ?_ | refine decTA ?_ | refine decFA ?_ | refine decNA ?_ | refine decBTA ?_ | refine decBFA ?_ | refine ⟨_, by assumption, ?_⟩ | refine ⟨_, _, _, rfl, ?_⟩ | refine WC.seq (fun K hK => ?_) | (refine hK _ _ _ ?_; clear hK K) | (refine hK _ _ _ _ rfl ?_; clear hK K) | (refine WX.thenExit (K := K) ?_; clear hK K) | (refine WX.thenExit (K := KL) ?_; clear hL KL)))
  (apply WC.drawE; exact rfl; focus (repeat (first | exact Wo.nil | (apply Wo.keep; exact rfl) | (apply Wo.drop; exact rfl)))); (repeat refine ObP3.c0A ?_); try (refine ObP3.nil ?_; (repeat (intro _)); (conv => whnf); (try dsimp only [envO, List.cons_append, List.nil_append]))
  refine ObP3.cons1 [] [] (.is (.int .i64 (sizeM M : Nat))) ?_ rfl ?_
  · (repeat (intro _)); (conv => whnf); (try dsimp only [envO, List.cons_append, List.nil_append])
    (repeat (first | refine vgo ?_ | refine ⟨_, rfl, rfl, ?_⟩ | refine ⟨_, rfl, ?_⟩ | refine ⟨rfl, ?_⟩ | intro hb | refine altA ?_ | refine altR ?_ | refine sideA ?_ | refine decTA ?_ | refine decFA ?_ | refine decNA ?_ | refine decBTA ?_ | refine decBFA ?_ | refine ⟨_, by assumption, ?_⟩ | refine ⟨_, _, _, rfl, ?_⟩ | refine WC.seq (fun K hK => ?_) | (refine hK _ _ _ ?_; clear hK K) | (refine hK _ _ _ _ rfl ?_; clear hK K) | (refine WX.thenExit (K := K) ?_; clear hK K) | (refine WX.thenExit (K := KL) ?_; clear hL KL)))
    refine CallV.by' (lglen_fun g r most cv M hM hl hle) ?_; rintro _ _ _ ⟨rfl, rfl, rfl⟩; (try simp only [List.cons_append]); (try simp only [List.nil_append])
    (repeat (first | refine vgo ?_ | refine ⟨_, rfl, rfl, ?_⟩ | refine ⟨_, rfl, ?_⟩ | refine ⟨rfl, ?_⟩ | intro hb | refine altA ?_ | refine altR ?_ | refine sideA ?_ | refine decTA ?_ | refine decFA ?_ | refine decNA ?_ | refine decBTA ?_ | refine decBFA ?_ | refine ⟨_, by assumption, ?_⟩ | refine ⟨_, _, _, rfl, ?_⟩ | refine WC.seq (fun K hK => ?_) | (refine hK _ _ _ ?_; clear hK K) | (refine hK _ _ _ _ rfl ?_; clear hK K) | (refine WX.thenExit (K := K) ?_; clear hK K) | (refine WX.thenExit (K := KL) ?_; clear hL KL)))
    first | exact WX.pgIs rfl | exact WX.pgRd rfl | exact WX.pgCell rfl | exact WX.pgNone | exact WX.pgOwn rfl
  (repeat refine ObP3.c0B ?_); try (refine ObP3.nil ?_; (repeat (intro _)); (conv => whnf); (try dsimp only [envO, List.cons_append, List.nil_append]))
  (repeat (first | refine vgo ?_ | refine ⟨_, rfl, rfl, ?_⟩ | refine ⟨_, rfl, ?_⟩ | refine ⟨rfl, ?_⟩ | intro hb | refine altA ?_ | refine altR ?_ | refine sideA ?_ | refine decTA ?_ | refine decFA ?_ | refine decNA ?_ | refine decBTA ?_ | refine decBFA ?_ | refine ⟨_, by assumption, ?_⟩ | refine ⟨_, _, _, rfl, ?_⟩ | refine WC.seq (fun K hK => ?_) | (refine hK _ _ _ ?_; clear hK K) | (refine hK _ _ _ _ rfl ?_; clear hK K) | (refine WX.thenExit (K := K) ?_; clear hK K) | (refine WX.thenExit (K := KL) ?_; clear hL KL)))
  exact WX.ret1 rfl rfl (fun w sw => ⟨[], _, ⟨rfl, rfl, rfl⟩, sw.to⟩)
theorem getCT (f : List Nat) (o : Int) : getC (trimL f) o = getC f o := by
  unfold getC; rw [trimL_getD]
theorem withL_len (c : List Nat) (r : Int) (x : Nat) (h : c.length ≤ 64) (h64 : r ≤ 64) : (withL c r x).length ≤ 64 := by
  unfold withL; rw [List.length_set, List.length_append, List.length_replicate]; omega
theorem withL_get (c : List Nat) (r : Int) (x : Nat) (h1 : 1 ≤ r) (k : Int) : getC (withL c r x) k = if k = r then x else getC c k := by
  unfold getC withL
  by_cases hk : k < 1
  · rw [if_pos hk, if_neg (by omega), if_pos hk]
  · rw [if_neg hk, if_neg hk, List.getD_eq_getElem?_getD, List.getElem?_set]
    by_cases e : k = r
    · subst e
      rw [if_pos rfl, if_pos rfl, if_pos (by rw [List.length_append, List.length_replicate]; omega)]; rfl
    · rw [if_neg (by omega), if_neg e, List.getD_eq_getElem?_getD]
      by_cases hl : (k - 1).toNat < c.length
      · rw [List.getElem?_append_left hl]
      · rw [List.getElem?_append_right (by omega), List.getElem?_replicate, List.getElem?_eq_none (by omega : c.length ≤ _)]
        split <;> rfl
def knP (cut : List Nat) (M : List LgE) (K : List Nat) : Prop := K.length ≤ 64 ∧ ∀ k, getC K k = getC cut k + lenK M k
theorem lenK_none {M : List LgE} {k : Int} (h : k ∉ M.map (·.1)) : lenK M k = 0 := by
  unfold lenK
  cases e : getM M k with
  | none => rfl
  | some p =>
    exfalso
    have : ∀ {M : List LgE}, getM M k = some p → k ∈ M.map (·.1) := fun {M} => by
      induction M with
      | nil => intro h; cases h
      | cons x M ih =>
        intro h
        rw [getM] at h
        by_cases e2 : x.1 = k
        · rw [← e2]; exact .head _
        · rw [if_neg e2] at h; exact .tail _ (ih h)
    exact h (this e)
set_option maxHeartbeats 3200000 in
set_option synthInstance.maxSize 2000 in
set_option synthInstance.maxHeartbeats 400000 in
theorem lgknown_fun (g r : Nat) (most : Int) (cut : List Nat) (cv : Value) (M : List LgE) (hM : (M.map (·.1)).Nodup) (hk64 : ∀ k ∈ M.map (·.1), 1 ≤ k ∧ k ≤ 64) (hle : ∀ k, lenK M k ≤ 1000) (hcl : cut.length ≤ 64) (hc : ∀ k, getC cut k ≤ 1000) :
    Fun Try.prog 14 [.pointer (some ⟨g, 0, none⟩)] [rd (Ty.sl Ty.u64) cut cv] [lgB g most cv r, lgM r M, lgO M] (fun z G S => ∃ K, G = [rd (Ty.sl Ty.u64) K z] ∧ S = [lgB g most cv r, lgM r M, lgO M] ∧ knP cut M K) := by
  refine Fun.enter Try.func14 (by kernel_rfl) rfl Try.ntmps14 rfl (fun B Gf Sf => ?_); (try simp only [List.cons_append]); (try simp only [List.nil_append]); simp only [argEnv]
  refine WC.ex (fun w sw => sw.slOne (v := cv) (R := Ty.u64) (l := cut) (.head _)) (fun hcv => ?_)
  (repeat (first | refine vgo ?_ | refine ⟨_, rfl, rfl, ?_⟩ | refine ⟨_, rfl, ?_⟩ | refine ⟨rfl, ?_⟩ | intro hb | refine altA ?_ | refine altR ?_ | refine sideA ?_ | refine decTA ?_ | refine decFA ?_ | refine decNA ?_ | refine decBTA ?_ | refine decBFA ?_ | refine ⟨_, by assumption, ?_⟩ | refine ⟨_, _, _, rfl, ?_⟩ | refine WC.seq (fun K hK => ?_) | (refine hK _ _ _ ?_; clear hK K) | (refine hK _ _ _ _ rfl ?_; clear hK K) | (refine WX.thenExit (K := K) ?_; clear hK K) | (refine WX.thenExit (K := KL) ?_; clear hL KL)))
  refine WL.openMap r (fun es clock hes => ?_)
  refine WL.rangeM (es := es) (clock := clock) rfl SelC.h rfl (fun it => ?_)
  (repeat (first | refine vgo ?_ | refine ⟨_, rfl, rfl, ?_⟩ | refine ⟨_, rfl, ?_⟩ | refine ⟨rfl, ?_⟩ | intro hb | refine altA ?_ | refine altR ?_ | refine sideA ?_ | refine decTA ?_ | refine decFA ?_ | refine decNA ?_ | refine decBTA ?_ | refine decBFA ?_ | refine ⟨_, by assumption, ?_⟩ | refine ⟨_, _, _, rfl, ?_⟩ | refine WC.seq (fun K hK => ?_) | (refine hK _ _ _ ?_; clear hK K) | (refine hK _ _ _ _ rfl ?_; clear hK K) | (refine WX.thenExit (K := K) ?_; clear hK K) | (refine WX.thenExit (K := KL) ?_; clear hL KL)))
  refine WC.loop (I := Array Nat × List Int × List Nat × Value) (fun i => [(0, .pointer (some ⟨g, 0, none⟩)), (3, i.2.2.2), (16, .pointer (some ⟨it, 0, none⟩))]) (fun i => rd (Ty.sl Ty.u64) i.2.2.1 i.2.2.2 :: rd (Ty.sl Ty.u64) cut cv :: rd (Ty.sl Ty.u64) [] (.slice none 0 0) :: Gf) (fun i => itR it r clock i.1 :: mapC r es clock :: lgB g most cv r :: lgO M :: Sf) (fun i => TookK kI (M.map (·.1)) es i.1 i.2.1 ∧ i.2.2.1.length ≤ 64 ∧ ∀ k, getC i.2.2.1 k = getC cut k + if k ∈ i.2.1 then lenK M k else 0) (fun i => (leftOf es i.1).size) (#[], [], cut, cv) ⟨TookK.nil _, hcl, fun k => by simp⟩ (.cons rfl (.cons rfl (.cons rfl .nil))) (fun w h => (h.rdNil Ty.u64).to) ?_
  rintro ⟨seen, ks, c, v⟩ ⟨tk, hcl2, hcg⟩ KL hL
  dsimp only at tk hcl2 hcg ⊢
  (repeat (first | refine vgo ?_ | refine ⟨_, rfl, rfl, ?_⟩ | refine ⟨_, rfl, ?_⟩ | refine ⟨rfl, ?_⟩ | intro hb | refine altA ?_ | refine altR ?_ | refine sideA ?_ | refine decTA ?_ | refine decFA ?_ | refine decNA ?_ | refine decBTA ?_ | refine decBFA ?_ | refine ⟨_, by assumption, ?_⟩ | refine ⟨_, _, _, rfl, ?_⟩ | refine WC.seq (fun K hK => ?_) | (refine hK _ _ _ ?_; clear hK K) | (refine hK _ _ _ _ rfl ?_; clear hK K) | (refine WX.thenExit (K := K) ?_; clear hK K) | (refine WX.thenExit (K := KL) ?_; clear hL KL)))
  refine WL.nextM (it := it) (r := r) (clock := clock) (es := es) (seen := seen) rfl SelC.h SelC.h hes.old rfl (fun h0 => ?_) (fun e he => ?_)
  rotate_left
  · obtain ⟨⟨k, u, l⟩, hp, hk, hv⟩ := hes.entry (left_sub he).1
    have hlt := left_lt he
    have hg := getM_in hM _ hp
    dsimp only at hk hv hg
    have hlk : lenK M k = l.length := by unfold lenK; rw [hg]
    have hlk2 := hle k
    have hck := hc k
    obtain ⟨hk1, hk2⟩ := hk64 k (List.mem_map.2 ⟨_, hp, rfl⟩)
    have hnew := tk.new kI_inj he hk
    (repeat (first | refine vgo ?_ | refine ⟨_, rfl, rfl, ?_⟩ | refine ⟨_, rfl, ?_⟩ | refine ⟨rfl, ?_⟩ | intro hb | refine altA ?_ | refine altR ?_ | refine sideA ?_ | refine decTA ?_ | refine decFA ?_ | refine decNA ?_ | refine decBTA ?_ | refine decBFA ?_ | refine ⟨_, by assumption, ?_⟩ | refine ⟨_, _, _, rfl, ?_⟩ | refine WC.seq (fun K hK => ?_) | (refine hK _ _ _ ?_; clear hK K) | (refine hK _ _ _ _ rfl ?_; clear hK K) | (refine WX.thenExit (K := K) ?_; clear hK K) | (refine WX.thenExit (K := KL) ?_; clear hL KL)))
    refine WL.entryM (it := it) (r := r) (clock := clock) (es := es) (seen := seen) (e := e) rfl SelC.h SelC.h (left_sub he).1 hes.born rfl ?_
    rw [hk, hv]
    refine WL.sat (S' := opO u l :: lgO (delM M k) :: itR it r clock (seen.push e.born) :: mapC r es clock :: lgB g most cv r :: Sf) (fun w sw => (show Sat B (rd (Ty.sl Ty.u64) c v :: rd (Ty.sl Ty.u64) cut cv :: rd (Ty.sl Ty.u64) [] (.slice none 0 0) :: Gf) (lgO M :: itR it r clock (seen.push e.born) :: mapC r es clock :: lgB g most cv r :: Sf) w from sw.to).lgTake hg) ?_
    have hw : IntKind.u64.wrap ((l.length : Nat) : Int) = ((l.length : Nat) : Int) := by rw [wrap_u64]; omega
    (repeat (first | refine vgo ?_ | refine ⟨_, rfl, rfl, ?_⟩ | refine ⟨_, rfl, ?_⟩ | refine ⟨rfl, ?_⟩ | intro hb | refine altA ?_ | refine altR ?_ | refine sideA ?_ | refine decTA ?_ | refine decFA ?_ | refine decNA ?_ | refine decBTA ?_ | refine decBFA ?_ | refine ⟨_, by assumption, ?_⟩ | refine ⟨_, _, _, rfl, ?_⟩ | refine WC.seq (fun K hK => ?_) | (refine hK _ _ _ ?_; clear hK K) | (refine hK _ _ _ _ rfl ?_; clear hK K) | (refine WX.thenExit (K := K) ?_; clear hK K) | (refine WX.thenExit (K := KL) ?_; clear hL KL)))
    rw [← Int.natCast_add]
    refine CallV.by' (with_fun c v k (getC cut k + l.length) hk1 hk2 (by omega) (by omega)) ?_; rintro _ _ _ ⟨rfl, rfl⟩; (try simp only [List.cons_append]); (try simp only [List.nil_append])
    rename_i v2
    (repeat (first | refine vgo ?_ | refine ⟨_, rfl, rfl, ?_⟩ | refine ⟨_, rfl, ?_⟩ | refine ⟨rfl, ?_⟩ | intro hb | refine altA ?_ | refine altR ?_ | refine sideA ?_ | refine decTA ?_ | refine decFA ?_ | refine decNA ?_ | refine decBTA ?_ | refine decBFA ?_ | refine ⟨_, by assumption, ?_⟩ | refine ⟨_, _, _, rfl, ?_⟩ | refine WC.seq (fun K hK => ?_) | (refine hK _ _ _ ?_; clear hK K) | (refine hK _ _ _ _ rfl ?_; clear hK K) | (refine WX.thenExit (K := K) ?_; clear hK K) | (refine WX.thenExit (K := KL) ?_; clear hL KL)))
    have hwl := withL_len c k (getC cut k + l.length) hcl2 hk2
    have htl := trimL_length (withL c k (getC cut k + l.length))
    refine (hL (seen.push e.born, ks ++ [k], trimL (withL c k (getC cut k + l.length)), v2) ⟨tk.next hes kI_inj hM he hk, by dsimp only; omega, fun k' => ?_⟩ hlt).conv (.cons rfl (.cons rfl (.cons rfl .nil))) (fun w h => ?_)
    · dsimp only
      rw [getCT, withL_get _ _ _ hk1]
      by_cases e1 : k' = k
      · subst e1; rw [if_pos rfl, if_pos (by simp), hlk]
      · rw [if_neg e1, hcg k']
        by_cases h2 : k' ∈ ks
        · rw [if_pos h2, if_pos (List.mem_append_left _ h2)]
        · rw [if_neg h2, if_neg (by simp [h2, e1])]
    · exact ((show Sat B (rd (Ty.sl Ty.u64) (trimL (withL c k (getC cut k + l.length))) v2 :: rd (Ty.sl Ty.u64) cut cv :: rd (Ty.sl Ty.u64) [] (.slice none 0 0) :: Gf) (opO u l :: lgO (delM M k) :: itR it r clock (seen.push e.born) :: mapC r es clock :: lgB g most cv r :: Sf) w from h.to).lgBack (p := (u, l)) hg).to
  · have hd := (tk.done hes kI_inj hM h0)
    (repeat (first | refine vgo ?_ | refine ⟨_, rfl, rfl, ?_⟩ | refine ⟨_, rfl, ?_⟩ | refine ⟨rfl, ?_⟩ | intro hb | refine altA ?_ | refine altR ?_ | refine sideA ?_ | refine decTA ?_ | refine decFA ?_ | refine decNA ?_ | refine decBTA ?_ | refine decBFA ?_ | refine ⟨_, by assumption, ?_⟩ | refine ⟨_, _, _, rfl, ?_⟩ | refine WC.seq (fun K hK => ?_) | (refine hK _ _ _ ?_; clear hK K) | (refine hK _ _ _ _ rfl ?_; clear hK K) | (refine WX.thenExit (K := K) ?_; clear hK K) | (refine WX.thenExit (K := KL) ?_; clear hL KL)))
    have hj := joinL_length maxN c []
    have htl := trimL_length (joinL maxN c [])
    have hkn : knP cut M (trimL (joinL maxN c [])) := by
      refine ⟨by simp only [List.length_nil] at hj; omega, fun k => ?_⟩
      have e1 : getC (trimL (joinL maxN c [])) k = getC c k := by
        rw [getCT]
        unfold getC
        by_cases h1 : k < 1
        · rw [if_pos h1, if_pos h1]
        · rw [if_neg h1, if_neg h1, joinL_getD rfl]
          simp [maxN]
      rw [e1, hcg]
      by_cases h2 : k ∈ ks
      · rw [if_pos h2]
      · rw [if_neg h2, lenK_none fun h3 => h2 (hd.mem_iff.2 h3)]
    refine WX.ret1 rfl rfl (fun w sw => ⟨[rd (Ty.sl Ty.u64) (trimL (joinL maxN c [])) hb], _, ⟨_, rfl, rfl, hkn⟩, ?_⟩)
    exact ((show Sat B (rd (Ty.sl Ty.u64) (trimL (joinL maxN c [])) hb :: rd (Ty.sl Ty.u64) cut cv :: Gf) (mapC r es clock :: lgB g most cv r :: lgO M :: Sf) w from sw.to).mapShut hes).to
end
end Go.Qd
