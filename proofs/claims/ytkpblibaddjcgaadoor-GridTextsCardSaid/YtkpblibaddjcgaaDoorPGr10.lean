/-
  Texts of a window: the document's function.
-/
import Derived.Test.YtkpblibaddjcgaaDoorPGr9
namespace Go.Qd
open Go Go.Proofs
def lineM (R : List RowL) (l : RowL) : List UInt8 := lineF (wideM R) 0 l ++ [10]
/-- The header behind so many columns. -/
def headM' (col n : Nat) : RowL := [] :: (List.range n).map (fun k => colB ((col + k : Nat) : Int))
def rowsTo (col row : Nat) (cells : List RowL) (i : Nat) : List RowL := headM col cells :: rowsF row 0 (cells.take i)
theorem flat_sV : ∀ r : RowL, flat (r.map sV) = r.map sV := flat_map_one (fun _ => rfl)
theorem Sat.pubRow {B w : World} {G : List Pers} {S : List Res} {l : RowL} {v : Value} {E m : Nat} (h : Sat B G (own E 1 v m (l.map sV) :: S) w) (hm : m = l.length) (hok : ∀ s ∈ l, s.length ≤ 3000) : Sat B (Qd.rd (Ty.sl Ty.str) l v :: G) S w :=
  h.pub (R := Ty.str) (l := l) (v := v) SelOwn.h rfl (flat_sV l).symm hm (fun s hs => Nat.le_trans (hok s hs) (by decide))
theorem rowM_snoc (row i : Nat) (l : RowL) (s : List UInt8) : rowM row i (l ++ [s]) = rowM row i l ++ [cellM s] := by simp [rowM]
theorem headM'_succ (col n : Nat) : headM' col (n + 1) = headM' col n ++ [colB ((col + n : Nat) : Int)] := by simp [headM', List.range_succ]
theorem headM'_len (col n : Nat) : (headM' col n).length = n + 1 := by simp [headM']
theorem rowM_len (row i : Nat) (l : RowL) : (rowM row i l).length = l.length + 1 := by simp [rowM]
theorem headM'_ok (col n : Nat) : ∀ s ∈ headM' col n, s.length ≤ 3000 := by
  intro s hs
  unfold headM' at hs
  cases hs with
  | head => exact Nat.zero_le _
  | tail _ hs =>
    obtain ⟨k, _, rfl⟩ := List.mem_map.1 hs
    have := colB_le ((col + k : Nat) : Int)
    omega
theorem rowM_ok (row i : Nat) (l : RowL) (h : row + i ≤ 1000000) (hl : ∀ s ∈ l, s.length ≤ 1000) : ∀ s ∈ rowM row i l, s.length ≤ 3000 := by
  intro s hs
  unfold rowM at hs
  cases hs with
  | head =>
    have := intB_le (n := ((row + i : Nat) : Int)) (by omega)
    omega
  | tail _ hs =>
    obtain ⟨y, hy, rfl⟩ := List.mem_map.1 hs
    have := cellM_len y
    have := hl y hy
    omega
theorem rowsTo_succ (col row : Nat) {cells : List RowL} {i : Nat} {l : RowL} (h : cells[i]? = some l) : rowsTo col row cells (i + 1) = rowsTo col row cells i ++ [rowM row i l] := by
  have hi := (List.getElem?_eq_some_iff.1 h).1
  have e : cells.take (i + 1) = cells.take i ++ [l] := by rw [List.take_add_one, h]; rfl
  unfold rowsTo
  rw [e, rowsF_snoc, List.length_take, Nat.min_eq_left (by omega), Nat.zero_add]; rfl
theorem rowsTo_one (col row : Nat) {cells : List RowL} {l : RowL} (h : cells[0]? = some l) : rowsTo col row cells 1 = [headM' col l.length, rowM row 0 l] := by
  cases cells with
  | nil => cases h
  | cons x r =>
    simp at h; subst h; rfl
/-- How far the rows are built: none, the header its own; or some, all whole. -/
inductive St1
  | z (v v0 : Value)
  | s (i : Nat) (v : Value) (vs : List Value)
def St1.i : St1 → Nat
  | .z _ _ => 0
  | .s i _ _ => i
def St1.v : St1 → Value
  | .z v _ => v
  | .s _ v _ => v
def St1.G (col row : Nat) (cells : List RowL) : St1 → List Pers
  | .z _ _ => []
  | .s i _ vs => [rdAll (Ty.sl Ty.str) (rowsTo col row cells i) vs]
def St1.S (E E0 : Nat) : St1 → List Res
  | .z v v0 => [own E 1 v 1 [v0], own E0 1 v0 1 [sV []]]
  | .s i v vs => [own E 1 v (i + 1) vs]
def St1.ok (n : Nat) : St1 → Prop
  | .z _ _ => True
  | .s i _ _ => 1 ≤ i ∧ i ≤ n
set_option maxHeartbeats 3200000 in
theorem rtext_fun (col row : Nat) (cells : List RowL) (cv : Value) (hcol : col ≤ 100000) (hrow : row ≤ 100000) (hn : cells.length ≤ 50) (hc : ∀ l ∈ cells, l.length ≤ 10 ∧ ∀ s ∈ l, s.length ≤ 1000) :
    Fun Tryd.prog 10 [.int .i64 (col : Nat), .int .i64 (row : Nat), cv] [rd (Ty.sl (Ty.sl Ty.str)) cells cv] [] (fun z G S => z = .string (bs (textM (rowsM col row cells))) ∧ G = [] ∧ S = []) := by
  refine Fun.enter Tryd.func10 (by kernel_rfl) rfl Tryd.ntmps10 rfl (fun B Gf Sf => ?_); (try simp only [List.cons_append]); (try simp only [List.nil_append]); simp only [argEnv]
  (repeat (first | refine vgo ?_ | refine ⟨_, rfl, rfl, ?_⟩ | refine ⟨_, rfl, ?_⟩ | refine ⟨rfl, ?_⟩ | intro hb | refine altA ?_ | refine altR ?_ | refine sideA ?_ | refine decTA ?_ | refine decFA ?_ | refine decNA ?_ | refine decBTA ?_ | refine decBFA ?_ | refine ⟨_, by assumption, ?_⟩ | refine ⟨_, _, _, rfl, ?_⟩ | refine WC.seq (fun K hK => ?_) | (refine hK _ _ _ ?_; clear hK K) | (refine hK _ _ _ _ rfl ?_; clear hK K) | (refine WX.thenExit (K := K) ?_; clear hK K) | (refine WX.thenExit (K := KL) ?_; clear hL KL)))
  obtain ⟨hR, hl⟩ := rowsM_ok col row cells hrow hn hc
  generalize hRR : rowsM col row cells = R at *
  have ph : ∀ v : Value, WK 120 K { w := B, r := none, ds := [] } [(7, v)] (rd (Ty.sl (Ty.sl Ty.str)) R v :: rd (Ty.sl (Ty.sl Ty.str)) cells cv :: Gf) Sf := fun v => hK _ _ _ (by
    clear hK
    refine WC.ex (fun w sw => sw.len_le (RdSl.h (v := v))) (fun hc1 => ?_)
    (repeat (first | refine vgo ?_ | refine ⟨_, rfl, rfl, ?_⟩ | refine ⟨_, rfl, ?_⟩ | refine ⟨rfl, ?_⟩ | intro hb | refine altA ?_ | refine altR ?_ | refine sideA ?_ | refine decTA ?_ | refine decFA ?_ | refine decNA ?_ | refine decBTA ?_ | refine decBFA ?_ | refine ⟨_, by assumption, ?_⟩ | refine ⟨_, _, _, rfl, ?_⟩ | refine WC.seq (fun K hK => ?_) | (refine hK _ _ _ ?_; clear hK K) | (refine hK _ _ _ _ rfl ?_; clear hK K) | (refine WX.thenExit (K := K) ?_; clear hK K) | (refine WX.thenExit (K := KL) ?_; clear hL KL)))
    refine WC.loop (I := Nat × List UInt8) (fun i => [(7, v), (11, .string (bs i.2)), (12, .int .i64 (i.1 : Nat))]) (fun _ => rd (Ty.sl (Ty.sl Ty.str)) R v :: rd (Ty.sl (Ty.sl Ty.str)) cells cv :: Gf) (fun _ => Sf) (fun i => i.1 ≤ R.length ∧ i.2 = ((R.take i.1).map (lineM R)).flatten ∧ i.2.length ≤ i.1 * 100000) (fun i => R.length - i.1) (0, []) ⟨Nat.zero_le _, rfl, Nat.zero_le _⟩ (.cons rfl (.cons rfl (.cons rfl .nil))) (fun w h => h.to) ?_
    rintro ⟨i, o⟩ ⟨hi, ho, hol⟩ KL hL
    dsimp only at hi ho hol ⊢
    by_cases hi2 : i < R.length
    · obtain ⟨l, hli⟩ : ∃ l, R[i]? = some l := ⟨R[i], List.getElem?_eq_getElem hi2⟩
      obtain ⟨hl1, hl2⟩ := hl l (List.mem_of_getElem? hli)
      (repeat (first | refine vgo ?_ | refine ⟨_, rfl, rfl, ?_⟩ | refine ⟨_, rfl, ?_⟩ | refine ⟨rfl, ?_⟩ | intro hb | refine altA ?_ | refine altR ?_ | refine sideA ?_ | refine decTA ?_ | refine decFA ?_ | refine decNA ?_ | refine decBTA ?_ | refine decBFA ?_ | refine ⟨_, by assumption, ?_⟩ | refine ⟨_, _, _, rfl, ?_⟩ | refine WC.seq (fun K hK => ?_) | (refine hK _ _ _ ?_; clear hK K) | (refine hK _ _ _ _ rfl ?_; clear hK K) | (refine WX.thenExit (K := K) ?_; clear hK K) | (refine WX.thenExit (K := KL) ?_; clear hL KL)))
      refine WC.loop (I := Nat × List UInt8) (fun j => [(7, v), (11, .string (bs j.2)), (12, .int .i64 (i : Nat)), (13, .int .i64 (j.1 : Nat))]) (fun _ => rd (Ty.sl (Ty.sl Ty.str)) R v :: rd (Ty.sl (Ty.sl Ty.str)) cells cv :: Gf) (fun _ => Sf) (fun j => j.1 ≤ l.length ∧ j.2 = o ++ lineF (wideM R) 0 (l.take j.1) ∧ j.2.length ≤ i * 100000 + j.1 * 4100) (fun j => l.length - j.1) (0, o) ⟨Nat.zero_le _, by dsimp only; rw [List.take_zero]; exact (List.append_nil _).symm, by simpa using hol⟩ (.cons rfl (.cons rfl (.cons rfl (.cons rfl .nil)))) (fun w h => h.to) ?_
      rintro ⟨k, o2⟩ ⟨hk, ho2, hol2⟩ KL2 hL2
      dsimp only at hk ho2 hol2 ⊢
      by_cases hk2 : k < l.length
      · obtain ⟨x, hx⟩ : ∃ x, l[k]? = some x := ⟨l[k], List.getElem?_eq_getElem hk2⟩
        have hx2 := hl2 x (List.mem_of_getElem? hx)
        (repeat (first | refine vgo ?_ | refine ⟨_, rfl, rfl, ?_⟩ | refine ⟨_, rfl, ?_⟩ | refine ⟨rfl, ?_⟩ | intro hb | refine altA ?_ | refine altR ?_ | refine sideA ?_ | refine decTA ?_ | refine decFA ?_ | refine decNA ?_ | refine decBTA ?_ | refine decBFA ?_ | refine ⟨_, by assumption, ?_⟩ | refine ⟨_, _, _, rfl, ?_⟩ | refine WC.seq (fun K hK => ?_) | (refine hK _ _ _ ?_; clear hK K) | (refine hK _ _ _ _ rfl ?_; clear hK K) | (refine WX.thenExit (K := K) ?_; clear hK K) | (refine WX.thenExit (K := KL) ?_; clear hL KL)))
        refine WC.loop (I := Nat × Nat) (fun j => [(7, v), (11, .string (bs o2)), (12, .int .i64 (i : Nat)), (13, .int .i64 (k : Nat)), (14, .int .i64 (j.2 : Nat)), (15, .int .i64 (j.1 : Nat))]) (fun _ => rd (Ty.sl (Ty.sl Ty.str)) R v :: rd (Ty.sl (Ty.sl Ty.str)) cells cv :: Gf) (fun _ => Sf) (fun j => j.1 ≤ R.length ∧ j.2 = wideM (R.take j.1) k) (fun j => R.length - j.1) (0, 0) ⟨Nat.zero_le _, rfl⟩ (.cons rfl (.cons rfl (.cons rfl (.cons rfl (.cons rfl (.cons rfl .nil)))))) (fun w h => h.to) ?_
        rintro ⟨m, wd⟩ ⟨hm, hwd⟩ KL3 hL3
        dsimp only at hm hwd ⊢
        by_cases hm2 : m < R.length
        · obtain ⟨q, hq⟩ : ∃ q, R[m]? = some q := ⟨R[m], List.getElem?_eq_getElem hm2⟩
          obtain ⟨hq1, hq2⟩ := hl q (List.mem_of_getElem? hq)
          have hsn : R.take (m + 1) = R.take m ++ [q] := by rw [List.take_add_one, hq]; rfl
          by_cases hkq : k < q.length
          · obtain ⟨y, hy⟩ : ∃ y, q[k]? = some y := ⟨q[k], List.getElem?_eq_getElem hkq⟩
            have hy2 := hq2 y (List.mem_of_getElem? hy)
            (repeat (first | refine vgo ?_ | refine ⟨_, rfl, rfl, ?_⟩ | refine ⟨_, rfl, ?_⟩ | refine ⟨rfl, ?_⟩ | intro hb | refine altA ?_ | refine altR ?_ | refine sideA ?_ | refine decTA ?_ | refine decFA ?_ | refine decNA ?_ | refine decBTA ?_ | refine decBFA ?_ | refine ⟨_, by assumption, ?_⟩ | refine ⟨_, _, _, rfl, ?_⟩ | refine WC.seq (fun K hK => ?_) | (refine hK _ _ _ ?_; clear hK K) | (refine hK _ _ _ _ rfl ?_; clear hK K) | (refine WX.thenExit (K := K) ?_; clear hK K) | (refine WX.thenExit (K := KL) ?_; clear hL KL)))
            refine CallV.by' (signs_fun y (by omega)) ?_; rintro _ _ _ ⟨rfl, rfl, rfl⟩; (try simp only [List.cons_append]); (try simp only [List.nil_append])
            (repeat (first | refine vgo ?_ | refine ⟨_, rfl, rfl, ?_⟩ | refine ⟨_, rfl, ?_⟩ | refine ⟨rfl, ?_⟩ | intro hb | refine altA ?_ | refine altR ?_ | refine sideA ?_ | refine decTA ?_ | refine decFA ?_ | refine decNA ?_ | refine decBTA ?_ | refine decBFA ?_ | refine ⟨_, by assumption, ?_⟩ | refine ⟨_, _, _, rfl, ?_⟩ | refine WC.seq (fun K hK => ?_) | (refine hK _ _ _ ?_; clear hK K) | (refine hK _ _ _ _ rfl ?_; clear hK K) | (refine WX.thenExit (K := K) ?_; clear hK K) | (refine WX.thenExit (K := KL) ?_; clear hL KL)))
            rw [show max ((wd : Nat) : Int) ((rnF y 0 : Nat) : Int) = ((max wd (rnF y 0) : Nat) : Int) from by omega]
            exact (hL3 (m + 1, max wd (rnF y 0)) ⟨by dsimp only; omega, by dsimp only; rw [hsn, wideM_snoc, ← hwd]; unfold rnA; rw [hy]⟩ (by dsimp only; omega)).conv (.cons rfl (.cons rfl (.cons rfl (.cons rfl (.cons rfl (.cons rfl .nil)))))) (fun w h => h.to)
          · (repeat (first | refine vgo ?_ | refine ⟨_, rfl, rfl, ?_⟩ | refine ⟨_, rfl, ?_⟩ | refine ⟨rfl, ?_⟩ | intro hb | refine altA ?_ | refine altR ?_ | refine sideA ?_ | refine decTA ?_ | refine decFA ?_ | refine decNA ?_ | refine decBTA ?_ | refine decBFA ?_ | refine ⟨_, by assumption, ?_⟩ | refine ⟨_, _, _, rfl, ?_⟩ | refine WC.seq (fun K hK => ?_) | (refine hK _ _ _ ?_; clear hK K) | (refine hK _ _ _ _ rfl ?_; clear hK K) | (refine WX.thenExit (K := K) ?_; clear hK K) | (refine WX.thenExit (K := KL) ?_; clear hL KL)))
            exact (hL3 (m + 1, wd) ⟨by dsimp only; omega, by dsimp only; rw [hsn, wideM_snoc, ← hwd]; unfold rnA; rw [List.getElem?_eq_none (by omega)]; exact (Nat.max_zero _).symm⟩ (by dsimp only; omega)).conv (.cons rfl (.cons rfl (.cons rfl (.cons rfl (.cons rfl (.cons rfl .nil)))))) (fun w h => h.to)
        · have hme : m = R.length := by omega
          rw [hme, List.take_length] at hwd
          subst hwd
          have hwl : wideM R k ≤ 2000 := wideM_le (fun l hl0 s hs => (hl l hl0).2 s hs)
          have hpl := padM_len x (wideM R k)
          (repeat (first | refine vgo ?_ | refine ⟨_, rfl, rfl, ?_⟩ | refine ⟨_, rfl, ?_⟩ | refine ⟨rfl, ?_⟩ | intro hb | refine altA ?_ | refine altR ?_ | refine sideA ?_ | refine decTA ?_ | refine decFA ?_ | refine decNA ?_ | refine decBTA ?_ | refine decBFA ?_ | refine ⟨_, by assumption, ?_⟩ | refine ⟨_, _, _, rfl, ?_⟩ | refine WC.seq (fun K hK => ?_) | (refine hK _ _ _ ?_; clear hK K) | (refine hK _ _ _ _ rfl ?_; clear hK K) | (refine WX.thenExit (K := K) ?_; clear hK K) | (refine WX.thenExit (K := KL) ?_; clear hL KL)))
          refine WX.thenExit (K := KL3) ?_
          (repeat (first | refine vgo ?_ | refine ⟨_, rfl, rfl, ?_⟩ | refine ⟨_, rfl, ?_⟩ | refine ⟨rfl, ?_⟩ | intro hb | refine altA ?_ | refine altR ?_ | refine sideA ?_ | refine decTA ?_ | refine decFA ?_ | refine decNA ?_ | refine decBTA ?_ | refine decBFA ?_ | refine ⟨_, by assumption, ?_⟩ | refine ⟨_, _, _, rfl, ?_⟩ | refine WC.seq (fun K hK => ?_) | (refine hK _ _ _ ?_; clear hK K) | (refine hK _ _ _ _ rfl ?_; clear hK K) | (refine WX.thenExit (K := K) ?_; clear hK K) | (refine WX.thenExit (K := KL) ?_; clear hL KL)))
          refine CallV.by' (pad_fun x (wideM R k) (by omega) (by omega)) ?_; rintro _ _ _ ⟨rfl, rfl, rfl⟩; (try simp only [List.cons_append]); (try simp only [List.nil_append])
          (repeat (first | refine vgo ?_ | refine ⟨_, rfl, rfl, ?_⟩ | refine ⟨_, rfl, ?_⟩ | refine ⟨rfl, ?_⟩ | intro hb | refine altA ?_ | refine altR ?_ | refine sideA ?_ | refine decTA ?_ | refine decFA ?_ | refine decNA ?_ | refine decBTA ?_ | refine decBFA ?_ | refine ⟨_, by assumption, ?_⟩ | refine ⟨_, _, _, rfl, ?_⟩ | refine WC.seq (fun K hK => ?_) | (refine hK _ _ _ ?_; clear hK K) | (refine hK _ _ _ _ rfl ?_; clear hK K) | (refine WX.thenExit (K := K) ?_; clear hK K) | (refine WX.thenExit (K := KL) ?_; clear hL KL)))
          have htk : l.take (k + 1) = l.take k ++ [x] := by rw [List.take_add_one, hx]; rfl
          have hlk : (l.take k).length = k := by rw [List.length_take]; omega
          exact (hL2 (k + 1, o2 ++ padM x (wideM R k) ++ [124]) ⟨by dsimp only; omega, by dsimp only; rw [htk, lineF_snoc, Nat.zero_add, hlk, ho2, List.append_assoc, List.append_assoc], by simp only [List.length_append, List.length_cons, List.length_nil]; omega⟩ (by dsimp only; omega)).conv (.cons rfl (.cons rfl (.cons rfl (.cons rfl .nil)))) (fun w h => h.to)
      · (repeat (first | refine vgo ?_ | refine ⟨_, rfl, rfl, ?_⟩ | refine ⟨_, rfl, ?_⟩ | refine ⟨rfl, ?_⟩ | intro hb | refine altA ?_ | refine altR ?_ | refine sideA ?_ | refine decTA ?_ | refine decFA ?_ | refine decNA ?_ | refine decBTA ?_ | refine decBFA ?_ | refine ⟨_, by assumption, ?_⟩ | refine ⟨_, _, _, rfl, ?_⟩ | refine WC.seq (fun K hK => ?_) | (refine hK _ _ _ ?_; clear hK K) | (refine hK _ _ _ _ rfl ?_; clear hK K) | (refine WX.thenExit (K := K) ?_; clear hK K) | (refine WX.thenExit (K := KL) ?_; clear hL KL)))
        refine WX.thenExit (K := KL2) ?_
        have hke : k = l.length := by omega
        rw [hke, List.take_length] at ho2
        have htr : R.take (i + 1) = R.take i ++ [l] := by rw [List.take_add_one, hli]; rfl
        (repeat (first | refine vgo ?_ | refine ⟨_, rfl, rfl, ?_⟩ | refine ⟨_, rfl, ?_⟩ | refine ⟨rfl, ?_⟩ | intro hb | refine altA ?_ | refine altR ?_ | refine sideA ?_ | refine decTA ?_ | refine decFA ?_ | refine decNA ?_ | refine decBTA ?_ | refine decBFA ?_ | refine ⟨_, by assumption, ?_⟩ | refine ⟨_, _, _, rfl, ?_⟩ | refine WC.seq (fun K hK => ?_) | (refine hK _ _ _ ?_; clear hK K) | (refine hK _ _ _ _ rfl ?_; clear hK K) | (refine WX.thenExit (K := K) ?_; clear hK K) | (refine WX.thenExit (K := KL) ?_; clear hL KL)))
        exact (hL (i + 1, o2 ++ [10]) ⟨by dsimp only; omega, by dsimp only; rw [htr, List.map_append, List.flatten_append, ← ho, ho2, List.append_assoc]; show _ = o ++ (lineM R l ++ []); rw [List.append_nil]; rfl, by simp only [List.length_append, List.length_cons, List.length_nil]; omega⟩ (by dsimp only; omega)).conv (.cons rfl (.cons rfl (.cons rfl .nil))) (fun w h => h.to)
    · have hie : i = R.length := by omega
      subst hie
      rw [List.take_length] at ho
      (repeat (first | refine vgo ?_ | refine ⟨_, rfl, rfl, ?_⟩ | refine ⟨_, rfl, ?_⟩ | refine ⟨rfl, ?_⟩ | intro hb | refine altA ?_ | refine altR ?_ | refine sideA ?_ | refine decTA ?_ | refine decFA ?_ | refine decNA ?_ | refine decBTA ?_ | refine decBFA ?_ | refine ⟨_, by assumption, ?_⟩ | refine ⟨_, _, _, rfl, ?_⟩ | refine WC.seq (fun K hK => ?_) | (refine hK _ _ _ ?_; clear hK K) | (refine hK _ _ _ _ rfl ?_; clear hK K) | (refine WX.thenExit (K := K) ?_; clear hK K) | (refine WX.thenExit (K := KL) ?_; clear hL KL)))
      exact WX.ret1 rfl rfl (fun w sw => ⟨[], [], ⟨by rw [ho]; rfl, rfl, rfl⟩, sw.to⟩))
  clear hK
  rename_i v0
  have v := hb
  refine WC.loop (I := St1) (fun st => [(0, .int .i64 (col : Nat)), (1, .int .i64 (row : Nat)), (2, cv), (7, st.v), (8, .int .i64 (st.i : Nat))]) (fun st => st.G col row cells ++ (rd (Ty.sl (Ty.sl Ty.str)) cells cv :: Gf)) (fun st => st.S 27 9 ++ Sf) (fun st => st.ok cells.length) (fun st => cells.length - st.i) (.z hb v0) trivial (.cons rfl (.cons rfl (.cons rfl (.cons rfl (.cons rfl .nil))))) (fun w h => by
    simp only [St1.G, St1.S, List.nil_append, List.cons_append] at h ⊢
    exact h) ?_
  rintro st hst KL hL
  cases st with
  | z v v0 =>
    simp only [St1.G, St1.S, St1.v, St1.i, List.nil_append, List.cons_append]
    refine WC.ex (fun w sw => sw.len_le (RdSl.h (v := cv))) (fun hc1 => ?_)
    by_cases h0 : cells = []
    · subst h0
      have hl0 : ([] : List RowL).length = 0 := rfl
      (repeat (first | refine vgo ?_ | refine ⟨_, rfl, rfl, ?_⟩ | refine ⟨_, rfl, ?_⟩ | refine ⟨rfl, ?_⟩ | intro hb | refine altA ?_ | refine altR ?_ | refine sideA ?_ | refine decTA ?_ | refine decFA ?_ | refine decNA ?_ | refine decBTA ?_ | refine decBFA ?_ | refine ⟨_, by assumption, ?_⟩ | refine ⟨_, _, _, rfl, ?_⟩ | refine WC.seq (fun K hK => ?_) | (refine hK _ _ _ ?_; clear hK K) | (refine hK _ _ _ _ rfl ?_; clear hK K) | (refine WX.thenExit (K := K) ?_; clear hK K) | (refine WX.thenExit (K := KL) ?_; clear hL KL)))
      subst hRR
      exact (ph v).conv (.cons rfl .nil) (fun w sw => by
        have h1 : Sat B (rd (Ty.sl Ty.str) [[]] v0 :: rd (Ty.sl (Ty.sl Ty.str)) [] cv :: Gf) (own 27 1 v 1 [v0] :: Sf) w := sw.pub (R := Ty.str) (l := [[]]) (v := v0) SelOwn.h rfl rfl rfl (fun a ha => by rw [List.mem_singleton] at ha; subst ha; exact Nat.zero_le _)
        have h2 : Sat B (rdAll (Ty.sl Ty.str) [[[]]] [v0] :: _) (own 27 1 v 1 [v0] :: Sf) w := (h1.rdAllNil (Ty.sl Ty.str)).rdAllSnoc (R := Ty.sl Ty.str) (l := []) (a := [[]]) (vs := []) (u := v0)
        have h3 : Sat B (rd (Ty.sl (Ty.sl Ty.str)) [[[]]] v :: _) Sf w := h2.pubAll (R := Ty.sl Ty.str) (l := [[[]]]) (v := v) rfl rfl rfl rfl
        exact (show Sat B (rd (Ty.sl (Ty.sl Ty.str)) (rowsM col row []) v :: _) Sf w from h3).to)
    · have hpos : 0 < cells.length := List.length_pos_iff.2 h0
      obtain ⟨l, hli⟩ : ∃ l, cells[0]? = some l := ⟨_, List.getElem?_eq_getElem hpos⟩
      obtain ⟨hl1, hl2⟩ := hc l (List.mem_of_getElem? hli)
      have hib := intB_le (n := ((row + 0 : Nat) : Int)) (by omega)
      (repeat (first | refine vgo ?_ | refine ⟨_, rfl, rfl, ?_⟩ | refine ⟨_, rfl, ?_⟩ | refine ⟨rfl, ?_⟩ | intro hb | refine altA ?_ | refine altR ?_ | refine sideA ?_ | refine decTA ?_ | refine decFA ?_ | refine decNA ?_ | refine decBTA ?_ | refine decBFA ?_ | refine ⟨_, by assumption, ?_⟩ | refine ⟨_, _, _, rfl, ?_⟩ | refine WC.seq (fun K hK => ?_) | (refine hK _ _ _ ?_; clear hK K) | (refine hK _ _ _ _ rfl ?_; clear hK K) | (refine WX.thenExit (K := K) ?_; clear hK K) | (refine WX.thenExit (K := KL) ?_; clear hL KL)))
      rw [show ((row : Nat) : Int) + ((0 : Nat) : Int) = ((row + 0 : Nat) : Int) from by omega]
      refine CallV.by' (digits_fun ((row + 0 : Nat) : Int) (by omega)) ?_; rintro _ _ _ ⟨rfl, rfl, rfl⟩; (try simp only [List.cons_append]); (try simp only [List.nil_append])
      (repeat (first | refine vgo ?_ | refine ⟨_, rfl, rfl, ?_⟩ | refine ⟨_, rfl, ?_⟩ | refine ⟨rfl, ?_⟩ | intro hb | refine altA ?_ | refine altR ?_ | refine sideA ?_ | refine decTA ?_ | refine decFA ?_ | refine decNA ?_ | refine decBTA ?_ | refine decBFA ?_ | refine ⟨_, by assumption, ?_⟩ | refine ⟨_, _, _, rfl, ?_⟩ | refine WC.seq (fun K hK => ?_) | (refine hK _ _ _ ?_; clear hK K) | (refine hK _ _ _ _ rfl ?_; clear hK K) | (refine WX.thenExit (K := K) ?_; clear hK K) | (refine WX.thenExit (K := KL) ?_; clear hL KL)))
      refine WC.loop (I := Nat × Value × Value) (fun j => [(0, .int .i64 (col : Nat)), (1, .int .i64 (row : Nat)), (2, cv), (7, v), (8, .int .i64 ((0 : Nat) : Int)), (9, j.2.1), (10, .int .i64 (j.1 : Nat))]) (fun _ => rd (Ty.sl (Ty.sl Ty.str)) cells cv :: Gf) (fun j => own 9 1 j.2.1 (j.1 + 1) ((rowM row 0 (l.take j.1)).map sV) :: own 27 1 v 1 [j.2.2] :: own 9 1 j.2.2 (j.1 + 1) ((headM' col j.1).map sV) :: Sf) (fun j => j.1 ≤ l.length) (fun j => l.length - j.1) (0, hb, v0) (Nat.zero_le _) (.cons rfl (.cons rfl (.cons rfl (.cons rfl (.cons rfl (.cons rfl (.cons rfl .nil))))))) (fun w h => by
        have h1 : Sat B _ (own 9 1 hb 1 [sV (intB ((row + 0 : Nat) : Int))] :: own 27 1 v 1 [v0] :: own 9 1 v0 1 [sV []] :: Sf) w := h
        exact (show Sat B (rd (Ty.sl (Ty.sl Ty.str)) cells cv :: Gf) (own 9 1 hb 1 [sV (intB ((row + 0 : Nat) : Int))] :: own 27 1 v 1 [v0] :: own 9 1 v0 1 [sV []] :: Sf) w from h1.to)) ?_
      rintro ⟨k, lv, u0⟩ hk KL2 hL2
      dsimp only at hk ⊢
      by_cases hk2 : k < l.length
      · obtain ⟨s, hs⟩ : ∃ s, l[k]? = some s := ⟨_, List.getElem?_eq_getElem hk2⟩
        have hsl := hl2 s (List.mem_of_getElem? hs)
        (repeat (first | refine vgo ?_ | refine ⟨_, rfl, rfl, ?_⟩ | refine ⟨_, rfl, ?_⟩ | refine ⟨rfl, ?_⟩ | intro hb | refine altA ?_ | refine altR ?_ | refine sideA ?_ | refine decTA ?_ | refine decFA ?_ | refine decNA ?_ | refine decBTA ?_ | refine decBFA ?_ | refine ⟨_, by assumption, ?_⟩ | refine ⟨_, _, _, rfl, ?_⟩ | refine WC.seq (fun K hK => ?_) | (refine hK _ _ _ ?_; clear hK K) | (refine hK _ _ _ _ rfl ?_; clear hK K) | (refine WX.thenExit (K := K) ?_; clear hK K) | (refine WX.thenExit (K := KL) ?_; clear hL KL)))
        refine CallV.by' (rclean_fun s (by omega)) ?_; rintro _ _ _ ⟨rfl, rfl, rfl⟩; (try simp only [List.cons_append]); (try simp only [List.nil_append])
        have hcl := cleanM_len s.length s false (Nat.le_refl _)
        have h20 : ((20 : Int)) = ((20 : Nat) : Int) := rfl
        (repeat (first | refine vgo ?_ | refine ⟨_, rfl, rfl, ?_⟩ | refine ⟨_, rfl, ?_⟩ | refine ⟨rfl, ?_⟩ | intro hb | refine altA ?_ | refine altR ?_ | refine sideA ?_ | refine decTA ?_ | refine decFA ?_ | refine decNA ?_ | refine decBTA ?_ | refine decBFA ?_ | refine ⟨_, by assumption, ?_⟩ | refine ⟨_, _, _, rfl, ?_⟩ | refine WC.seq (fun K hK => ?_) | (refine hK _ _ _ ?_; clear hK K) | (refine hK _ _ _ _ rfl ?_; clear hK K) | (refine WX.thenExit (K := K) ?_; clear hK K) | (refine WX.thenExit (K := KL) ?_; clear hL KL)))
        refine CallV.by' (rcut_fun (cleanM s false) 20 (by omega) (by omega) (by omega)) ?_; rintro _ _ _ ⟨rfl, rfl, rfl⟩; (try simp only [List.cons_append]); (try simp only [List.nil_append])
        (repeat (first | refine vgo ?_ | refine ⟨_, rfl, rfl, ?_⟩ | refine ⟨_, rfl, ?_⟩ | refine ⟨rfl, ?_⟩ | intro hb | refine altA ?_ | refine altR ?_ | refine sideA ?_ | refine decTA ?_ | refine decFA ?_ | refine decNA ?_ | refine decBTA ?_ | refine decBFA ?_ | refine ⟨_, by assumption, ?_⟩ | refine ⟨_, _, _, rfl, ?_⟩ | refine WC.seq (fun K hK => ?_) | (refine hK _ _ _ ?_; clear hK K) | (refine hK _ _ _ _ rfl ?_; clear hK K) | (refine WX.thenExit (K := K) ?_; clear hK K) | (refine WX.thenExit (K := KL) ?_; clear hL KL)))
        have hts : l.take (k + 1) = l.take k ++ [s] := by rw [List.take_add_one, hs]; rfl
        refine WC.openOwn (v := v) (fun e m0 => absurd m0 (by omega)) (fun bo cp cs e hmc hcp hcl hct => ?_)
        obtain ⟨sp, rfl⟩ : ∃ sp, cs = u0 :: sp := by
          cases cs with
          | nil => simp at hct
          | cons x sp => simp at hct; exact ⟨sp, by rw [hct]⟩
        obtain ⟨RM, hRM⟩ : ∃ x, x = (rowM row 0 (l.take (k + 1))).map sV := ⟨_, rfl⟩
        obtain ⟨HM, hHM⟩ : ∃ x, x = (headM' col k).map sV := ⟨_, rfl⟩
        rw [show (rowM row 0 (l.take k)).map sV ++ ([Value.string (bs (cutM (cleanM s false) 20))] ++ []) = RM from by rw [hRM, hts, rowM_snoc, List.map_append]; rfl, ← hHM]
        have hcb := colB_le ((col + k : Nat) : Int)
        have hck : ((col : Nat) : Int) + ((k : Nat) : Int) = ((col + k : Nat) : Int) := by omega
        subst e
        refine WC.drawV (S := (own 9 1 hb (k + 1 + 1) RM :: Sf)) ([[box bo 27 (u0 :: sp)], [own 9 1 u0 (k + 1) HM]]) rfl (by repeat (first | exact Wo.nil | (apply Wo.keep; exact rfl) | (apply Wo.drop; exact rfl))) (fun w sw => by (try simp only [List.flatten_cons, List.flatten_nil, List.append_nil, List.cons_append, List.nil_append]); exact sw.to) ?_; (try dsimp only [chunks])
        (repeat (first | refine ObP3.c0A ?_ | (apply ObP3.cons1 [1000] []; (focus ((repeat (intro _)); (conv => whnf); (try dsimp only [envO, List.cons_append, List.nil_append]); (repeat (first | refine vgo ?_ | refine ⟨_, rfl, rfl, ?_⟩ | refine ⟨_, rfl, ?_⟩ | refine ⟨rfl, ?_⟩ | intro hb | refine altA ?_ | refine altR ?_ | refine sideA ?_ | refine decTA ?_ | refine decFA ?_ | refine decNA ?_ | refine decBTA ?_ | refine decBFA ?_ | refine ⟨_, by assumption, ?_⟩ | refine ⟨_, _, _, rfl, ?_⟩ | refine WC.seq (fun K hK => ?_) | (refine hK _ _ _ ?_; clear hK K) | (refine hK _ _ _ _ rfl ?_; clear hK K) | (refine WX.thenExit (K := K) ?_; clear hK K) | (refine WX.thenExit (K := KL) ?_; clear hL KL))); first | exact WX.pgIs rfl | exact WX.pgRd rfl | exact WX.pgCell rfl | exact WX.pgNone | exact WX.pgOwn rfl)); exact rfl))); try (refine ObP3.nil ?_; (repeat (intro _)); (conv => whnf); (try dsimp only [envO, List.cons_append, List.nil_append]))
        (apply ObP3.cons1 [] [1001, 8]; (focus ((repeat (intro _)); (conv => whnf); (try dsimp only [envO, List.cons_append, List.nil_append]); (repeat (first | refine vgo ?_ | refine ⟨_, rfl, rfl, ?_⟩ | refine ⟨_, rfl, ?_⟩ | refine ⟨rfl, ?_⟩ | intro hb | refine altA ?_ | refine altR ?_ | refine sideA ?_ | refine decTA ?_ | refine decFA ?_ | refine decNA ?_ | refine decBTA ?_ | refine decBFA ?_ | refine ⟨_, by assumption, ?_⟩ | refine ⟨_, _, _, rfl, ?_⟩ | refine WC.seq (fun K hK => ?_) | (refine hK _ _ _ ?_; clear hK K) | (refine hK _ _ _ _ rfl ?_; clear hK K) | (refine WX.thenExit (K := K) ?_; clear hK K) | (refine WX.thenExit (K := KL) ?_; clear hL KL))); first | exact WX.pgHeadV rfl | exact WX.pgHead | exact WX.pgOwn rfl)); exact rfl)
        (repeat refine ObP3.c0B ?_); try (refine ObP3.nil ?_; (repeat (intro _)); (conv => whnf); (try dsimp only [envO, List.cons_append, List.nil_append]))
        refine ObP3.cons2 [] [1000, 9] [9] 61 (.ex Value (fun a => a) (fun _ => []) (fun a => [box bo 27 (a :: sp), own 9 1 a (k + 1 + 1) (HM ++ [sV (colB (col + k))])])) ?_ rfl ?_
        · (repeat (intro _)); (conv => whnf); (try dsimp only [envO, List.cons_append, List.nil_append])
          (repeat (first | refine vgo ?_ | refine ⟨_, rfl, rfl, ?_⟩ | refine ⟨_, rfl, ?_⟩ | refine ⟨rfl, ?_⟩ | intro hb | refine altA ?_ | refine altR ?_ | refine sideA ?_ | refine decTA ?_ | refine decFA ?_ | refine decNA ?_ | refine decBTA ?_ | refine decBFA ?_ | refine ⟨_, by assumption, ?_⟩ | refine ⟨_, _, _, rfl, ?_⟩ | refine WC.seq (fun K hK => ?_) | (refine hK _ _ _ ?_; clear hK K) | (refine hK _ _ _ _ rfl ?_; clear hK K) | (refine WX.thenExit (K := K) ?_; clear hK K) | (refine WX.thenExit (K := KL) ?_; clear hL KL)))
          rename_i x61 _ _ _
          exact WX.pgEx (fv := fun a : Value => a) x61 rfl (fun w sw => sw.to)
        (repeat refine ObP3.c0B ?_); try (refine ObP3.nil ?_; (repeat (intro _)); (conv => whnf); (try dsimp only [envO, List.cons_append, List.nil_append]))
        (repeat (first | refine vgo ?_ | refine ⟨_, rfl, rfl, ?_⟩ | refine ⟨_, rfl, ?_⟩ | refine ⟨rfl, ?_⟩ | intro hb | refine altA ?_ | refine altR ?_ | refine sideA ?_ | refine decTA ?_ | refine decFA ?_ | refine decNA ?_ | refine decBTA ?_ | refine decBFA ?_ | refine ⟨_, by assumption, ?_⟩ | refine ⟨_, _, _, rfl, ?_⟩ | refine WC.seq (fun K hK => ?_) | (refine hK _ _ _ ?_; clear hK K) | (refine hK _ _ _ _ rfl ?_; clear hK K) | (refine WX.thenExit (K := K) ?_; clear hK K) | (refine WX.thenExit (K := KL) ?_; clear hL KL)))
        rename_i x61 _ _ _
        refine (hL2 (k + 1, hb, x61) (by dsimp only; omega) (by dsimp only; omega)).conv (.cons rfl (.cons rfl (.cons rfl (.cons rfl (.cons rfl (.cons rfl (.cons rfl .nil))))))) (fun w h => ?_)
        have h1 := h.closeOwn (b := bo) (cp := cp) 1 1 (cs := x61 :: sp) (by simpa using hcl) hmc hcp
        dsimp only
        rw [headM'_succ, List.map_append, ← hHM, ← hRM]
        exact (show Sat B (rd (Ty.sl (Ty.sl Ty.str)) cells cv :: Gf) (own 9 1 hb (k + 1 + 1) RM :: own 27 1 (.slice (some ⟨bo, 0, none⟩) 1 cp) 1 [x61] :: own 9 1 x61 (k + 1 + 1) (HM ++ [sV (colB (col + k))]) :: Sf) w from Sat.to (show Sat B _ (own 27 1 (.slice (some ⟨bo, 0, none⟩) 1 cp) 1 [x61] :: own 9 1 x61 (k + 1 + 1) (HM ++ [sV (colB (col + k))]) :: own 9 1 hb (k + 1 + 1) RM :: Sf) w from h1))
      · have hke : k = l.length := by omega
        subst hke
        (repeat (first | refine vgo ?_ | refine ⟨_, rfl, rfl, ?_⟩ | refine ⟨_, rfl, ?_⟩ | refine ⟨rfl, ?_⟩ | intro hb | refine altA ?_ | refine altR ?_ | refine sideA ?_ | refine decTA ?_ | refine decFA ?_ | refine decNA ?_ | refine decBTA ?_ | refine decBFA ?_ | refine ⟨_, by assumption, ?_⟩ | refine ⟨_, _, _, rfl, ?_⟩ | refine WC.seq (fun K hK => ?_) | (refine hK _ _ _ ?_; clear hK K) | (refine hK _ _ _ _ rfl ?_; clear hK K) | (refine WX.thenExit (K := K) ?_; clear hK K) | (refine WX.thenExit (K := KL) ?_; clear hL KL)))
        refine WX.thenExit ?_
        (repeat (first | refine vgo ?_ | refine ⟨_, rfl, rfl, ?_⟩ | refine ⟨_, rfl, ?_⟩ | refine ⟨rfl, ?_⟩ | intro hb | refine altA ?_ | refine altR ?_ | refine sideA ?_ | refine decTA ?_ | refine decFA ?_ | refine decNA ?_ | refine decBTA ?_ | refine decBFA ?_ | refine ⟨_, by assumption, ?_⟩ | refine ⟨_, _, _, rfl, ?_⟩ | refine WC.seq (fun K hK => ?_) | (refine hK _ _ _ ?_; clear hK K) | (refine hK _ _ _ _ rfl ?_; clear hK K) | (refine WX.thenExit (K := K) ?_; clear hK K) | (refine WX.thenExit (K := KL) ?_; clear hL KL)))
        refine (hL (.s 1 hb [u0, lv]) ⟨Nat.le_refl _, hpos⟩ (by dsimp only [St1.i]; omega)).conv (.cons rfl (.cons rfl (.cons rfl (.cons rfl (.cons rfl .nil))))) (fun w h => ?_)
        rw [List.take_length] at h
        have h0 : Sat B (rd (Ty.sl (Ty.sl Ty.str)) cells cv :: Gf) (own 9 1 lv (l.length + 1) ((rowM row 0 l).map sV) :: own 9 1 u0 (l.length + 1) ((headM' col l.length).map sV) :: own 27 1 hb 2 [u0, lv] :: Sf) w := Sat.to (show Sat B _ (own 27 1 hb 2 [u0, lv] :: own 9 1 lv (l.length + 1) ((rowM row 0 l).map sV) :: own 9 1 u0 (l.length + 1) ((headM' col l.length).map sV) :: Sf) w from h)
        have h1 := (h0.pubRow (rowM_len row 0 l).symm (rowM_ok row 0 l (by omega) hl2)).pubRow (headM'_len col l.length).symm (headM'_ok col l.length)
        have h1' : Sat B (rdAll (Ty.sl Ty.str) [headM' col l.length] [u0] :: rd (Ty.sl Ty.str) (rowM row 0 l) lv :: rd (Ty.sl (Ty.sl Ty.str)) cells cv :: Gf) (own 27 1 hb 2 [u0, lv] :: Sf) w := ((h1.rdAllNil (Ty.sl Ty.str)).rdAllSnoc (R := Ty.sl Ty.str) (l := []) (a := headM' col l.length) (vs := []) (u := u0)).sub (fun g hg => by
          rcases List.mem_cons.1 hg with rfl | hg
          · exact .head _
          · exact .tail _ (.tail _ (.tail _ hg)))
        have h2 : Sat B (rdAll (Ty.sl Ty.str) (rowsTo col row cells 1) [u0, lv] :: rdAll (Ty.sl Ty.str) [headM' col l.length] [u0] :: rd (Ty.sl Ty.str) (rowM row 0 l) lv :: rd (Ty.sl (Ty.sl Ty.str)) cells cv :: Gf) (own 27 1 hb 2 [u0, lv] :: Sf) w := by
          rw [rowsTo_one col row hli]
          exact h1'.rdAllSnoc (R := Ty.sl Ty.str) (l := [headM' col l.length]) (a := rowM row 0 l) (vs := [u0]) (u := lv)
        exact (show Sat B (rdAll (Ty.sl Ty.str) (rowsTo col row cells 1) [u0, lv] :: rd (Ty.sl (Ty.sl Ty.str)) cells cv :: Gf) (own 27 1 hb 2 [u0, lv] :: Sf) w from h2.to)
  | s i v vs =>
    simp only [St1.G, St1.S, St1.v, St1.i, List.nil_append, List.cons_append]
    refine WC.ex (fun w sw => sw.len_le (RdSl.h (v := cv))) (fun hc1 => ?_)
    obtain ⟨hi1, hi2⟩ := hst
    by_cases hi : i < cells.length
    · obtain ⟨l, hli⟩ : ∃ l, cells[i]? = some l := ⟨_, List.getElem?_eq_getElem hi⟩
      obtain ⟨hl1, hl2⟩ := hc l (List.mem_of_getElem? hli)
      have hib := intB_le (n := ((row + i : Nat) : Int)) (by omega)
      (repeat (first | refine vgo ?_ | refine ⟨_, rfl, rfl, ?_⟩ | refine ⟨_, rfl, ?_⟩ | refine ⟨rfl, ?_⟩ | intro hb | refine altA ?_ | refine altR ?_ | refine sideA ?_ | refine decTA ?_ | refine decFA ?_ | refine decNA ?_ | refine decBTA ?_ | refine decBFA ?_ | refine ⟨_, by assumption, ?_⟩ | refine ⟨_, _, _, rfl, ?_⟩ | refine WC.seq (fun K hK => ?_) | (refine hK _ _ _ ?_; clear hK K) | (refine hK _ _ _ _ rfl ?_; clear hK K) | (refine WX.thenExit (K := K) ?_; clear hK K) | (refine WX.thenExit (K := KL) ?_; clear hL KL)))
      rw [show ((row : Nat) : Int) + ((i : Nat) : Int) = ((row + i : Nat) : Int) from by omega]
      refine CallV.by' (digits_fun ((row + i : Nat) : Int) (by omega)) ?_; rintro _ _ _ ⟨rfl, rfl, rfl⟩; (try simp only [List.cons_append]); (try simp only [List.nil_append])
      (repeat (first | refine vgo ?_ | refine ⟨_, rfl, rfl, ?_⟩ | refine ⟨_, rfl, ?_⟩ | refine ⟨rfl, ?_⟩ | intro hb | refine altA ?_ | refine altR ?_ | refine sideA ?_ | refine decTA ?_ | refine decFA ?_ | refine decNA ?_ | refine decBTA ?_ | refine decBFA ?_ | refine ⟨_, by assumption, ?_⟩ | refine ⟨_, _, _, rfl, ?_⟩ | refine WC.seq (fun K hK => ?_) | (refine hK _ _ _ ?_; clear hK K) | (refine hK _ _ _ _ rfl ?_; clear hK K) | (refine WX.thenExit (K := K) ?_; clear hK K) | (refine WX.thenExit (K := KL) ?_; clear hL KL)))
      refine WC.loop (I := Nat × Value) (fun j => [(0, .int .i64 (col : Nat)), (1, .int .i64 (row : Nat)), (2, cv), (7, v), (8, .int .i64 (i : Nat)), (9, j.2), (10, .int .i64 (j.1 : Nat))]) (fun _ => rdAll (Ty.sl Ty.str) (rowsTo col row cells i) vs :: rd (Ty.sl (Ty.sl Ty.str)) cells cv :: Gf) (fun j => own 9 1 j.2 (j.1 + 1) ((rowM row i (l.take j.1)).map sV) :: own 27 1 v (i + 1) vs :: Sf) (fun j => j.1 ≤ l.length) (fun j => l.length - j.1) (0, hb) (Nat.zero_le _) (.cons rfl (.cons rfl (.cons rfl (.cons rfl (.cons rfl (.cons rfl (.cons rfl .nil))))))) (fun w h => by
        have h1 : Sat B _ (own 9 1 hb 1 [sV (intB ((row + i : Nat) : Int))] :: own 27 1 v (i + 1) vs :: Sf) w := h
        exact (show Sat B (rdAll (Ty.sl Ty.str) (rowsTo col row cells i) vs :: rd (Ty.sl (Ty.sl Ty.str)) cells cv :: Gf) (own 9 1 hb 1 [sV (intB ((row + i : Nat) : Int))] :: own 27 1 v (i + 1) vs :: Sf) w from h1.to)) ?_
      rintro ⟨k, lv⟩ hk KL2 hL2
      dsimp only at hk ⊢
      have hi0 : ¬ ((i : Nat) : Int) = 0 := by omega
      by_cases hk2 : k < l.length
      · obtain ⟨s, hs⟩ : ∃ s, l[k]? = some s := ⟨_, List.getElem?_eq_getElem hk2⟩
        have hsl := hl2 s (List.mem_of_getElem? hs)
        (repeat (first | refine vgo ?_ | refine ⟨_, rfl, rfl, ?_⟩ | refine ⟨_, rfl, ?_⟩ | refine ⟨rfl, ?_⟩ | intro hb | refine altA ?_ | refine altR ?_ | refine sideA ?_ | refine decTA ?_ | refine decFA ?_ | refine decNA ?_ | refine decBTA ?_ | refine decBFA ?_ | refine ⟨_, by assumption, ?_⟩ | refine ⟨_, _, _, rfl, ?_⟩ | refine WC.seq (fun K hK => ?_) | (refine hK _ _ _ ?_; clear hK K) | (refine hK _ _ _ _ rfl ?_; clear hK K) | (refine WX.thenExit (K := K) ?_; clear hK K) | (refine WX.thenExit (K := KL) ?_; clear hL KL)))
        refine CallV.by' (rclean_fun s (by omega)) ?_; rintro _ _ _ ⟨rfl, rfl, rfl⟩; (try simp only [List.cons_append]); (try simp only [List.nil_append])
        have hcl := cleanM_len s.length s false (Nat.le_refl _)
        (repeat (first | refine vgo ?_ | refine ⟨_, rfl, rfl, ?_⟩ | refine ⟨_, rfl, ?_⟩ | refine ⟨rfl, ?_⟩ | intro hb | refine altA ?_ | refine altR ?_ | refine sideA ?_ | refine decTA ?_ | refine decFA ?_ | refine decNA ?_ | refine decBTA ?_ | refine decBFA ?_ | refine ⟨_, by assumption, ?_⟩ | refine ⟨_, _, _, rfl, ?_⟩ | refine WC.seq (fun K hK => ?_) | (refine hK _ _ _ ?_; clear hK K) | (refine hK _ _ _ _ rfl ?_; clear hK K) | (refine WX.thenExit (K := K) ?_; clear hK K) | (refine WX.thenExit (K := KL) ?_; clear hL KL)))
        refine CallV.by' (rcut_fun (cleanM s false) 20 (by omega) (by omega) (by omega)) ?_; rintro _ _ _ ⟨rfl, rfl, rfl⟩; (try simp only [List.cons_append]); (try simp only [List.nil_append])
        (repeat (first | refine vgo ?_ | refine ⟨_, rfl, rfl, ?_⟩ | refine ⟨_, rfl, ?_⟩ | refine ⟨rfl, ?_⟩ | intro hb | refine altA ?_ | refine altR ?_ | refine sideA ?_ | refine decTA ?_ | refine decFA ?_ | refine decNA ?_ | refine decBTA ?_ | refine decBFA ?_ | refine ⟨_, by assumption, ?_⟩ | refine ⟨_, _, _, rfl, ?_⟩ | refine WC.seq (fun K hK => ?_) | (refine hK _ _ _ ?_; clear hK K) | (refine hK _ _ _ _ rfl ?_; clear hK K) | (refine WX.thenExit (K := K) ?_; clear hK K) | (refine WX.thenExit (K := KL) ?_; clear hL KL)))
        have hts : l.take (k + 1) = l.take k ++ [s] := by rw [List.take_add_one, hs]; rfl
        refine (hL2 (k + 1, hb) (by dsimp only; omega) (by dsimp only; omega)).conv (.cons rfl (.cons rfl (.cons rfl (.cons rfl (.cons rfl (.cons rfl (.cons rfl .nil))))))) (fun w h => ?_)
        rw [show (rowM row i (l.take k)).map sV ++ ([Value.string (bs (cutM (cleanM s false) 20))] ++ []) = (rowM row i (l.take (k + 1))).map sV from by rw [hts, rowM_snoc, List.map_append]; rfl] at h
        exact h.to
      · have hke : k = l.length := by omega
        subst hke
        (repeat (first | refine vgo ?_ | refine ⟨_, rfl, rfl, ?_⟩ | refine ⟨_, rfl, ?_⟩ | refine ⟨rfl, ?_⟩ | intro hb | refine altA ?_ | refine altR ?_ | refine sideA ?_ | refine decTA ?_ | refine decFA ?_ | refine decNA ?_ | refine decBTA ?_ | refine decBFA ?_ | refine ⟨_, by assumption, ?_⟩ | refine ⟨_, _, _, rfl, ?_⟩ | refine WC.seq (fun K hK => ?_) | (refine hK _ _ _ ?_; clear hK K) | (refine hK _ _ _ _ rfl ?_; clear hK K) | (refine WX.thenExit (K := K) ?_; clear hK K) | (refine WX.thenExit (K := KL) ?_; clear hL KL)))
        refine WX.thenExit ?_
        (repeat (first | refine vgo ?_ | refine ⟨_, rfl, rfl, ?_⟩ | refine ⟨_, rfl, ?_⟩ | refine ⟨rfl, ?_⟩ | intro hb | refine altA ?_ | refine altR ?_ | refine sideA ?_ | refine decTA ?_ | refine decFA ?_ | refine decNA ?_ | refine decBTA ?_ | refine decBFA ?_ | refine ⟨_, by assumption, ?_⟩ | refine ⟨_, _, _, rfl, ?_⟩ | refine WC.seq (fun K hK => ?_) | (refine hK _ _ _ ?_; clear hK K) | (refine hK _ _ _ _ rfl ?_; clear hK K) | (refine WX.thenExit (K := K) ?_; clear hK K) | (refine WX.thenExit (K := KL) ?_; clear hL KL)))
        refine (hL (.s (i + 1) hb (vs ++ [lv])) ⟨by omega, by omega⟩ (by dsimp only [St1.i]; omega)).conv (.cons rfl (.cons rfl (.cons rfl (.cons rfl (.cons rfl .nil))))) (fun w h => ?_)
        rw [List.take_length] at h
        have h0 : Sat B (rdAll (Ty.sl Ty.str) (rowsTo col row cells i) vs :: rd (Ty.sl (Ty.sl Ty.str)) cells cv :: Gf) (own 9 1 lv (l.length + 1) ((rowM row i l).map sV) :: own 27 1 hb (i + 1 + 1) (vs ++ [lv]) :: Sf) w := Sat.to (show Sat B _ (own 27 1 hb (i + 1 + 1) (vs ++ [lv]) :: own 9 1 lv (l.length + 1) ((rowM row i l).map sV) :: Sf) w from h)
        have h2 := (h0.pubRow (rowM_len row i l).symm (rowM_ok row i l (by omega) hl2)).rdAllSnoc (R := Ty.sl Ty.str) (l := rowsTo col row cells i) (a := rowM row i l) (vs := vs) (u := lv)
        rw [← rowsTo_succ col row hli] at h2
        exact (show Sat B (rdAll (Ty.sl Ty.str) (rowsTo col row cells (i + 1)) (vs ++ [lv]) :: rd (Ty.sl (Ty.sl Ty.str)) cells cv :: Gf) (own 27 1 hb (i + 1 + 1) (vs ++ [lv]) :: Sf) w from h2.to)
    · (repeat (first | refine vgo ?_ | refine ⟨_, rfl, rfl, ?_⟩ | refine ⟨_, rfl, ?_⟩ | refine ⟨rfl, ?_⟩ | intro hb | refine altA ?_ | refine altR ?_ | refine sideA ?_ | refine decTA ?_ | refine decFA ?_ | refine decNA ?_ | refine decBTA ?_ | refine decBFA ?_ | refine ⟨_, by assumption, ?_⟩ | refine ⟨_, _, _, rfl, ?_⟩ | refine WC.seq (fun K hK => ?_) | (refine hK _ _ _ ?_; clear hK K) | (refine hK _ _ _ _ rfl ?_; clear hK K) | (refine WX.thenExit (K := K) ?_; clear hK K) | (refine WX.thenExit (K := KL) ?_; clear hL KL)))
      subst hRR
      have hie : i = cells.length := by omega
      subst hie
      exact (ph v).conv (.cons rfl .nil) (fun w sw => by
        have e1 : rowsTo col row cells cells.length = rowsM col row cells := by unfold rowsTo rowsM; rw [List.take_length]
        rw [e1] at sw
        have h3 : Sat B (rd (Ty.sl (Ty.sl Ty.str)) (rowsM col row cells) v :: _) Sf w := sw.pubAll (R := Ty.sl Ty.str) (l := rowsM col row cells) (v := v) rfl rfl rfl (by unfold rowsM; rw [List.length_cons, rowsF_len])
        exact h3.to)
end Go.Qd
