/-
  The law of the journal in thought, first part: the bytes of marks and heads, the log, and what it comes to.
-/
import Derived.Test.YtffgjjhopopgcaaJp
namespace Go.Proofs.Ytffgjjhopopgcaa
set_option linter.unusedVariables false
set_option linter.unusedSimpArgs false
open Go.RowKit
set_option maxRecDepth 100000
set_option maxHeartbeats 4000000

/-! ### bytes -/
abbrev noS : ByteArray := ⟨#[]⟩
theorem manyOf_mark (n p : Nat) (hp : p < 256) : manyOf ⟨(markL n p).toArray⟩ = p := by
  unfold manyOf markL padTo markS
  rw [bOf_mk]
  have h8 := length_putB 8 n
  generalize putB 8 n = a at *
  match a, h8 with
  | [a0, a1, a2, a3, a4, a5, a6, a7], _ =>
    simp [putB]
    omega
theorem numOf_mark (n p : Nat) (hn : n < 2 ^ 64) : numOf ⟨(markL n p).toArray⟩ = n := by
  unfold numOf markL padTo markS
  rw [bOf_mk]
  have h8 := length_putB 8 n
  have e := getB_putB 8 n
  generalize putB 8 n = a at *
  match a, h8 with
  | [a0, a1, a2, a3, a4, a5, a6, a7], _ =>
    simp only [List.cons_append, List.nil_append, List.append_assoc, List.take_succ_cons, List.take_zero, List.drop_succ_cons, List.drop_zero]
    rw [e, Nat.mod_eq_of_lt (by simpa using hn)]
theorem markL_length (n p : Nat) : (markL n p).length = 512 := by
  unfold markL
  apply length_padTo
  simp [markS, length_putB]
theorem markB_size (n p : Nat) : (⟨(markL n p).toArray⟩ : ByteArray).size = 512 := by rw [mk_size, markL_length]
def headD (n : Nat) : List UInt8 := [76, 84, 48, 49] ++ putB 8 n
theorem headL_take (n : Nat) (l : List Wr) : (headL n l).take 12 = headD n := by
  unfold headL padTo headS headD
  have h8 := length_putB 8 n
  generalize putB 8 n = a at *
  match a, h8 with
  | [a0, a1, a2, a3, a4, a5, a6, a7], _ => simp
theorem headD_inj {n m : Nat} (hn : n < 2 ^ 64) (hm : m < 2 ^ 64) (h : headD n = headD m) : n = m := by
  unfold headD at h
  exact putB_inj (k := 8) (by simpa using hn) (by simpa using hm) (List.append_cancel_left h)
theorem headL_length (n : Nat) (l : List Wr) (hl : l.length ≤ 24) (hs : ∀ x ∈ l, x.data.size = 512) : (headL n l).length = 512 := by
  unfold headL
  apply length_padTo
  simp only [headS, List.length_append, length_putB, headRows_length l hs]
  simp
  omega
theorem manyOf_head (n : Nat) (l : List Wr) (hl : l.length ≤ 24) : manyOf ⟨(headL n l).toArray⟩ = l.length := by
  unfold manyOf headL padTo headS
  rw [bOf_mk]
  have h8 := length_putB 8 n
  generalize putB 8 n = a at *
  match a, h8 with
  | [a0, a1, a2, a3, a4, a5, a6, a7], _ =>
    simp [putB]
    omega
theorem logD_size (s : ByteArray) (h : s.size = 512) : (logD s).size = 512 := by
  unfold logD
  rw [mk_size, List.length_append, List.length_drop, bOf_size, h]
  rfl
theorem isD_log (s : ByteArray) : isD (logD s) = true := by
  unfold isD logD
  rw [bOf_mk]
  simp [Lib.hasPrefix, dMark]
theorem restD_log (s : ByteArray) : restD (logD s) = (bOf s).drop 4 := by
  unfold restD logD Lib.trimPrefix
  rw [bOf_mk, if_pos (by simp [Lib.hasPrefix, dMark])]
  simp [dMark]
theorem logD_take (s : ByteArray) (n : Nat) : (bOf (logD s)).take 12 ≠ headD n := by
  unfold logD headD
  rw [bOf_mk]
  simp
theorem zero_take (n : Nat) : (bOf zeroS).take 12 ≠ headD n := by
  have : (bOf zeroS).take 12 = zeros 12 := by
    unfold zeroS
    rw [bOf_mk]
    simp [zeros]
  rw [this]
  unfold headD zeros
  simp [List.replicate]
theorem mark_take (n p m : Nat) : (bOf ⟨(markL n p).toArray⟩).take 12 ≠ headD m := by
  rw [bOf_mk]
  unfold markL padTo markS headD
  simp
theorem drop_rows (l : List Wr) (r : List UInt8) (hs : ∀ x ∈ l, x.data.size = 512) : ∀ (k : Nat) (h : k < l.length), ((l.flatMap headRow ++ r).drop (8 * k)).take 8 = headRow l[k] := by
  induction l with
  | nil => intro k h; simp at h
  | cons x l ih =>
    intro k h
    have hx := headRow_length x (hs x (by simp))
    cases k with
    | zero =>
      rw [Nat.mul_zero, List.drop_zero, List.flatMap_cons, List.append_assoc, List.take_append_of_le_length (by omega), List.take_of_length_le (by omega)]
      rfl
    | succ k =>
      rw [List.flatMap_cons, List.append_assoc, show 8 * (k + 1) = (headRow x).length + 8 * k by omega, List.drop_append]
      rw [List.drop_eq_nil_of_le (by omega), List.nil_append, show (headRow x).length + 8 * k - (headRow x).length = 8 * k by omega]
      exact ih (fun y hy => hs y (List.mem_cons_of_mem _ hy)) k (by simpa using h)
theorem readWr_head (n : Nat) (l : List Wr) (hs : ∀ x ∈ l, 0 ≤ x.sec ∧ x.sec < 4294967296 ∧ x.data.size = 512) (k : Nat) (h : k < l.length) : readWr ⟨(headL n l).toArray⟩ (logD l[k].data) k = l[k] := by
  have hx := hs l[k] (List.getElem_mem h)
  have hd : ((headL n l).drop (13 + 8 * k)).take 8 = headRow l[k] := by
    unfold headL padTo headS
    have e13 : ([76, 84, 48, 49] ++ putB 8 n ++ putB 1 l.length : List UInt8).length = 13 := by simp [length_putB]
    rw [List.append_assoc, List.append_assoc, List.drop_append, List.drop_eq_nil_of_le (by omega), e13, List.nil_append, show 13 + 8 * k - 13 = 8 * k by omega]
    exact drop_rows l _ (fun x hx => (hs x hx).2.2) k h
  have h4 : ((headL n l).drop (13 + 8 * k)).take 4 = putB 4 l[k].sec.toNat := by
    have := congrArg (List.take 4) hd
    rw [List.take_take] at this
    rw [show min 4 8 = 4 from rfl] at this
    rw [this]
    unfold headRow
    rw [List.take_append_of_le_length (by rw [length_putB]; omega), List.take_of_length_le (by rw [length_putB]; omega)]
  have h5 : ((headL n l).drop (17 + 8 * k)).take 4 = (bOf l[k].data).take 4 := by
    have := congrArg (List.drop 4) hd
    rw [List.drop_take, List.drop_drop] at this
    rw [show 13 + 8 * k + 4 = 17 + 8 * k by omega, show 8 - 4 = 4 from rfl] at this
    rw [this]
    unfold headRow
    rw [List.drop_append, List.drop_eq_nil_of_le (by rw [length_putB]; omega), length_putB]
    simp
  unfold readWr
  rw [bOf_mk, h4, h5, restD_log, getB_putB]
  have e1 : (((l[k].sec.toNat % 256 ^ 4 : Nat)) : Int) = l[k].sec := by omega
  have e2 : (bOf l[k].data).take 4 ++ (bOf l[k].data).drop 4 = bOf l[k].data := List.take_append_drop _ _
  rw [e1, e2, mk_bOf]

/-! ### the log -/
def recAt (S : List ByteArray) (q n : Nat) (t : List Wr) : Prop :=
  S.getD (1 + q % 64) noS = ⟨(headL n t).toArray⟩ ∧ ∀ i (h : i < t.length), S.getD (1 + (q + 1 + i) % 64) noS = logD t[i].data
def chain (S : List ByteArray) : Nat → Nat → List (List Wr) → Prop
  | _, _, [] => True
  | q, n, t :: T => recAt S q n t ∧ chain S (q + 1 + t.length) (n + 1) T
def lenT (T : List (List Wr)) : Nat := (T.map fun t => 1 + t.length).sum
theorem lenT_cons (t : List Wr) (T : List (List Wr)) : lenT (t :: T) = 1 + t.length + lenT T := rfl
theorem lenT_snoc (T : List (List Wr)) (t : List Wr) : lenT (T ++ [t]) = lenT T + (1 + t.length) := by simp [lenT]
theorem lenT_le (T : List (List Wr)) : T.length ≤ lenT T := by
  induction T with
  | nil => simp [lenT]
  | cons t T ih => rw [lenT_cons, List.length_cons]; omega
theorem getD_set_ne (S : List ByteArray) {i j : Nat} (h : i ≠ j) (d : ByteArray) : (S.set i d).getD j noS = S.getD j noS := by
  simp [List.getD, List.getElem?_set_ne h]
theorem getD_set_eq (S : List ByteArray) {i : Nat} (h : i < S.length) (d : ByteArray) : (S.set i d).getD i noS = d := by
  simp [List.getD, h]
theorem recAt_congr {S S' : List ByteArray} {q n : Nat} {t : List Wr} (h : recAt S q n t) (he : ∀ k, k < 1 + t.length → S'.getD (1 + (q + k) % 64) noS = S.getD (1 + (q + k) % 64) noS) : recAt S' q n t := by
  refine ⟨(he 0 (by omega)).trans h.1, fun i hi => ?_⟩
  have := he (1 + i) (by omega)
  rw [← Nat.add_assoc] at this
  exact this.trans (h.2 i hi)
theorem chain_congr {S S' : List ByteArray} : ∀ (T : List (List Wr)) {q n : Nat}, chain S q n T → (∀ k, k < lenT T → S'.getD (1 + (q + k) % 64) noS = S.getD (1 + (q + k) % 64) noS) → chain S' q n T := by
  intro T
  induction T with
  | nil => intro q n _ _; trivial
  | cons t T ih =>
    intro q n h he
    rw [lenT_cons] at he
    refine ⟨recAt_congr h.1 fun k hk => he k (by omega), ih h.2 fun k hk => ?_⟩
    have := he (1 + t.length + k) (by omega)
    rwa [← Nat.add_assoc, ← Nat.add_assoc] at this
theorem chain_snoc {S : List ByteArray} : ∀ (T : List (List Wr)) {q n : Nat} {t : List Wr}, chain S q n T → recAt S (q + lenT T) (n + T.length) t → chain S q n (T ++ [t]) := by
  intro T
  induction T with
  | nil => intro q n t _ h; exact ⟨h, trivial⟩
  | cons u T ih =>
    intro q n t h hr
    refine ⟨h.1, ih h.2 ?_⟩
    rw [lenT_cons, List.length_cons] at hr
    rw [show q + 1 + u.length + lenT T = q + (1 + u.length + lenT T) by omega, show n + 1 + T.length = n + (T.length + 1) by omega]
    exact hr

structure Lg (S : List ByteArray) (n0 p0 : Nat) (T : List (List Wr)) : Prop where
  size : 73 ≤ S.length
  pl : p0 < 64
  mark : S.getD 0 noS = ⟨(markL n0 p0).toArray⟩
  chain : chain S p0 n0 T
  used : lenT T ≤ 64
  may : ∀ t ∈ T, mayW ((S.length : Int) - 65) t = true ∧ t.length ≤ 24
  stale : ∀ i, 1 ≤ i → i < 65 → ∀ m, n0 + T.length ≤ m → m < 2 ^ 63 → (bOf (S.getD i noS)).take 12 ≠ headD m

theorem Lg.congr {S S' : List ByteArray} {n0 p0 : Nat} {T : List (List Wr)} (h : Lg S n0 p0 T) (hl : S'.length = S.length) (he : ∀ i, i < 65 → S'.getD i noS = S.getD i noS) : Lg S' n0 p0 T :=
  ⟨hl ▸ h.size, h.pl, (he 0 (by omega)).trans h.mark, chain_congr T h.chain fun k hk => he _ (by omega), h.used, by rw [hl]; exact h.may, fun i h1 h2 => by rw [he i h2]; exact h.stale i h1 h2⟩
theorem Lg.set_home {S : List ByteArray} {n0 p0 : Nat} {T : List (List Wr)} (h : Lg S n0 p0 T) (i : Nat) (hi : 65 ≤ i) (d : ByteArray) : Lg (S.set i d) n0 p0 T :=
  h.congr (by simp) fun j hj => getD_set_ne S (by omega) d
theorem Lg.set_log {S : List ByteArray} {n0 p0 : Nat} {T : List (List Wr)} (h : Lg S n0 p0 T) (k : Nat) (h1 : lenT T ≤ k) (h2 : k < 64) (d : ByteArray) (hd : ∀ m, n0 + T.length ≤ m → m < 2 ^ 63 → (bOf d).take 12 ≠ headD m) : Lg (S.set (1 + (p0 + k) % 64) d) n0 p0 T := by
  have hs := h.size
  refine ⟨by simpa using h.size, h.pl, (getD_set_ne S (by omega) d).trans h.mark, chain_congr T h.chain fun j hj => getD_set_ne S (by omega) d, h.used, by simpa using h.may, fun i h3 h4 m hm hm2 => ?_⟩
  by_cases e : 1 + (p0 + k) % 64 = i
  · subst e
    rw [getD_set_eq S (by omega)]
    exact hd m hm hm2
  · rw [getD_set_ne S e]
    exact h.stale i h3 h4 m hm hm2
theorem Lg.add_head {S : List ByteArray} {n0 p0 : Nat} {T : List (List Wr)} (h : Lg S n0 p0 T) (t : List Wr) (hu : lenT T + (1 + t.length) ≤ 64) (hn : n0 + T.length < 2 ^ 63) (hm : mayW ((S.length : Int) - 65) t = true) (ht : t.length ≤ 24)
    (hd : ∀ i (hi : i < t.length), S.getD (1 + (p0 + lenT T + 1 + i) % 64) noS = logD t[i].data) : Lg (S.set (1 + (p0 + lenT T) % 64) ⟨(headL (n0 + T.length) t).toArray⟩) n0 p0 (T ++ [t]) := by
  have hs := h.size
  refine ⟨by simpa using h.size, h.pl, (getD_set_ne S (by omega) _).trans h.mark, ?_, by rw [lenT_snoc]; exact hu, ?_, fun i h3 h4 m hm hm2 => ?_⟩
  · refine chain_snoc T (chain_congr T h.chain fun j hj => getD_set_ne S (by omega) _) ⟨getD_set_eq S (by omega) _, fun i hi => ?_⟩
    rw [getD_set_ne S (by omega)]
    exact hd i hi
  · intro u hu
    rcases List.mem_append.1 hu with hu | hu
    · simpa using h.may u hu
    · simp at hu
      subst hu
      simpa using ⟨hm, ht⟩
  · simp only [List.length_append, List.length_singleton] at hm
    by_cases e : 1 + (p0 + lenT T) % 64 = i
    · subst e
      rw [getD_set_eq S (by omega), bOf_mk, headL_take]
      intro e
      have := headD_inj (by omega) (by omega) e
      omega
    · rw [getD_set_ne S e]
      exact h.stale i h3 h4 m (by omega) hm2
theorem Lg.new_mark {S : List ByteArray} {n0 p0 : Nat} {T : List (List Wr)} (h : Lg S n0 p0 T) (n p : Nat) (hn : n0 + T.length ≤ n) (hp : p < 64) : Lg (S.set 0 ⟨(markL n p).toArray⟩) n p [] := by
  have hs := h.size
  refine ⟨by simpa using h.size, hp, getD_set_eq S (by omega) _, trivial, by simp [lenT], by simp, fun i h3 h4 m hm hm2 => ?_⟩
  rw [getD_set_ne S (by omega)]
  simp only [List.length_nil] at hm
  exact h.stale i h3 h4 m (by omega) hm2

/-! ### what writes make of sectors -/
def upd : List Wr → (Nat → ByteArray) → Nat → ByteArray
  | [], U, i => U i
  | x :: l, U, i => upd l (fun j => if x.sec = j then x.data else U j) i
theorem upd_append : ∀ (l m : List Wr) (U : Nat → ByteArray) (i : Nat), upd (l ++ m) U i = upd m (upd l U) i := by
  intro l
  induction l with
  | nil => intro m U i; rfl
  | cons x l ih => intro m U i; exact ih m _ i
theorem upd_congr : ∀ (l : List Wr) {U V : Nat → ByteArray} {i : Nat}, U i = V i → upd l U i = upd l V i := by
  intro l
  induction l with
  | nil => intro U V i h; exact h
  | cons x l ih =>
    intro U V i h
    refine ih ?_
    simp only [h]
theorem upd_in : ∀ (l : List Wr) (U V : Nat → ByteArray) (i : Nat), (∃ x ∈ l, x.sec = i) → upd l U i = upd l V i := by
  intro l
  induction l with
  | nil => rintro U V i ⟨x, hx, _⟩; cases hx
  | cons x l ih =>
    rintro U V i ⟨y, hy, e⟩
    by_cases hx : x.sec = i
    · exact upd_congr l (by simp only [if_pos hx])
    · refine ih _ _ i ⟨y, ?_, e⟩
      rcases List.mem_cons.1 hy with h | h
      · exact absurd (h ▸ e) hx
      · exact h
theorem upd_out : ∀ (l : List Wr) (U : Nat → ByteArray) (i : Nat), (∀ x ∈ l, x.sec ≠ i) → upd l U i = U i := by
  intro l
  induction l with
  | nil => intro U i _; rfl
  | cons x l ih =>
    intro U i h
    refine (ih _ i fun y hy => h y (List.mem_cons_of_mem _ hy)).trans ?_
    simp only [if_neg (h x (by simp))]
def homeS (S : List ByteArray) (i : Nat) : ByteArray := S.getD (65 + i) noS

structure RecS (S : List ByteArray) (n0 p0 : Nat) (T : List (List Wr)) (U : Nat → ByteArray) : Prop where
  lg : Lg S n0 p0 T
  home : ∀ i, 65 + i < S.length → upd T.flatten (homeS S) i = U i
/-- Writes of sectors that the log writes, too. -/
def HomeT (n : Nat) (T : List (List Wr)) (L : List Wr) : Prop := ∀ x ∈ L, ∃ i : Nat, x.sec = 65 + i ∧ 65 + i < n ∧ ∃ y ∈ T.flatten, y.sec = i
theorem settle_ind (P : List ByteArray → Prop) (which : Nat → Bool) : ∀ (L : List Wr) (k : Nat) (S : List ByteArray), (∀ S x, x ∈ L → P S → P (S.set x.sec.toNat x.data)) → P S → P (Dk.settle which k L S) := by
  intro L
  induction L with
  | nil => intro k S _ h; exact h
  | cons x L ih =>
    intro k S hs h
    refine ih _ _ (fun S y hy => hs S y (List.mem_cons_of_mem _ hy)) ?_
    split
    · exact hs S x (by simp) h
    · exact h
theorem RecS.settle {S : List ByteArray} {n0 p0 : Nat} {T : List (List Wr)} {U : Nat → ByteArray} (h : RecS S n0 p0 T U) {L : List Wr} (hL : HomeT S.length T L) (which : Nat → Bool) (k : Nat) : RecS (Dk.settle which k L S) n0 p0 T U := by
  refine (settle_ind (fun S' => S'.length = S.length ∧ RecS S' n0 p0 T U) which L k S (fun S' x hx h' => ?_) ⟨rfl, h⟩).2
  obtain ⟨i, e, hi, hy⟩ := hL x hx
  have e2 : x.sec.toNat = 65 + i := by omega
  rw [e2]
  refine ⟨by simpa using h'.1, h'.2.lg.set_home _ (by omega) _, fun j hj => ?_⟩
  by_cases ej : j = i
  · subst ej
    exact (upd_in _ _ (homeS S') j hy).trans (h'.2.home j (by simpa using hj))
  · refine (upd_congr _ ?_).trans (h'.2.home j (by simpa using hj))
    exact getD_set_ne S' (by omega) _
theorem RecS.set_log {S : List ByteArray} {n0 p0 : Nat} {T : List (List Wr)} {U : Nat → ByteArray} (h : RecS S n0 p0 T U) (k : Nat) (h1 : lenT T ≤ k) (h2 : k < 64) (d : ByteArray) (hd : ∀ m, n0 + T.length ≤ m → m < 2 ^ 63 → (bOf d).take 12 ≠ headD m) : RecS (S.set (1 + (p0 + k) % 64) d) n0 p0 T U :=
  ⟨h.lg.set_log k h1 h2 d hd, fun i hi => (upd_congr _ (getD_set_ne S (by omega) _)).trans (h.home i (by simpa using hi))⟩
theorem RecS.add_head {S : List ByteArray} {n0 p0 : Nat} {T : List (List Wr)} {U : Nat → ByteArray} (h : RecS S n0 p0 T U) (t : List Wr) (hu : lenT T + (1 + t.length) ≤ 64) (hn : n0 + T.length < 2 ^ 63) (hm : mayW ((S.length : Int) - 65) t = true) (ht : t.length ≤ 24)
    (hd : ∀ i (hi : i < t.length), S.getD (1 + (p0 + lenT T + 1 + i) % 64) noS = logD t[i].data) : RecS (S.set (1 + (p0 + lenT T) % 64) ⟨(headL (n0 + T.length) t).toArray⟩) n0 p0 (T ++ [t]) (upd t U) := by
  refine ⟨h.lg.add_head t hu hn hm ht hd, fun i hi => ?_⟩
  rw [List.flatten_append, upd_append]
  simp only [List.flatten_cons, List.flatten_nil, List.append_nil]
  exact upd_congr _ ((upd_congr _ (getD_set_ne S (by omega) _)).trans (h.home i (by simpa using hi)))
theorem RecS.new_mark {S : List ByteArray} {n0 p0 : Nat} {T : List (List Wr)} {U : Nat → ByteArray} (h : Lg S n0 p0 T) (hf : ∀ i, 65 + i < S.length → homeS S i = U i) (n p : Nat) (hn : n0 + T.length ≤ n) (hp : p < 64) : RecS (S.set 0 ⟨(markL n p).toArray⟩) n p [] U :=
  ⟨h.new_mark n p hn hp, fun i hi => (getD_set_ne S (by omega) _).trans (hf i (by simpa using hi))⟩
end Go.Proofs.Ytffgjjhopopgcaa
