/-
  The law of the journal in thought, third part: what a checkpoint, a commit and a direct write leave.
-/
import Derived.Test.YtffgjjhopopgcaaJr
namespace Go.Proofs.Ytffgjjhopopgcaa
set_option linter.unusedVariables false
set_option linter.unusedSimpArgs false
open Go.RowKit
set_option maxRecDepth 100000
set_option maxHeartbeats 4000000

/-- A disk that is up, with its log, and what the journal's sectors have. -/
structure Seen (D : Dk) (n0 p0 : Nat) (T : List (List Wr)) (U : Nat → ByteArray) : Prop where
  ok : D.Ok
  up : D.down = false
  lg : Lg D.sure n0 p0 T
  home : ∀ x ∈ D.loose, ∃ i : Nat, x.sec = 65 + i ∧ 65 + i < D.sure.length
  view : ∀ i, 65 + i < D.sure.length → D.get (65 + i) = U i
  late : ∀ i, 65 + i < D.sure.length → upd T.flatten U i = U i
/-- If it may fail, what is loose stands in the log. -/
def Firm (D : Dk) (T : List (List Wr)) : Prop := D.fails = true → HomeT D.sure.length T D.loose
theorem Seen.range {D : Dk} {n0 p0 : Nat} {T : List (List Wr)} {U : Nat → ByteArray} (h : Seen D n0 p0 T U) : ∀ x ∈ D.loose, 0 ≤ x.sec ∧ x.sec < D.sure.length := fun x hx => by
  obtain ⟨i, e, hi⟩ := h.home x hx
  omega
theorem Seen.flat {D : Dk} {n0 p0 : Nat} {T : List (List Wr)} {U : Nat → ByteArray} (h : Seen D n0 p0 T U) (i : Nat) (hi : 65 + i < D.sure.length) : homeS (setL D.loose D.sure) i = U i := by
  rw [← h.view i hi, get_setL h.range _ hi]
  rfl
theorem Seen.recS {D : Dk} {n0 p0 : Nat} {T : List (List Wr)} {U : Nat → ByteArray} (h : Seen D n0 p0 T U) (hf : HomeT D.sure.length T D.loose) : RecS D.sure n0 p0 T U := by
  refine ⟨h.lg, fun i hi => ?_⟩
  by_cases hy : ∃ y ∈ T.flatten, y.sec = (i : Int)
  · exact (upd_in _ _ U i hy).trans (h.late i hi)
  · have e : homeS D.sure i = U i := by
      rw [← h.flat i hi]
      refine (setL_out _ _ _ fun x hx e => hy ?_).symm
      obtain ⟨j, e1, -, h2⟩ := hf x hx
      obtain rfl : j = i := by omega
      exact h2
    exact (upd_congr _ e).trans (h.late i hi)
theorem Lg.setL_home {n0 p0 : Nat} {T : List (List Wr)} (L : List Wr) {S : List ByteArray} (h : Lg S n0 p0 T) (hL : ∀ x ∈ L, ∃ i : Nat, x.sec = 65 + i) : Lg (setL L S) n0 p0 T := by
  refine settle_ind (fun S => Lg S n0 p0 T) _ L 0 S (fun S x hx h => ?_) h
  obtain ⟨i, e⟩ := hL x hx
  rw [e]
  exact h.set_home _ (by omega) _
/-- All of a disk is sure. -/
theorem Seen.recAll {D : Dk} {n0 p0 : Nat} {T : List (List Wr)} {U : Nat → ByteArray} (h : Seen D n0 p0 T U) : RecS (setL D.loose D.sure) n0 p0 T U := by
  refine ⟨h.lg.setL_home _ fun x hx => ?_, fun i hi => ?_⟩
  · obtain ⟨i, e, _⟩ := h.home x hx
    exact ⟨i, e⟩
  · rw [setL_length] at hi
    exact (upd_congr _ (h.flat i hi)).trans (h.late i hi)
theorem all_one (P : List ByteArray → Prop) (S : List ByteArray) (x : Wr) (h1 : P S) (h2 : P (S.set x.sec.toNat x.data)) : All P S [x] := by
  intro which
  show P (if which 0 then S.set x.sec.toNat x.data else S)
  split
  · exact h2
  · exact h1
/-- What a disk may come to that has failed. -/
def Back (U : Nat → ByteArray) (N M : Nat) (S : List ByteArray) : Prop := S.length = N ∧ ∃ n0 p0 T, RecS S n0 p0 T U ∧ n0 + T.length ≤ M

theorem ckD_law {D : Dk} {n0 p0 : Nat} {T : List (List Wr)} {U : Nat → ByteArray} (h : Seen D n0 p0 T U) (hf : Firm D T) (J : Jn) (hn : n0 + T.length ≤ J.number) (hp : J.place < 64) :
    ((J.ckD D).2 = 0 ∧ ∃ S, WentOn D (J.ckD D).1 S [] ∧ S.length = D.sure.length ∧ RecS S J.number J.place [] U) ∨ ((J.ckD D).2 = 61 ∧ Fell D (J.ckD D).1 (Back U D.sure.length J.number)) := by
  have P1 : Back U D.sure.length J.number (setL D.loose D.sure) := ⟨setL_length _ _, n0, p0, T, h.recAll, hn⟩
  have r2 : RecS ((setL D.loose D.sure).set 0 ⟨(markL J.number J.place).toArray⟩) J.number J.place [] U := RecS.new_mark h.recAll.lg (fun i hi => h.flat i (by rwa [setL_length] at hi)) _ _ hn hp
  have P2 : Back U D.sure.length J.number ((setL D.loose D.sure).set 0 ⟨(markL J.number J.place).toArray⟩) := ⟨by rw [List.length_set, setL_length], _, _, [], r2, by simp⟩
  have A := all_one _ _ ⟨((0 : Nat) : Int), ⟨(markL J.number J.place).toArray⟩⟩ P1 P2
  have hsz := h.lg.size
  unfold Jn.ckD
  rcases flush_step h.ok h.up (Back U D.sure.length J.number) (fun hfl which => ⟨Dk.settle_length _ _ _ _, n0, p0, T, (h.recS (hf hfl)).settle (hf hfl) which 0, hn⟩) with ⟨h1, h2⟩ | ⟨h1, h2⟩
  · rw [step_go _ h1]
    have e0 : D.flush.1.write 0 ⟨(markL J.number J.place).toArray⟩ = D.flush.1.write ((0 : Nat) : Int) ⟨(markL J.number J.place).toArray⟩ := rfl
    rw [e0]
    rcases write_step h2.ok h2.up 0 ⟨(markL J.number J.place).toArray⟩ (by rw [h2.sure, setL_length]; omega) (markB_size _ _) (by rw [h2.loose]; decide) (Back U D.sure.length J.number) (fun _ => by rw [h2.sure, h2.loose]; exact A) with ⟨h3, h4⟩ | ⟨h3, h4⟩
    · rw [step_go _ h3]
      rcases flush_step h4.ok h4.up (Back U D.sure.length J.number) (fun _ => by rw [h4.sure, h4.loose, h2.sure, h2.loose]; exact A) with ⟨h5, h6⟩ | ⟨h5, h6⟩
      · refine .inl ⟨h5, _, (h2.trans h4).trans h6, ?_, ?_⟩
        · rw [setL_length, h4.sure, h2.sure, setL_length]
        · rw [h4.loose, h4.sure, h2.sure, h2.loose]
          exact r2
      · exact .inr ⟨h5, (h2.trans h4).fell h6⟩
    · rw [step_stop _ (by rw [h3]; decide)]
      exact .inr ⟨h3, h2.fell h4⟩
  · rw [step_stop (r := D.flush) _ (by rw [h1]; decide), step_stop (r := D.flush) _ (by rw [h1]; decide)]
    exact .inr ⟨h1, h2⟩
/-- A disk of which all is sure. -/
theorem RecS.seen {D : Dk} {S : List ByteArray} {n0 p0 : Nat} {U : Nat → ByteArray} (h : RecS S n0 p0 [] U) (ok : D.Ok) (up : D.down = false) (hs : D.sure = S) (hl : D.loose = []) : Seen D n0 p0 [] U := by
  subst hs
  refine ⟨ok, up, h.lg, by simp [hl], fun i hi => ?_, fun i hi => rfl⟩
  rw [get_setL (by simp [hl]) _ hi, hl]
  exact h.home i hi

/-- A journal that is open, of a disk. -/
structure Live (J : Jn) (D : Dk) (n0 p0 : Nat) (T : List (List Wr)) (U : Nat → ByteArray) : Prop extends Seen D n0 p0 T U where
  starts : D.starts = J.starts
  number : J.number = n0 + T.length
  place : J.place = (p0 + lenT T) % 64
  used : J.used = lenT T
  since : J.since = T.flatten.map (·.sec)
theorem Live.over {J : Jn} {D : Dk} {n0 p0 : Nat} {T : List (List Wr)} {U : Nat → ByteArray} (h : Live J D n0 p0 T U) : J.over D = 0 := by
  unfold Jn.over
  rw [if_neg (by simp [h.up, h.starts])]
theorem checkpoint_law {J : Jn} {D : Dk} {n0 p0 : Nat} {T : List (List Wr)} {U : Nat → ByteArray} (h : Live J D n0 p0 T U) (hf : Firm D T) :
    ((J.checkpoint D).2.2 = 0 ∧ (J.checkpoint D).1 = J.emptied ∧ Live J.emptied (J.checkpoint D).2.1 J.number J.place [] U ∧ (J.checkpoint D).2.1.loose = [] ∧ (J.checkpoint D).2.1.fails = D.fails ∧ (J.checkpoint D).2.1.sure.length = D.sure.length ∧ (J.checkpoint D).2.1.starts = D.starts) ∨
    ((J.checkpoint D).2.2 = 61 ∧ Fell D (J.checkpoint D).2.1 (Back U D.sure.length J.number) ∧ (J.checkpoint D).1 = J) := by
  have hp : J.place < 64 := by have := h.place; omega
  rcases ckD_law h.toSeen hf J (Nat.le_of_eq h.number.symm) hp with ⟨h1, S, h2, h3, h4⟩ | ⟨h1, h2⟩
  · rw [checkpoint_good J D h1]
    refine .inl ⟨rfl, rfl, ⟨h4.seen h2.ok h2.up h2.sure h2.loose, h2.starts.trans h.starts, rfl, ?_, rfl, rfl⟩, h2.loose, h2.fails, by rw [h2.sure, h3], h2.starts⟩
    show J.place = (J.place + 0) % 64
    omega
  · rw [checkpoint_bad J D _ rfl (by rw [h1]; decide)]
    exact .inr ⟨h1, h2, rfl⟩

/-! ### a commit -/
theorem logs_mem : ∀ (l : List Wr) (q : Nat), ∀ x ∈ logs q l, ∃ i, ∃ h : i < l.length, x.sec = ((1 + (q + i) % 64 : Nat) : Int) ∧ x.data = logD l[i].data := by
  intro l
  induction l with
  | nil => intro q x hx; cases hx
  | cons y l ih =>
    intro q x hx
    rcases List.mem_cons.1 hx with h | h
    · subst h
      exact ⟨0, by simp, rfl, rfl⟩
    · obtain ⟨i, hi, h1, h2⟩ := ih (q + 1) x h
      refine ⟨i + 1, by simpa using hi, ?_, by simpa using h2⟩
      rw [h1, show q + 1 + i = q + (i + 1) by omega]
theorem logs_get (S : List ByteArray) (hS : 65 ≤ S.length) : ∀ (l : List Wr) (q : Nat) (S' : List ByteArray), S'.length = S.length → l.length ≤ 64 → ∀ i (h : i < l.length), (setL (logs q l) S').getD (1 + (q + i) % 64) noS = logD l[i].data := by
  intro l
  induction l with
  | nil => intro q S' _ _ i h; simp at h
  | cons y l ih =>
    intro q S' hl hle i h
    simp only [List.length_cons] at hle
    rw [logs, setL_cons]
    cases i with
    | zero =>
      rw [setL_out _ _ _ fun x hx => ?_]
      · show ((S'.set ((1 + q % 64 : Nat) : Int).toNat (logD y.data)).getD (1 + q % 64) noS) = _
        rw [Int.toNat_natCast, getD_set_eq _ (by omega)]
        rfl
      · obtain ⟨j, hj, h1, -⟩ := logs_mem l (q + 1) x hx
        rw [h1]
        omega
    | succ i =>
      have := ih (q + 1) (S'.set ((1 + q % 64 : Nat) : Int).toNat (logD y.data)) (by simpa using hl) (by omega) i (by simpa using h)
      rw [show q + (i + 1) = q + 1 + i by omega]
      exact this
theorem home_mem (l : List Wr) (x : Wr) (hx : x ∈ home l) : ∃ y ∈ l, x.sec = 65 + y.sec ∧ x.data = y.data := by
  obtain ⟨y, hy, rfl⟩ := List.mem_map.1 hx
  exact ⟨y, hy, rfl, rfl⟩
theorem setL_homes : ∀ (l : List Wr) (S : List ByteArray) (i : Nat), (∀ x ∈ l, 0 ≤ x.sec) → 65 + i < S.length → homeS (setL (home l) S) i = upd l (homeS S) i := by
  intro l
  induction l with
  | nil => intro S i _ _; rfl
  | cons x l ih =>
    intro S i h hi
    have hx := h x (by simp)
    show homeS (setL (⟨65 + x.sec, x.data⟩ :: home l) S) i = upd l _ i
    rw [setL_cons, ih _ i (fun y hy => h y (List.mem_cons_of_mem _ hy)) (by simpa using hi)]
    refine upd_congr l ?_
    unfold homeS
    by_cases e : x.sec = (i : Int)
    · rw [if_pos e, show (65 + x.sec).toNat = 65 + i by omega, getD_set_eq _ hi]
    · rw [if_neg e, getD_set_ne _ (by show (65 + x.sec).toNat ≠ _; omega)]
theorem wSec {n : Int} {l : List Wr} (h : mayW n l = true) : ∀ x ∈ l, 0 ≤ x.sec ∧ x.sec < n ∧ x.data.size = 512 := ((mayW_iff n l).1 h).1
/-- The late part of what is committed. -/
theorem late_snoc {T : List (List Wr)} {t : List Wr} {U : Nat → ByteArray} {i : Nat} (h : upd T.flatten U i = U i) : upd (T ++ [t]).flatten (upd t U) i = upd t U i := by
  rw [List.flatten_append, upd_append]
  simp only [List.flatten_cons, List.flatten_nil, List.append_nil]
  by_cases e : ∃ x ∈ t, x.sec = (i : Int)
  · exact upd_in _ _ _ i e
  · have e2 : upd t U i = U i := upd_out _ _ _ fun x hx h => e ⟨x, hx, h⟩
    refine upd_congr _ ?_
    exact (upd_congr _ e2).trans h

theorem commitD_law {J : Jn} {D : Dk} {n0 p0 : Nat} {T : List (List Wr)} {U : Nat → ByteArray} (h : Live J D n0 p0 T U) (hf : Firm D T) (l : List Wr) (hl : l.length ≤ 24) (hm : mayW (Jn.size D) l = true) (hu : lenT T + (1 + l.length) ≤ 64)
    (hn : J.number + 1 < 2 ^ 62) (hmany : D.loose.length < 1000000000) :
    ((J.commitD l D).2 = 0 ∧ Live (J.added l) (J.commitD l D).1 n0 p0 (T ++ [l]) (upd l U) ∧ (J.commitD l D).1.loose = home l ∧ (J.commitD l D).1.fails = D.fails ∧ (J.commitD l D).1.sure.length = D.sure.length ∧ (J.commitD l D).1.starts = D.starts) ∨
    ((J.commitD l D).2 = 61 ∧ Fell D (J.commitD l D).1 (fun S => Back U D.sure.length (J.number + 1) S ∨ Back (upd l U) D.sure.length (J.number + 1) S)) := by
  have hw := wSec hm
  have hsz := h.lg.size
  have hpl := h.place
  have hp0 := h.lg.pl
  unfold Jn.size at hm hw
  have ep : ∀ i, (J.place + 1 + i) % 64 = (p0 + (lenT T + 1 + i)) % 64 := fun i => by omega
  have B1 : ∀ {S}, S.length = D.sure.length → RecS S n0 p0 T U → Back U D.sure.length (J.number + 1) S ∨ Back (upd l U) D.sure.length (J.number + 1) S := fun e r => .inl ⟨e, n0, p0, T, r, by have := h.number; omega⟩
  have B2 : ∀ {S}, S.length = D.sure.length → RecS S n0 p0 (T ++ [l]) (upd l U) → Back U D.sure.length (J.number + 1) S ∨ Back (upd l U) D.sure.length (J.number + 1) S := fun e r => .inr ⟨e, n0, p0, T ++ [l], r, by have := h.number; simp; omega⟩
  -- data
  have dataS : ∀ S, S.length = D.sure.length → RecS S n0 p0 T U → ∀ x ∈ logs (J.place + 1) l, RecS (S.set x.sec.toNat x.data) n0 p0 T U := fun S _ r x hx => by
    obtain ⟨i, hi, e1, e2⟩ := logs_mem l _ x hx
    rw [e1, e2, Int.toNat_natCast, ep i]
    exact r.set_log _ (by omega) (by omega) _ fun m _ _ => logD_take _ m
  have homeR : D.fails = true → ∀ S, S.length = D.sure.length → RecS S n0 p0 T U → ∀ x ∈ D.loose, RecS (S.set x.sec.toNat x.data) n0 p0 T U := fun hfl S e r x hx => by
    have := r.settle (L := [x]) (fun y hy => by simp at hy; subst hy; rw [e]; exact hf hfl _ hx) (fun _ => true) 0
    exact this
  have A1 : D.fails = true → ∀ k, All (fun S => Back U D.sure.length (J.number + 1) S ∨ Back (upd l U) D.sure.length (J.number + 1) S) D.sure (D.loose ++ (logs (J.place + 1) l).take k) := fun hfl k which => by
    have := settle_ind (fun S => S.length = D.sure.length ∧ RecS S n0 p0 T U) which (D.loose ++ (logs (J.place + 1) l).take k) 0 D.sure (fun S x hx hS => ⟨by simpa using hS.1, by
      rcases List.mem_append.1 hx with hx | hx
      · exact homeR hfl S hS.1 hS.2 x hx
      · exact dataS S hS.1 hS.2 x (List.mem_of_mem_take hx)⟩) ⟨rfl, h.recS (hf hfl)⟩
    exact B1 this.1 this.2
  -- after the flush
  have hS1 : setL (D.loose ++ logs (J.place + 1) l) D.sure = setL (logs (J.place + 1) l) (setL D.loose D.sure) := setL_append _ _ _
  generalize eS1 : setL (D.loose ++ logs (J.place + 1) l) D.sure = S1 at *
  have l1 : S1.length = D.sure.length := by rw [← eS1, setL_length]
  have r1 : RecS S1 n0 p0 T U := by
    rw [hS1]
    have := settle_ind (fun S => S.length = D.sure.length ∧ RecS S n0 p0 T U) (fun _ => true) (logs (J.place + 1) l) 0 (setL D.loose D.sure) (fun S x hx hS => ⟨by simpa using hS.1, dataS S hS.1 hS.2 x hx⟩) ⟨setL_length _ _, h.recAll⟩
    exact this.2
  have g1 : ∀ i (hi : i < l.length), S1.getD (1 + (p0 + lenT T + 1 + i) % 64) noS = logD l[i].data := fun i hi => by
    have := logs_get D.sure (by omega) l (J.place + 1) (setL D.loose D.sure) (setL_length _ _) (by omega) i hi
    rw [← hS1, ep i, show p0 + (lenT T + 1 + i) = p0 + lenT T + 1 + i by omega] at this
    exact this
  have f1 : ∀ i, 65 + i < D.sure.length → homeS S1 i = U i := fun i hi => by
    rw [hS1, ← h.flat i hi]
    refine setL_out _ _ _ fun x hx => ?_
    obtain ⟨j, hj, e1, -⟩ := logs_mem l _ x hx
    rw [e1]
    omega
  have hpm : J.place % 64 = (p0 + lenT T) % 64 := by omega
  have r2 : RecS (S1.set (1 + J.place % 64) ⟨(headL J.number l).toArray⟩) n0 p0 (T ++ [l]) (upd l U) := by
    rw [h.number, hpm]
    exact r1.add_head l hu (by have := h.number; omega) (by rw [l1]; exact hm) hl g1
  generalize eS2 : S1.set (1 + J.place % 64) ⟨(headL J.number l).toArray⟩ = S2 at *
  have l2 : S2.length = D.sure.length := by rw [← eS2, List.length_set, l1]
  have A2 : All (fun S => Back U D.sure.length (J.number + 1) S ∨ Back (upd l U) D.sure.length (J.number + 1) S) S1 ([] ++ [⟨((1 + J.place % 64 : Nat) : Int), ⟨(headL J.number l).toArray⟩⟩]) := by
    refine all_one _ _ _ (B1 l1 r1) ?_
    rw [Int.toNat_natCast, eS2]
    exact B2 l2 r2
  have hT : HomeT D.sure.length (T ++ [l]) (home l) := fun x hx => by
    obtain ⟨y, hy, e1, e2⟩ := home_mem l x hx
    have hy2 := hw y hy
    exact ⟨y.sec.toNat, by omega, by omega, y, by simp [hy], by omega⟩
  have hB : ∀ x ∈ home l, 0 ≤ x.sec ∧ x.sec < S2.length ∧ x.data.size = 512 := fun x hx => by
    obtain ⟨y, hy, e1, e2⟩ := home_mem l x hx
    have hy2 := hw y hy
    rw [e2, e1, l2]
    exact ⟨by omega, by omega, hy2.2.2⟩
  have hhl : (home l).length = l.length := by simp [home]
  -- the steps
  unfold Jn.commitD
  rcases writes_step _ (logs (J.place + 1) l) h.ok h.up (fun x hx => by
      obtain ⟨j, hj, e1, e2⟩ := logs_mem l _ x hx
      rw [e1, e2]
      exact ⟨by omega, by omega, logD_size _ (hw _ (List.getElem_mem hj)).2.2⟩) (by rw [logs_length]; omega) A1 with ⟨a1, a2⟩ | ⟨a1, a2⟩
  · rw [step_go (r := Dk.writes (logs (J.place + 1) l) D) _ a1]
    generalize (Dk.writes (logs (J.place + 1) l) D).1 = D1 at *
    rcases flush_step a2.ok a2.up _ (fun hfl => by
      rw [a2.sure, a2.loose]
      have := A1 (a2.fails ▸ hfl) l.length
      rwa [List.take_of_length_le (by rw [logs_length]; exact Nat.le_refl _)] at this) with ⟨b1, b2⟩ | ⟨b1, b2⟩
    · rw [step_go (r := D1.flush) _ b1]
      rw [a2.sure, a2.loose, eS1] at b2
      generalize D1.flush.1 = D2 at *
      rcases write_step b2.ok b2.up (1 + J.place % 64) ⟨(headL J.number l).toArray⟩ (by rw [b2.sure, l1]; omega) (by rw [mk_size]; exact headL_length _ _ hl fun x hx => (hw x hx).2.2) (by rw [b2.loose]; decide) _ (fun _ => by rw [b2.sure, b2.loose]; exact A2) with ⟨c1, c2⟩ | ⟨c1, c2⟩
      · rw [step_go (r := D2.write _ _) _ c1]
        rw [b2.sure, b2.loose] at c2
        generalize (D2.write ((1 + J.place % 64 : Nat) : Int) ⟨(headL J.number l).toArray⟩).1 = D3 at *
        rcases flush_step c2.ok c2.up _ (fun _ => by rw [c2.sure, c2.loose]; exact A2) with ⟨d1, d2⟩ | ⟨d1, d2⟩
        · rw [step_go (r := D3.flush) _ d1]
          have e3 : setL D3.loose D3.sure = S2 := by
            rw [c2.sure, c2.loose, ← eS2]
            rfl
          rw [e3] at d2
          generalize D3.flush.1 = D4 at *
          rcases writes_step (fun S => Back U D.sure.length (J.number + 1) S ∨ Back (upd l U) D.sure.length (J.number + 1) S) (home l) d2.ok d2.up (by rw [d2.sure]; exact hB) (by rw [d2.loose, hhl]; simp; omega) (fun _ k which => by
            rw [d2.sure, d2.loose, List.nil_append]
            refine B2 (by rw [Dk.settle_length]; exact l2) (r2.settle (fun x hx => ?_) which 0)
            rw [l2]
            exact hT x (List.mem_of_mem_take hx)) with ⟨e1, e2⟩ | ⟨e1, e2⟩
          · rw [d2.sure, d2.loose, List.nil_append] at e2
            generalize (Dk.writes (home l) D4).1 = D5 at *
            have t := ((((a2.trans b2).trans c2).trans d2).trans e2)
            have sn : Seen D5 n0 p0 (T ++ [l]) (upd l U) := by
              have hr : ∀ x ∈ D5.loose, 0 ≤ x.sec ∧ x.sec < D5.sure.length := fun x hx => by
                rw [e2.loose] at hx
                rw [e2.sure]
                exact ⟨(hB x hx).1, (hB x hx).2.1⟩
              refine ⟨e2.ok, e2.up, by rw [e2.sure]; exact r2.lg, fun x hx => ?_, fun i hi => ?_, fun i hi => ?_⟩
              · rw [e2.loose] at hx
                rw [e2.sure, l2]
                obtain ⟨i, h1, h2, _⟩ := hT x hx
                exact ⟨i, h1, h2⟩
              · rw [get_setL hr _ hi, e2.sure, e2.loose]
                rw [e2.sure] at hi
                refine (setL_homes l S2 i (fun x hx => (hw x hx).1) hi).trans (upd_congr _ ?_)
                rw [← f1 i (by rw [← l2]; exact hi), ← eS2]
                exact getD_set_ne _ (by omega) _
              · exact late_snoc (h.late i (by rw [e2.sure, l2] at hi; exact hi))
            refine .inl ⟨e1, ⟨sn, t.starts.trans h.starts, ?_, ?_, ?_, ?_⟩, e2.loose, t.fails, by rw [e2.sure, l2], t.starts⟩
            · show J.number + 1 = _
              rw [h.number]
              simp
              omega
            · show (J.place + 1 + l.length) % 64 = _
              rw [lenT_snoc]
              omega
            · show J.used + (1 + l.length) = _
              rw [lenT_snoc, h.used]
            · show J.since ++ l.map (·.sec) = _
              rw [h.since]
              simp
          · exact .inr ⟨e1, (((a2.trans b2).trans c2).trans d2).fell e2⟩
        · rw [step_stop (r := D3.flush) _ (by rw [d1]; decide)]
          exact .inr ⟨d1, ((a2.trans b2).trans c2).fell d2⟩
      · rw [step_stop (r := D2.write _ _) _ (by rw [c1]; decide), step_stop (r := D2.write _ _) _ (by rw [c1]; decide)]
        exact .inr ⟨c1, (a2.trans b2).fell c2⟩
    · rw [step_stop (r := D1.flush) _ (by rw [b1]; decide), step_stop (r := D1.flush) _ (by rw [b1]; decide), step_stop (r := D1.flush) _ (by rw [b1]; decide)]
      exact .inr ⟨b1, a2.fell b2⟩
  · rw [step_stop (r := Dk.writes (logs (J.place + 1) l) D) _ (by rw [a1]; decide), step_stop (r := Dk.writes (logs (J.place + 1) l) D) _ (by rw [a1]; decide), step_stop (r := Dk.writes (logs (J.place + 1) l) D) _ (by rw [a1]; decide), step_stop (r := Dk.writes (logs (J.place + 1) l) D) _ (by rw [a1]; decide)]
    exact .inr ⟨a1, a2⟩
end Go.Proofs.Ytffgjjhopopgcaa
