/-
  The law of the journal in thought, fourth part: what a Commit, a Direct and an Open come to, whole.
-/
import Derived.Test.YtffgjjhopopgcaaJs
namespace Go.Proofs.Ytffgjjhopopgcaa
set_option linter.unusedVariables false
set_option linter.unusedSimpArgs false
open Go.RowKit
set_option maxRecDepth 100000
set_option maxHeartbeats 4000000

/-! ### a commit, whole -/
theorem home_length (l : List Wr) : (home l).length = l.length := by simp [home]
theorem HomeT.ofHome {n : Nat} {T : List (List Wr)} {l : List Wr} (hw : ∀ x ∈ l, 0 ≤ x.sec ∧ x.sec < (n : Int) - 65) : HomeT n (T ++ [l]) (home l) := fun x hx => by
  obtain ⟨y, hy, e1, e2⟩ := home_mem l x hx
  have hy2 := hw y hy
  exact ⟨y.sec.toNat, by omega, by omega, y, by simp [hy], by omega⟩
theorem HomeT.nil (n : Nat) (T : List (List Wr)) : HomeT n T [] := fun x hx => by cases hx
theorem check_zero {D : Dk} {l : List Wr} (hm : mayW (Jn.size D) l = true) : Jn.check D l = 0 := by unfold Jn.check; rw [if_pos hm]

/-- What a commit comes to. -/
structure Done (J : Jn) (D : Dk) (U : Nat → ByteArray) (J' : Jn) (D' : Dk) : Prop where
  live : ∃ n0 p0 T, Live J' D' n0 p0 T U ∧ HomeT D'.sure.length T D'.loose
  fails : D'.fails = D.fails
  size : D'.sure.length = D.sure.length
  starts : D'.starts = D.starts

theorem commit_law {J : Jn} {D : Dk} {n0 p0 : Nat} {T : List (List Wr)} {U : Nat → ByteArray} (h : Live J D n0 p0 T U) (hf : Firm D T) (l : List Wr) (hl : l.length ≤ 24) (hm : mayW (Jn.size D) l = true)
    (hn : J.number + 1 < 2 ^ 62) (hmany : D.loose.length < 1000000000) :
    ((J.commit l D).2.2 = 0 ∧ Done J D (upd l U) (J.commit l D).1 (J.commit l D).2.1 ∧ (J.commit l D).1.number = J.number + 1 ∧ (J.commit l D).2.1.loose = home l) ∨
    ((J.commit l D).2.2 = 61 ∧ Fell D (J.commit l D).2.1 (fun S => Back U D.sure.length (J.number + 1) S ∨ Back (upd l U) D.sure.length (J.number + 1) S)) := by
  have ho := h.over
  have hc := check_zero hm
  have main : ∀ (J1 : Jn) (D1 : Dk) (n1 p1 : Nat) (T1 : List (List Wr)), J.roomed l D = (J1, D1, 0) → Live J1 D1 n1 p1 T1 U → Firm D1 T1 → J1.number = J.number → D1.sure.length = D.sure.length → D1.fails = D.fails → D1.starts = D.starts → lenT T1 + (1 + l.length) ≤ 64 → D1.loose.length < 1000000000 →
      ((J.commit l D).2.2 = 0 ∧ Done J D (upd l U) (J.commit l D).1 (J.commit l D).2.1 ∧ (J.commit l D).1.number = J.number + 1 ∧ (J.commit l D).2.1.loose = home l) ∨
      ((J.commit l D).2.2 = 61 ∧ Fell D (J.commit l D).2.1 (fun S => Back U D.sure.length (J.number + 1) S ∨ Back (upd l U) D.sure.length (J.number + 1) S)) := by
    intro J1 D1 n1 p1 T1 hr hL hF en es ef et hu hlo
    have hm1 : mayW (Jn.size D1) l = true := by unfold Jn.size at *; rw [es]; exact hm
    have e : J.commit l D = if (J1.commitD l D1).2 ≠ 0 then (J1, (J1.commitD l D1).1, (J1.commitD l D1).2) else (J1.added l, (J1.commitD l D1).1, 0) := by
      unfold Jn.commit
      rw [if_neg (by simp [ho]), if_neg (by omega), if_neg (by simp [hc])]
      simp only [hr]
      rw [if_neg (by simp)]
    rw [e]
    rcases commitD_law hL hF l hl hm1 hu (by rw [en]; exact hn) hlo with ⟨h1, h2, h3, h4, h5, h6⟩ | ⟨h1, h2⟩
    · rw [if_neg (by simp [h1])]
      refine .inl ⟨rfl, ⟨⟨n1, p1, _, h2, ?_⟩, h4.trans ef, h5.trans es, h6.trans et⟩, by show J1.number + 1 = _; rw [en], h3⟩
      show HomeT (J1.commitD l D1).1.sure.length _ (J1.commitD l D1).1.loose
      rw [h3]
      refine HomeT.ofHome fun x hx => ?_
      have := wSec hm1 x hx
      unfold Jn.size at this
      rw [h5]
      omega
    · rw [if_pos (by rw [h1]; decide)]
      refine .inr ⟨h1, ?_⟩
      rw [es, en] at h2
      exact ⟨ef ▸ h2.failing, h2.ok, h2.down, h2.sure, h2.loose, h2.starts.trans et, h2.fails⟩
  by_cases hroom : 64 - (J.used : Int) < 1 + (l.length : Int)
  · have hrm : J.roomed l D = J.checkpoint D := if_pos hroom
    rcases checkpoint_law h hf with ⟨h1, h2, h3, h4, h5, h6, h7⟩ | ⟨h1, h2, h3⟩
    · refine main J.emptied (J.checkpoint D).2.1 J.number J.place [] (by rw [hrm]; exact Prod.ext h2 (Prod.ext rfl h1)) h3 (fun _ => by rw [h4]; exact HomeT.nil _ _) rfl h6 h5 h7 (by simp [lenT]; omega) (by rw [h4]; decide)
    · have e : J.commit l D = J.checkpoint D := by
        unfold Jn.commit
        rw [if_neg (by simp [ho]), if_neg (by omega), if_neg (by simp [hc])]
        simp only [hrm]
        rw [if_pos (by rw [h1]; decide)]
      rw [e]
      exact .inr ⟨h1, h2.mono fun S hS => .inl ⟨hS.1, by obtain ⟨n, p, T, r, hle⟩ := hS.2; exact ⟨n, p, T, r, by omega⟩⟩⟩
  · have hrm : J.roomed l D = (J, D, 0) := if_neg hroom
    exact main J D n0 p0 T hrm h hf rfl rfl rfl rfl (by have := h.used; omega) hmany

/-! ### a direct write, of a disk that does not fail -/
theorem writes_fine (l : List Wr) {D : Dk} (ok : D.Ok) (up : D.down = false) (hf : D.fails = false) (hl : ∀ x ∈ l, 0 ≤ x.sec ∧ x.sec < D.sure.length ∧ x.data.size = 512) (hm : D.loose.length + l.length < 1000000000000) :
    (Dk.writes l D).2 = 0 ∧ WentOn D (Dk.writes l D).1 D.sure (D.loose ++ l) := by
  rcases writes_step (fun _ => False) l ok up hl hm (fun h => by rw [hf] at h; cases h) with h | ⟨_, h⟩
  · exact h
  · have := h.failing
    rw [hf] at this
    cases this
theorem direct_law {J : Jn} {D : Dk} {n0 p0 : Nat} {T : List (List Wr)} {U : Nat → ByteArray} (h : Live J D n0 p0 T U) (hf : D.fails = false) (l : List Wr) (hm : mayW (Jn.size D) l = true) (hmany : D.loose.length + l.length < 1000000000) :
    (J.direct l D).2.2 = 0 ∧ (∃ n1 p1 T1, Live (J.direct l D).1 (J.direct l D).2.1 n1 p1 T1 (upd l U)) ∧ (J.direct l D).2.1.fails = false ∧ (J.direct l D).2.1.sure.length = D.sure.length ∧ (J.direct l D).2.1.starts = D.starts ∧
      (J.direct l D).1.number = J.number ∧ (J.direct l D).2.1.loose.length ≤ D.loose.length + l.length := by
  have ho := h.over
  have hc := check_zero hm
  have hw := wSec hm
  unfold Jn.size at hw
  have main : ∀ (J1 : Jn) (D1 : Dk) (n1 p1 : Nat) (T1 : List (List Wr)), (if (l.any fun x => decide (x.sec ∈ J.since)) then J.checkpoint D else (J, D, 0)) = (J1, D1, 0) → Live J1 D1 n1 p1 T1 U → D1.fails = false → J1.number = J.number → D1.sure.length = D.sure.length → D1.starts = D.starts → D1.loose.length ≤ D.loose.length → (∀ x ∈ l, ∀ y ∈ T1.flatten, x.sec ≠ y.sec) →
      (J.direct l D).2.2 = 0 ∧ (∃ n1 p1 T1, Live (J.direct l D).1 (J.direct l D).2.1 n1 p1 T1 (upd l U)) ∧ (J.direct l D).2.1.fails = false ∧ (J.direct l D).2.1.sure.length = D.sure.length ∧ (J.direct l D).2.1.starts = D.starts ∧
      (J.direct l D).1.number = J.number ∧ (J.direct l D).2.1.loose.length ≤ D.loose.length + l.length := by
    intro J1 D1 n1 p1 T1 hr hL hF en es et hlo hd
    have e : J.direct l D = (J1, (Dk.writes (home l) D1).1, (Dk.writes (home l) D1).2) := by
      unfold Jn.direct
      rw [if_neg (by simp [ho]), if_neg (by simp [hc])]
      simp only [hr]
      rw [if_neg (by simp)]
    have hhl : (home l).length = l.length := by simp [home]
    have hB : ∀ x ∈ home l, 0 ≤ x.sec ∧ x.sec < D1.sure.length ∧ x.data.size = 512 := fun x hx => by
      obtain ⟨y, hy, e1, e2⟩ := home_mem l x hx
      have hy2 := hw y hy
      rw [e2, e1, es]
      exact ⟨by omega, by omega, hy2.2.2⟩
    obtain ⟨h1, h2⟩ := writes_fine (home l) hL.ok hL.up hF hB (by rw [hhl]; omega)
    rw [e]
    generalize (Dk.writes (home l) D1).1 = D2 at *
    have hr2 : ∀ x ∈ D2.loose, 0 ≤ x.sec ∧ x.sec < D2.sure.length := fun x hx => by
      rw [h2.sure]
      rw [h2.loose] at hx
      rcases List.mem_append.1 hx with hx | hx
      · exact hL.range x hx
      · exact ⟨(hB x hx).1, (hB x hx).2.1⟩
    refine ⟨h1, ⟨n1, p1, T1, ⟨⟨h2.ok, h2.up, by rw [h2.sure]; exact hL.lg, fun x hx => ?_, fun i hi => ?_, fun i hi => ?_⟩, h2.starts.trans hL.starts, hL.number, hL.place, hL.used, hL.since⟩⟩, h2.fails.trans hF, by show D2.sure.length = _; rw [h2.sure, es], h2.starts.trans et, en, ?_⟩
    · rw [h2.loose] at hx
      rw [h2.sure]
      rcases List.mem_append.1 hx with hx | hx
      · exact hL.home x hx
      · obtain ⟨y, hy, e1, e2⟩ := home_mem l x hx
        have hy2 := hw y hy
        exact ⟨y.sec.toNat, by omega, by omega⟩
    · rw [get_setL hr2 _ hi, h2.sure, h2.loose, setL_append]
      rw [h2.sure] at hi
      refine (setL_homes l _ i (fun x hx => (hw x hx).1) (by rw [setL_length]; exact hi)).trans (upd_congr _ ?_)
      exact hL.toSeen.flat i hi
    · rw [h2.sure] at hi
      by_cases hy : ∃ y ∈ T1.flatten, y.sec = (i : Int)
      · have e3 : upd l U i = U i := upd_out _ _ _ fun x hx ex => by
          obtain ⟨y, hy1, hy2⟩ := hy
          exact hd x hx y hy1 (by omega)
        rw [e3, ← hL.late i hi]
        exact upd_congr _ e3
      · exact upd_out _ _ _ fun x hx ex => hy ⟨x, hx, ex⟩
    · show D2.loose.length ≤ _
      rw [h2.loose, List.length_append, hhl]
      omega
  by_cases hany : (l.any fun x => decide (x.sec ∈ J.since)) = true
  · rcases checkpoint_law h (fun hfl => by rw [hf] at hfl; cases hfl) with ⟨h1, h2, h3, h4, h5, h6, h7⟩ | ⟨h1, h2, h3⟩
    · exact main J.emptied (J.checkpoint D).2.1 J.number J.place [] (by rw [if_pos hany]; exact Prod.ext h2 (Prod.ext rfl h1)) h3 (h5.trans hf) rfl h6 h7 (by rw [h4]; simp) (by simp)
    · have := h2.failing
      rw [hf] at this
      cases this
  · refine main J D n0 p0 T (by rw [if_neg hany]) h hf rfl rfl rfl (Nat.le_refl _) fun x hx y hy e => hany ?_
    rw [List.any_eq_true]
    refine ⟨x, hx, ?_⟩
    rw [decide_eq_true_eq, h.since, e]
    exact List.mem_map_of_mem hy

/-! ### an Open -/
theorem get_low {D : Dk} (hl : ∀ x ∈ D.loose, ∃ i : Nat, x.sec = 65 + i ∧ 65 + i < D.sure.length) (i : Nat) (hi : i < 65) (hs : 65 ≤ D.sure.length) : D.get i = D.sure.getD i noS := by
  rw [get_setL (fun x hx => by obtain ⟨j, e, h⟩ := hl x hx; omega) i (by omega)]
  exact setL_out _ _ _ fun x hx e => by
    obtain ⟨j, e2, h⟩ := hl x hx
    omega
theorem chain_get {S : List ByteArray} : ∀ (T : List (List Wr)) {q n : Nat} (k : Nat), chain S q n T → ∀ h : k < T.length, recAt S (q + lenT (T.take k)) (n + k) T[k] := by
  intro T
  induction T with
  | nil => intro q n k _ h; simp at h
  | cons t T ih =>
    intro q n k hc h
    cases k with
    | zero => exact hc.1
    | succ k =>
      have := ih k hc.2 (by simpa using h)
      rw [List.take_succ_cons, lenT_cons]
      rw [show q + (1 + t.length + lenT (T.take k)) = q + 1 + t.length + lenT (T.take k) by omega, show n + (k + 1) = n + 1 + k by omega]
      exact this
theorem standL_rec {D : Dk} {S : List ByteArray} {q n : Nat} {t : List Wr} (hr : recAt S q n t) (hg : ∀ i, 1 ≤ i → i < 65 → D.get i = S.getD i noS) (hs : ∀ x ∈ t, 0 ≤ x.sec ∧ x.sec < 4294967296 ∧ x.data.size = 512) (place : Nat) (hp : place % 64 = q % 64) :
    ∀ k, k ≤ t.length → standL place D ⟨(headL n t).toArray⟩ k = some (t.take k) := by
  intro k
  induction k with
  | zero => intro _; simp [standL]
  | succ k ih =>
    intro hk
    have e : D.get (1 + (place + 1 + k) % 64) = logD t[k].data := by
      rw [hg _ (by omega) (by omega), show (place + 1 + k) % 64 = (q + 1 + k) % 64 by omega]
      exact hr.2 k hk
    show (standL place D _ k).bind _ = _
    rw [ih (by omega)]
    simp only [Option.bind_some, e, isD_log, if_true]
    rw [readWr_head n t hs k hk]
    rw [List.take_succ_eq_append_getElem hk]
theorem stands_rec {J : Jn} {D : Dk} {S : List ByteArray} {q : Nat} {t : List Wr} (hr : recAt S q J.number t) (hg : ∀ i, 1 ≤ i → i < 65 → D.get i = S.getD i noS) (hs : ∀ x ∈ t, 0 ≤ x.sec ∧ x.sec < 4294967296 ∧ x.data.size = 512) (hp : J.place % 64 = q % 64)
    (hm : mayW (Jn.size D) t = true) (hl : t.length ≤ 24) : J.stands D = (t, true) := by
  have e : D.get (1 + J.place % 64) = ⟨(headL J.number t).toArray⟩ := by
    rw [hg _ (by omega) (by omega), hp]
    exact hr.1
  have h1 := standL_rec hr hg hs J.place hp t.length (Nat.le_refl _)
  rw [List.take_of_length_le (Nat.le_refl _)] at h1
  unfold Jn.stands
  rw [e, manyOf_head _ _ hl, if_neg (by omega), h1]
  simp only [bOf_mk, decide_true, check_zero hm, Bool.and_self]
theorem stands_none {J : Jn} {D : Dk} (h : (bOf (D.get (1 + J.place % 64))).take 12 ≠ headD J.number) : (J.stands D).2 = false := by
  unfold Jn.stands
  split
  · rfl
  · split
    · rfl
    · rename_i l _
      simp only [Bool.and_eq_false_iff, decide_eq_false_iff_not]
      refine .inl fun e => h ?_
      rw [← e, headL_take]
theorem upd_idem (l : List Wr) (X : Nat → ByteArray) (U : Nat → ByteArray) (i : Nat) (h : upd l X i = U i) : upd l U i = U i := by
  by_cases hy : ∃ y ∈ l, y.sec = (i : Int)
  · exact (upd_in _ _ X i hy).trans h
  · exact upd_out _ _ _ fun x hx ex => hy ⟨x, hx, ex⟩
theorem flatten_take_succ (T : List (List Wr)) (k : Nat) (h : k < T.length) : (T.take (k + 1)).flatten = (T.take k).flatten ++ T[k] := by
  rw [List.take_succ_eq_append_getElem h]
  simp only [List.flatten_append, List.flatten_cons, List.flatten_nil, List.append_nil]
theorem lenT_take_succ (T : List (List Wr)) (k : Nat) (h : k < T.length) : lenT (T.take (k + 1)) = lenT (T.take k) + (1 + T[k].length) := by
  rw [List.take_succ_eq_append_getElem h]
  exact lenT_snoc _ _
theorem home_append (l m : List Wr) : home (l ++ m) = home l ++ home m := by simp [home]
theorem lenT_append (T T' : List (List Wr)) : lenT (T ++ T') = lenT T + lenT T' := by simp [lenT]
theorem lenT_take_le (T : List (List Wr)) (k : Nat) : lenT (T.take k) ≤ lenT T := by
  have := lenT_append (T.take k) (T.drop k)
  rw [List.take_append_drop] at this
  omega
theorem lenT_flatten (T : List (List Wr)) : T.flatten.length ≤ lenT T := by
  induction T with
  | nil => simp [lenT]
  | cons t T ih => rw [lenT_cons, List.flatten_cons, List.length_append]; omega

theorem openLoop_law {S : List ByteArray} {n0 p0 : Nat} {T : List (List Wr)} {U : Nat → ByteArray} (hL : Lg S n0 p0 T) (st : Int) (hbig : n0 + T.length < 2 ^ 62) (hS : S.length ≤ 4096) : ∀ (m k : Nat) (D : Dk) (J : Jn), k ≤ T.length → T.length ≤ k + m → D.Ok → D.down = false → D.sure = S → D.loose = home (T.take k).flatten →
    J = ⟨st, n0 + k, (p0 + lenT (T.take k)) % 64, 0, []⟩ → (D.fails = true → RecS S n0 p0 T U) →
    ((openLoop m J D).2.2 = 0 ∧ (openLoop m J D).1 = ⟨st, n0 + T.length, (p0 + lenT T) % 64, 0, []⟩ ∧ WentOn D (openLoop m J D).2.1 S (home T.flatten)) ∨
    ((openLoop m J D).2.2 = 61 ∧ Fell D (openLoop m J D).2.1 (Back U S.length (n0 + T.length))) := by
  have hsz := hL.size
  have hT : ∀ k, ∀ x ∈ home (T.take k).flatten, ∃ i : Nat, x.sec = 65 + i ∧ 65 + i < S.length ∧ ∃ y ∈ T.flatten, y.sec = i := fun k x hx => by
    obtain ⟨y, hy, e1, e2⟩ := home_mem _ x hx
    obtain ⟨t, ht, hyt⟩ := List.mem_flatten.1 hy
    have ht' := List.mem_of_mem_take ht
    have := wSec (hL.may t ht').1 y hyt
    exact ⟨y.sec.toNat, by omega, by omega, y, List.mem_flatten.2 ⟨t, ht', hyt⟩, by omega⟩
  intro m
  induction m with
  | zero =>
    intro k D J h1 h2 ok up hs hl hJ hr
    obtain rfl : k = T.length := by omega
    rw [List.take_of_length_le (Nat.le_refl _)] at hJ hl
    exact .inl ⟨rfl, hJ, ok, up, hs, hl, rfl, rfl⟩
  | succ m ih =>
    intro k D J h1 h2 ok up hs hl hJ hr
    have hhome : ∀ x ∈ D.loose, ∃ i : Nat, x.sec = 65 + i ∧ 65 + i < D.sure.length := fun x hx => by
      rw [hl] at hx
      obtain ⟨i, e, h, _⟩ := hT k x hx
      exact ⟨i, e, by rw [hs]; exact h⟩
    have hg : ∀ i, 1 ≤ i → i < 65 → D.get i = S.getD i noS := fun i _ hi => by
      rw [get_low hhome i hi (by rw [hs]; omega), hs]
    by_cases hk : k < T.length
    · have hw := wSec (hL.may T[k] (List.getElem_mem hk)).1
      have hst : J.stands D = (T[k], true) := by
        refine stands_rec (S := S) (q := p0 + lenT (T.take k)) ?_ hg (fun x hx => ?_) ?_ ?_ (hL.may T[k] (List.getElem_mem hk)).2
        · rw [hJ]
          exact chain_get T k hL.chain hk
        · have := hw x hx
          omega
        · rw [hJ]
          show (p0 + lenT (T.take k)) % 64 % 64 = _
          omega
        · unfold Jn.size
          rw [hs]
          exact (hL.may T[k] (List.getElem_mem hk)).1
      have hst1 : (J.stands D).1 = T[k] := by rw [hst]
      have hst2 : (J.stands D).2 = true := by rw [hst]
      have hB : ∀ x ∈ home T[k], 0 ≤ x.sec ∧ x.sec < D.sure.length ∧ x.data.size = 512 := fun x hx => by
        obtain ⟨y, hy, e1, e2⟩ := home_mem _ x hx
        have hy2 := hw y hy
        rw [e2, e1, hs]
        exact ⟨by omega, by omega, hy2.2.2⟩
      have hhl : (home T[k]).length = T[k].length := home_length _
      have hlen : D.loose.length ≤ 64 := by
        rw [hl]
        have e : (home (T.take k).flatten).length = (T.take k).flatten.length := home_length _
        have h3 := lenT_flatten (T.take k)
        have h4 : lenT (T.take k) ≤ lenT T := lenT_take_le T k
        have := hL.used
        omega
      rcases writes_step (Back U S.length (n0 + T.length)) (home T[k]) ok up hB (by rw [hhl]; have := (hL.may T[k] (List.getElem_mem hk)).2; omega) (fun hfl j which => by
          refine ⟨by rw [Dk.settle_length, hs], n0, p0, T, ?_, Nat.le_refl _⟩
          rw [hs]
          refine (hr hfl).settle (fun x hx => ?_) which 0
          rcases List.mem_append.1 hx with hx | hx
          · rw [hl] at hx
            exact hT k x hx
          · have hx' := List.mem_of_mem_take hx
            refine hT (k + 1) x ?_
            rw [flatten_take_succ T k hk, home_append]
            exact List.mem_append_right _ hx') with ⟨a1, a2⟩ | ⟨a1, a2⟩
      · rw [openLoop_go hst2 (by rw [hst1]; exact a1), hst1]
        have := ih (k + 1) (Dk.writes (home T[k]) D).1 (J.next T[k].length) (by omega) (by omega) a2.ok a2.up (a2.sure.trans hs) (by rw [a2.loose, hl, flatten_take_succ T k hk, home_append]) (by
          rw [hJ, lenT_take_succ T k hk]
          unfold Jn.next
          simp only [Jn.mk.injEq, true_and, and_true]
          exact ⟨by omega, by omega⟩) (fun hfl => hr (a2.fails ▸ hfl))
        rcases this with ⟨b1, b2, b3⟩ | ⟨b1, b2⟩
        · exact .inl ⟨b1, b2, a2.trans b3⟩
        · exact .inr ⟨b1, a2.fell b2⟩
      · rw [openLoop_bad hst2 (by rw [hst1, a1]; decide), hst1]
        exact .inr ⟨a1, a2⟩
    · obtain rfl : k = T.length := by omega
      rw [List.take_of_length_le (Nat.le_refl _)] at hJ hl
      have hst2 : (J.stands D).2 = false := stands_none (by
        rw [hg _ (by omega) (by omega), hJ]
        exact hL.stale _ (by omega) (by omega) _ (Nat.le_refl _) (by show n0 + T.length < _; omega))
      rw [openLoop_stop hst2]
      exact .inl ⟨rfl, hJ, ok, up, hs, hl, rfl, rfl⟩

theorem openD_law {D : Dk} {n0 p0 : Nat} {T : List (List Wr)} {U : Nat → ByteArray} (ok : D.Ok) (up : D.down = false) (hl : D.loose = []) (hr : RecS D.sure n0 p0 T U) (hbig : n0 + T.length < 2 ^ 62) :
    (∃ J D', openD D = (some J, D', 0) ∧ Live J D' J.number J.place [] U ∧ D'.loose = [] ∧ J.number = n0 + T.length + 1 ∧ J.used = 0 ∧ D'.fails = D.fails ∧ D'.sure.length = D.sure.length ∧ D'.starts = D.starts) ∨
    (∃ D', openD D = (none, D', 61) ∧ Fell D D' (Back U D.sure.length (n0 + T.length + 1))) := by
  have hL := hr.lg
  have hsz := hL.size
  have g0 : D.get 0 = ⟨(markL n0 p0).toArray⟩ := by
    rw [get_low (by rw [hl]; intro x hx; cases hx) 0 (by omega) (by omega)]
    exact hL.mark
  have hpl := hL.pl
  have eN : numOf (D.get 0) = n0 := by rw [g0]; exact numOf_mark _ _ (by omega)
  have eM : manyOf (D.get 0) = p0 := by rw [g0]; exact manyOf_mark _ _ (by omega)
  have hwr : D.wrong = 0 := by
    unfold Dk.wrong
    rw [if_neg (by simp [up]), if_neg (by omega)]
  have eJ : markJ D = ⟨D.starts, n0 + 0, (p0 + lenT (T.take 0)) % 64, 0, []⟩ := by
    unfold markJ
    rw [eN, eM]
    simp only [Jn.mk.injEq, true_and, and_true]
    exact ⟨by omega, by simp [lenT]; omega⟩
  have hTl := lenT_le T
  have hus := hL.used
  have key := openLoop_law (U := U) hL D.starts hbig ok.size.2 64 0 D (markJ D) (by omega) (by omega) ok up rfl (by rw [hl]; rfl) eJ (fun _ => hr)
  obtain ⟨r, hR⟩ : ∃ r, openLoop 64 (markJ D) D = r := ⟨_, rfl⟩
  rw [hR] at key
  rw [open_eq hwr (by rw [eM]; omega) (by rw [eN, eM]; exact g0) r hR]
  rcases key with ⟨a1, a2, a3⟩ | ⟨a1, a2⟩
  · rw [if_neg (by simp [a1])]
    have hhome : ∀ x ∈ home T.flatten, ∃ i : Nat, x.sec = 65 + i ∧ 65 + i < D.sure.length ∧ ∃ y ∈ T.flatten, y.sec = i := fun x hx => by
      obtain ⟨y, hy, e1, e2⟩ := home_mem _ x hx
      obtain ⟨t, ht, hyt⟩ := List.mem_flatten.1 hy
      have := wSec (hL.may t ht).1 y hyt
      exact ⟨y.sec.toNat, by omega, by omega, y, hy, by omega⟩
    have hsn : Seen r.2.1 n0 p0 T U := by
      have hrg : ∀ x ∈ r.2.1.loose, 0 ≤ x.sec ∧ x.sec < r.2.1.sure.length := fun x hx => by
        rw [a3.loose] at hx
        rw [a3.sure]
        obtain ⟨i, e, h, _⟩ := hhome x hx
        omega
      refine ⟨a3.ok, a3.up, by rw [a3.sure]; exact hL, fun x hx => ?_, fun i hi => ?_, fun i hi => ?_⟩
      · rw [a3.loose] at hx
        rw [a3.sure]
        obtain ⟨i, e, h, _⟩ := hhome x hx
        exact ⟨i, e, h⟩
      · rw [get_setL hrg _ hi, a3.sure, a3.loose]
        rw [a3.sure] at hi
        refine (setL_homes _ _ i (fun x hx => ?_) hi).trans (hr.home i hi)
        obtain ⟨t, ht, hyt⟩ := List.mem_flatten.1 hx
        exact (wSec (hL.may t ht).1 x hyt).1
      · rw [a3.sure] at hi
        exact upd_idem _ _ _ _ (hr.home i hi)
    have hfirm : Firm r.2.1 T := fun _ => by
      rw [a3.loose, a3.sure]
      exact hhome
    have hJn : ({ r.1 with number := r.1.number + 1 } : Jn) = ⟨D.starts, n0 + T.length + 1, (p0 + lenT T) % 64, 0, []⟩ := by rw [a2]
    rw [hJn]
    rcases ckD_law hsn hfirm ⟨D.starts, n0 + T.length + 1, (p0 + lenT T) % 64, 0, []⟩ (by show _ ≤ n0 + T.length + 1; omega) (by show _ % 64 < 64; omega) with ⟨b1, S, b2, b3, b4⟩ | ⟨b1, b2⟩
    · have b1' := b1
      rw [if_neg (by rw [checkpoint_good _ _ b1]; simp)]
      rw [checkpoint_good _ _ b1]
      refine .inl ⟨_, _, rfl, ⟨b4.seen b2.ok b2.up b2.sure b2.loose, b2.starts.trans a3.starts, rfl, ?_, rfl, rfl⟩, b2.loose, rfl, rfl, b2.fails.trans a3.fails, ?_, b2.starts.trans a3.starts⟩
      · show (p0 + lenT T) % 64 = ((p0 + lenT T) % 64 + 0) % 64
        omega
      · rw [b2.sure, b3, a3.sure]
    · rw [checkpoint_bad _ _ _ rfl (by rw [b1]; decide)]
      rw [if_pos (by show _ ≠ _; rw [b1]; decide)]
      refine .inr ⟨_, by rw [b1], ?_⟩
      have := a3.fell b2
      rw [a3.sure] at this
      exact this
  · rw [if_pos (by rw [a1]; decide)]
    refine .inr ⟨_, by rw [a1], a2.mono fun S hS => ⟨hS.1, ?_⟩⟩
    obtain ⟨n, p, T', r', hle⟩ := hS.2
    exact ⟨n, p, T', r', by omega⟩

/-! ### a new disk, formatted -/
theorem new_get (n i : Nat) (h : i < n) : (List.replicate n zeroS).getD i noS = zeroS := by
  rw [List.getD, List.getElem?_eq_getElem (by simpa using h)]
  simp
theorem format_law (n : Nat) (h1 : 73 ≤ n) (h2 : n ≤ 4096) : (formatD (Dk.new n)).2 = 0 ∧ (formatD (Dk.new n)).1.Ok ∧ (formatD (Dk.new n)).1.down = false ∧ (formatD (Dk.new n)).1.loose = [] ∧ (formatD (Dk.new n)).1.fails = false ∧ (formatD (Dk.new n)).1.starts = 0 ∧
    (formatD (Dk.new n)).1.sure.length = n ∧ RecS (formatD (Dk.new n)).1.sure 1 0 [] (fun _ => zeroS) := by
  have ok := Dk.new_ok n (by omega) h2
  have hlen : (Dk.new n).sure.length = n := by simp [Dk.new]
  have hwr : (Dk.new n).wrong = 0 := by
    unfold Dk.wrong
    rw [if_neg (by simp [Dk.new]), if_neg (by omega)]
  unfold formatD
  rw [if_neg (by simp [hwr])]
  unfold fm2 fm1
  obtain ⟨a1, a2⟩ := writes_fine (zeroW 64) ok rfl rfl (fun x hx => by
    obtain ⟨k, hk, rfl⟩ := List.mem_map.1 hx
    have := List.mem_range.1 hk
    exact ⟨by show (0 : Int) ≤ ((1 + k : Nat) : Int); omega, by show ((1 + k : Nat) : Int) < _; omega, zeroS_size⟩) (by rw [zeroW_length]; simp [Dk.new])
  rw [step_go _ a1]
  generalize (Dk.writes (zeroW 64) (Dk.new n)).1 = D1 at *
  have ha : D1.loose.length = 64 := by rw [a2.loose]; simp [Dk.new, zeroW_length]
  rcases write_step a2.ok a2.up 0 ⟨(markL 1 0).toArray⟩ (by rw [a2.sure]; omega) (markB_size _ _) (by omega) (fun _ => False) (fun hf => by rw [a2.fails] at hf; cases hf) with ⟨b1, b2⟩ | ⟨_, b2⟩
  · rw [show ((0 : Nat) : Int) = 0 from rfl] at b1 b2
    rw [step_go (r := D1.write 0 _) _ b1]
    generalize (D1.write 0 ⟨(markL 1 0).toArray⟩).1 = D2 at *
    have hf2 : D2.fails = false := b2.fails.trans a2.fails
    rcases flush_step b2.ok b2.up (fun _ => False) (fun hf => by rw [hf2] at hf; cases hf) with ⟨c1, c2⟩ | ⟨_, c2⟩
    · have eS : D2.flush.1.sure = (setL (zeroW 64) (Dk.new n).sure).set 0 ⟨(markL 1 0).toArray⟩ := by
        rw [c2.sure, b2.loose, b2.sure, a2.loose, a2.sure]
        show setL (([] ++ zeroW 64) ++ _) _ = _
        rw [List.nil_append, setL_append, setL_cons]
        rfl
      have hz : ∀ (l : List Wr), (∀ x ∈ l, x.data = zeroS) → ∀ S : List ByteArray, (∀ i, i < S.length → S.getD i noS = zeroS) → ∀ i, i < S.length → (setL l S).getD i noS = zeroS := by
        intro l
        induction l with
        | nil => intro _ S h; exact h
        | cons x l ih =>
          intro hx S hS i hi
          rw [setL_cons]
          refine ih (fun y hy => hx y (List.mem_cons_of_mem _ hy)) _ (fun j hj => ?_) i (by simpa using hi)
          rw [List.length_set] at hj
          by_cases e : x.sec.toNat = j
          · rw [e, getD_set_eq _ hj]
            exact hx x (by simp)
          · rw [getD_set_ne _ e]
            exact hS j hj
      have hzero : ∀ i, i < n → (setL (zeroW 64) (Dk.new n).sure).getD i noS = zeroS := fun i hi => by
        refine hz _ (fun x hx => ?_) _ (fun j hj => ?_) i (by omega)
        · obtain ⟨k, hk, rfl⟩ := List.mem_map.1 hx
          rfl
        · exact new_get n j (by omega)
      have hl2 : (setL (zeroW 64) (Dk.new n).sure).length = n := by rw [setL_length, hlen]
      refine ⟨c1, c2.ok, c2.up, c2.loose, c2.fails.trans hf2, (c2.starts.trans b2.starts).trans a2.starts, by rw [eS, List.length_set, hl2], ?_⟩
      rw [eS]
      refine ⟨⟨by rw [List.length_set]; omega, by decide, getD_set_eq _ (by omega) _, trivial, by simp [lenT], by simp, fun i h3 h4 m hm hm2 => ?_⟩, fun i hi => ?_⟩
      · rw [getD_set_ne _ (by omega), hzero i (by omega)]
        exact zero_take m
      · rw [List.length_set] at hi
        show homeS _ i = _
        unfold homeS
        rw [getD_set_ne _ (by omega), hzero _ (by omega)]
    · have := c2.failing
      rw [hf2] at this
      cases this
  · have := b2.failing
    rw [a2.fails] at this
    cases this
end Go.Proofs.Ytffgjjhopopgcaa
