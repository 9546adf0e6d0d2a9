/-
  The law of the journal in thought, second part: a disk's steps, a checkpoint, a commit.
-/
import Derived.Test.YtffgjjhopopgcaaJq
namespace Go.Proofs.Ytffgjjhopopgcaa
set_option linter.unusedVariables false
set_option linter.unusedSimpArgs false
open Go.RowKit
set_option maxRecDepth 100000
set_option maxHeartbeats 4000000

/-! ### a disk's steps -/
structure WentOn (D D' : Dk) (S : List ByteArray) (L : List Wr) : Prop where
  ok : D'.Ok
  up : D'.down = false
  sure : D'.sure = S
  loose : D'.loose = L
  starts : D'.starts = D.starts
  fails : D'.fails = D.fails
structure Fell (D D' : Dk) (P : List ByteArray → Prop) : Prop where
  failing : D.fails = true
  ok : D'.Ok
  down : D'.down = true
  sure : P D'.sure
  loose : D'.loose = []
  starts : D'.starts = D.starts
  fails : D'.fails = false
theorem Fell.mono {D D' : Dk} {P Q : List ByteArray → Prop} (h : Fell D D' P) (hq : ∀ S, P S → Q S) : Fell D D' Q := ⟨h.failing, h.ok, h.down, hq _ h.sure, h.loose, h.starts, h.fails⟩
theorem WentOn.trans {D D1 D2 : Dk} {S S1 : List ByteArray} {L L1 : List Wr} (h : WentOn D D1 S L) (k : WentOn D1 D2 S1 L1) : WentOn D D2 S1 L1 := ⟨k.ok, k.up, k.sure, k.loose, k.starts.trans h.starts, k.fails.trans h.fails⟩
theorem WentOn.fell {D D1 D2 : Dk} {S : List ByteArray} {L : List Wr} {P : List ByteArray → Prop} (h : WentOn D D1 S L) (k : Fell D1 D2 P) : Fell D D2 P := ⟨h.fails ▸ k.failing, k.ok, k.down, k.sure, k.loose, k.starts.trans h.starts, k.fails⟩
/-- Whatever of these writes stays. -/
def All (P : List ByteArray → Prop) (S : List ByteArray) (L : List Wr) : Prop := ∀ which, P (Dk.settle which 0 L S)
theorem due_starts (D : Dk) : D.due.starts = D.starts := by unfold Dk.due; split <;> rfl
theorem due_fails (D : Dk) : D.due.fails = D.fails := by unfold Dk.due; split <;> rfl
theorem write_step {D : Dk} (ok : D.Ok) (up : D.down = false) (n : Nat) (s : ByteArray) (hn : n < D.sure.length) (hs : s.size = 512) (hm : D.loose.length < 1000000000000) (P : List ByteArray → Prop) (hP : D.fails = true → All P D.sure (D.loose ++ [⟨n, s⟩])) :
    ((D.write n s).2 = 0 ∧ WentOn D (D.write n s).1 D.sure (D.loose ++ [⟨n, s⟩])) ∨ ((D.write n s).2 = 61 ∧ Fell D (D.write n s).1 P) := by
  have e : D.write n s = if D.dueNow then ((D.due.wrote n s).crashed D.keep, 61) else (D.due.wrote n s, 0) := by
    unfold Dk.write
    rw [if_neg (by simp [up]), if_neg (by rintro (h | h | h) <;> omega)]
  rw [e]
  by_cases hd : D.dueNow = true
  · rw [if_pos hd]
    have hf : D.fails = true := by unfold Dk.dueNow at hd; simp at hd; exact hd.1
    refine .inr ⟨rfl, hf, (ok.duew.wrote (by omega) (by rw [Dk.due_sure]; omega) hs (by rw [Dk.due_loose]; exact hm)).crashed _, rfl, ?_, rfl, ?_, rfl⟩
    · have := hP hf (fun i => D.keep.getD i false)
      show P (Dk.settle _ 0 (D.due.loose ++ [⟨n, s⟩]) D.due.sure)
      rwa [Dk.due_loose, Dk.due_sure]
    · exact due_starts D
  · rw [if_neg hd]
    refine .inl ⟨rfl, (ok.due (by simpa using hd)).wrote (by omega) (by rw [Dk.due_sure]; omega) hs (by rw [Dk.due_loose]; exact hm), (Dk.due_down D).trans up, Dk.due_sure D, ?_, due_starts D, due_fails D⟩
    show D.due.loose ++ _ = _
    rw [Dk.due_loose]
def setL (L : List Wr) (S : List ByteArray) : List ByteArray := Dk.settle (fun _ => true) 0 L S
theorem settle_true : ∀ (L : List Wr) (k : Nat) (S : List ByteArray), Dk.settle (fun _ => true) k L S = setL L S := by
  have key : ∀ (L : List Wr) (k j : Nat) (S : List ByteArray), Dk.settle (fun _ => true) k L S = Dk.settle (fun _ => true) j L S := by
    intro L
    induction L with
    | nil => intro k j S; rfl
    | cons x L ih => intro k j S; exact ih _ _ _
  intro L k S
  exact key L k 0 S
theorem setL_cons (x : Wr) (L : List Wr) (S : List ByteArray) : setL (x :: L) S = setL L (S.set x.sec.toNat x.data) := settle_true L 1 _
theorem setL_append (L M : List Wr) : ∀ (S : List ByteArray), setL (L ++ M) S = setL M (setL L S) := by
  induction L with
  | nil => intro S; rfl
  | cons x L ih => intro S; rw [List.cons_append, setL_cons, setL_cons]; exact ih _
theorem setL_length (L : List Wr) (S : List ByteArray) : (setL L S).length = S.length := Dk.settle_length _ _ _ _
theorem setL_out (L : List Wr) : ∀ (S : List ByteArray) (i : Nat), (∀ x ∈ L, x.sec.toNat ≠ i) → (setL L S).getD i noS = S.getD i noS := by
  induction L with
  | nil => intro S i _; rfl
  | cons x L ih =>
    intro S i h
    rw [setL_cons]
    exact (ih _ i fun y hy => h y (List.mem_cons_of_mem _ hy)).trans (getD_set_ne S (h x (by simp)) _)
theorem flush_step {D : Dk} (ok : D.Ok) (up : D.down = false) (P : List ByteArray → Prop) (hP : D.fails = true → All P D.sure D.loose) :
    (D.flush.2 = 0 ∧ WentOn D D.flush.1 (setL D.loose D.sure) []) ∨ (D.flush.2 = 61 ∧ Fell D D.flush.1 P) := by
  have e : D.flush = if D.dueNow then (D.due.crashed D.keep, 61) else (D.due.settled (fun _ => true), 0) := by
    unfold Dk.flush
    rw [if_neg (by simp [up])]
  rw [e]
  by_cases hd : D.dueNow = true
  · rw [if_pos hd]
    have hf : D.fails = true := by unfold Dk.dueNow at hd; simp at hd; exact hd.1
    refine .inr ⟨rfl, hf, ok.duew.crashed _, rfl, ?_, rfl, due_starts D, rfl⟩
    have := hP hf (fun i => D.keep.getD i false)
    show P (Dk.settle _ 0 D.due.loose D.due.sure)
    rwa [Dk.due_loose, Dk.due_sure]
  · rw [if_neg hd]
    refine .inl ⟨rfl, (ok.due (by simpa using hd)).settled _, (Dk.due_down D).trans up, ?_, rfl, due_starts D, due_fails D⟩
    show Dk.settle _ 0 D.due.loose D.due.sure = _
    rw [Dk.due_loose, Dk.due_sure]
    rfl
theorem writes_step (P : List ByteArray → Prop) : ∀ (l : List Wr) {D : Dk} (ok : D.Ok) (up : D.down = false) (hl : ∀ x ∈ l, 0 ≤ x.sec ∧ x.sec < D.sure.length ∧ x.data.size = 512) (hm : D.loose.length + l.length < 1000000000000)
    (hP : D.fails = true → ∀ k, All P D.sure (D.loose ++ l.take k)), ((Dk.writes l D).2 = 0 ∧ WentOn D (Dk.writes l D).1 D.sure (D.loose ++ l)) ∨ ((Dk.writes l D).2 = 61 ∧ Fell D (Dk.writes l D).1 P) := by
  intro l
  induction l with
  | nil => intro D ok up _ _ _; exact .inl ⟨rfl, ok, up, rfl, by simp [Dk.writes], rfl, rfl⟩
  | cons x l ih =>
    intro D ok up hl hm hP
    have hx := hl x (by simp)
    simp only [List.length_cons] at hm
    have hw := write_step ok up x.sec.toNat x.data (by omega) hx.2.2 (by omega) P (fun hf => by
      have := hP hf 1
      rw [show ((x.sec.toNat : Nat) : Int) = x.sec by omega]
      simpa using this)
    rw [show ((x.sec.toNat : Nat) : Int) = x.sec by omega] at hw
    show ((step (D.write x.sec x.data) (Dk.writes l)).2 = 0 ∧ _) ∨ _
    rcases hw with ⟨h1, h2⟩ | ⟨h1, h2⟩
    · rw [show Dk.writes (x :: l) D = step (D.write x.sec x.data) (Dk.writes l) from rfl, step_go _ h1]
      have := ih h2.ok h2.up (by rw [h2.sure]; exact fun y hy => hl y (List.mem_cons_of_mem _ hy)) (by rw [h2.loose]; simp; omega) (fun hf k => by
        have := hP (h2.fails ▸ hf) (k + 1)
        rw [h2.sure, h2.loose]
        simpa using this)
      rw [h2.sure, h2.loose] at this
      rcases this with ⟨h3, h4⟩ | ⟨h3, h4⟩
      · exact .inl ⟨h3, by simpa using h2.trans h4⟩
      · exact .inr ⟨h3, h2.fell h4⟩
    · rw [show Dk.writes (x :: l) D = step (D.write x.sec x.data) (Dk.writes l) from rfl, step_stop _ (by rw [h1]; decide)]
      exact .inr ⟨h1, h2⟩
/-- What a disk has, by what it would have if all were sure. -/
theorem get_setL {D : Dk} (hl : ∀ x ∈ D.loose, 0 ≤ x.sec ∧ x.sec < D.sure.length) (i : Nat) (hi : i < D.sure.length) : D.get i = (setL D.loose D.sure).getD i noS := by
  unfold Dk.get
  have key : ∀ (M : List Wr), (∀ x ∈ M.reverse, 0 ≤ x.sec ∧ x.sec < D.sure.length) → (match M.find? (fun x => x.sec == (i : Int)) with | some x => x.data | none => D.sure.getD i ⟨#[]⟩) = (setL M.reverse D.sure).getD i noS := by
    intro M
    induction M with
    | nil => intro _; rfl
    | cons x M ih =>
      intro h
      rw [List.reverse_cons, setL_append, setL_cons]
      have hx := h x (by simp)
      have ih := ih fun y hy => h y (by rw [List.reverse_cons]; exact List.mem_append_left _ hy)
      show _ = ((setL M.reverse D.sure).set x.sec.toNat x.data).getD i noS
      by_cases e : x.sec = (i : Int)
      · rw [List.find?_cons_of_pos (by simpa using e), show x.sec.toNat = i by omega, getD_set_eq _ (by rw [setL_length]; exact hi)]
      · rw [List.find?_cons_of_neg (by simpa using e), getD_set_ne _ (by omega)]
        exact ih
  have := key D.loose.reverse (by simpa using hl)
  rwa [List.reverse_reverse] at this
end Go.Proofs.Ytffgjjhopopgcaa
