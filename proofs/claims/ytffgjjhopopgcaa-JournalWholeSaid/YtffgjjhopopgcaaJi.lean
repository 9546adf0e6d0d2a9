/-
  The walk of Commit.
-/
import Derived.Test.YtffgjjhopopgcaaJh
namespace Go.Proofs.Ytffgjjhopopgcaa
set_option linter.unusedVariables false
set_option linter.unusedSimpArgs false
open Go.RowKit
set_option maxRecDepth 100000
set_option maxHeartbeats 8000000

theorem logs_snoc (l : List Wr) (x : Wr) : ∀ p, logs p (l ++ [x]) = logs p l ++ [⟨((1 + (p + l.length) % 64 : Nat) : Int), logD x.data⟩] := by
  induction l with
  | nil => intro p; simp [logs]
  | cons y l ih => intro p; simp only [List.cons_append, logs, ih, List.length_cons]; rw [show p + 1 + l.length = p + (l.length + 1) by omega]
theorem logs_length (l : List Wr) : ∀ p, (logs p l).length = l.length := by
  induction l with
  | nil => intro p; rfl
  | cons y l ih => intro p; simp [logs, ih]
theorem logs_take (l : List Wr) : ∀ p k, logs p l = logs p (l.take k) ++ logs (p + (l.take k).length) (l.drop k) := by
  induction l with
  | nil => intro p k; simp [logs]
  | cons y l ih =>
    intro p k
    cases k with
    | zero => simp [logs]
    | succ k =>
      simp only [List.take_succ_cons, List.drop_succ_cons, logs, List.cons_append, List.length_cons]
      rw [ih (p + 1) k, show p + 1 + (l.take k).length = p + ((l.take k).length + 1) by omega]
theorem step_stop {r : Dk × Int} (f : Dk → Dk × Int) (h : r.2 ≠ 0) : step r f = r := if_neg h
theorem step_go {r : Dk × Int} (f : Dk → Dk × Int) (h : r.2 = 0) : step r f = f r.1 := if_pos h
/-- Commit, as far as it goes. -/
def cm1 (J : Jn) (l : List Wr) (D : Dk) : Dk × Int := Dk.writes (logs (J.place + 1) l) D
def cm2 (J : Jn) (l : List Wr) (D : Dk) : Dk × Int := step (cm1 J l D) Dk.flush
def cm3 (J : Jn) (l : List Wr) (D : Dk) : Dk × Int := step (cm2 J l D) fun D => D.write ((1 + J.place % 64 : Nat) : Int) ⟨(headL J.number l).toArray⟩
def cm4 (J : Jn) (l : List Wr) (D : Dk) : Dk × Int := step (cm3 J l D) Dk.flush
theorem cm_eq (J : Jn) (l : List Wr) (D : Dk) : J.commitD l D = step (cm4 J l D) (Dk.writes (home l)) := rfl
theorem cm_stop1 {J : Jn} {l : List Wr} {D : Dk} (h : (cm1 J l D).2 ≠ 0) : J.commitD l D = cm1 J l D := by
  have h2 : cm2 J l D = cm1 J l D := step_stop _ h
  have h3 : cm3 J l D = cm1 J l D := (step_stop _ (h2 ▸ h)).trans h2
  have h4 : cm4 J l D = cm1 J l D := (step_stop _ (h3 ▸ h)).trans h3
  exact (step_stop _ (show (cm4 J l D).2 ≠ 0 by rw [h4]; exact h)).trans h4
theorem cm_stop2 {J : Jn} {l : List Wr} {D : Dk} (h : (cm2 J l D).2 ≠ 0) : J.commitD l D = cm2 J l D := by
  have h3 : cm3 J l D = cm2 J l D := step_stop _ h
  have h4 : cm4 J l D = cm2 J l D := (step_stop _ (h3 ▸ h)).trans h3
  exact (step_stop _ (show (cm4 J l D).2 ≠ 0 by rw [h4]; exact h)).trans h4
theorem cm_stop3 {J : Jn} {l : List Wr} {D : Dk} (h : (cm3 J l D).2 ≠ 0) : J.commitD l D = cm3 J l D := by
  have h4 : cm4 J l D = cm3 J l D := step_stop _ h
  exact (step_stop _ (show (cm4 J l D).2 ≠ 0 by rw [h4]; exact h)).trans h4
theorem cm_stop4 {J : Jn} {l : List Wr} {D : Dk} (h : (cm4 J l D).2 ≠ 0) : J.commitD l D = cm4 J l D := step_stop _ h
theorem commit_end (l : List Wr) (J : Jn) (D : Dk) (J1 : Jn) (D1 : Dk) (r : Dk × Int) (ho : J.over D = 0) (hl : l.length ≤ 24) (hc : Jn.check D l = 0) (hr : J.roomed l D = (J1, D1, 0)) (hd : J1.commitD l D1 = r) :
    Jn.commit l J D = if r.2 ≠ 0 then (J1, r.1, r.2) else (J1.added l, r.1, 0) := by
  unfold Jn.commit
  rw [if_neg (by simp [ho]), if_neg (by omega), if_neg (by simp [hc]), hr]
  simp only [ne_eq, not_true, if_false, hd]
theorem check_good {D : Dk} {l : List Wr} (h : Jn.check D l = 0) : ∀ x ∈ l, 0 ≤ x.sec ∧ x.sec < Jn.size D ∧ x.data.size = 512 := by
  unfold Jn.check at h
  split at h
  · rename_i h1
    exact ((mayW_iff _ _).1 h1).1
  · cases h
theorem writes_sure (l : List Wr) : ∀ D : Dk, (Dk.writes l D).1.sure.length = D.sure.length := by
  have hw : ∀ (n : Int) (s : ByteArray) (D : Dk), (D.write n s).1.sure.length = D.sure.length := by
    intro n s D
    unfold Dk.write
    split
    · rfl
    · split
      · rfl
      · split
        · rw [show ((D.due.wrote n s).crashed D.keep).sure.length = (D.due.wrote n s).sure.length from Dk.settle_length _ _ _ _]
          exact congrArg List.length (Dk.due_sure D)
        · exact congrArg List.length (Dk.due_sure D)
  induction l with
  | nil => intro D; rfl
  | cons x l ih =>
    intro D
    simp only [Dk.writes, step]
    split
    · rw [ih, hw]
    · exact hw _ _ _

theorem commit_over {w : World} {K : Nat → Prop} {jp p : Nat} {J : Jn} {D : Dk} (h : JUp w K jp p J D) (a : Option Addr) (c : Nat) (l : List Wr) (ho : J.over D = 61) :
    Calls Try.prog 25 #[.pointer (some ⟨jp, 0, none⟩), .slice a l.length c] w (RetJ w K jp p (Jn.commit l J D)) := by
  have ho1 := over_any h.at
  rw [ho] at ho1
  have HO := Lib.hid ho1
  have HJ := Lib.hid h
  have e : Jn.commit l J D = (J, D, 61) := by simp [Jn.commit, ho]
  rw [e]
  clear h ho1 e
  go_enter Try.func25, Try.ntmps25
  go_wp2_with (go_at_call 55; refine HO.out.mono ?_; rintro e w1 ⟨rfl, hb1⟩; have HB1 := Lib.hid hb1; clear hb1)
  go_ret
  exact ⟨rfl, HJ.out.below HB1.out, Kept.of_below HB1.out HJ.out.at.old⟩
theorem commit_many {w : World} {K : Nat → Prop} {jp p : Nat} {J : Jn} {D : Dk} (h : JUp w K jp p J D) (a : Option Addr) (c : Nat) (l : List Wr) (ho : J.over D = 0) (hl : 24 < l.length) :
    Calls Try.prog 25 #[.pointer (some ⟨jp, 0, none⟩), .slice a l.length c] w (RetJ w K jp p (Jn.commit l J D)) := by
  have ho1 := over_any h.at
  rw [ho] at ho1
  have HO := Lib.hid ho1
  have HJ := Lib.hid h
  have e : Jn.commit l J D = (J, D, 63) := by simp [Jn.commit, ho, hl]
  have hd : decide (24 < (l.length : Int)) = true := by simp; omega
  rw [e]
  clear h ho1 e
  go_enter Try.func25, Try.ntmps25
  go_wp2_with (go_at_call 55; refine HO.out.mono ?_; rintro e w1 ⟨rfl, hb1⟩; have HB1 := Lib.hid hb1; clear hb1)
  go_ret
  exact ⟨rfl, HJ.out.below HB1.out, Kept.of_below HB1.out HJ.out.at.old⟩
theorem commit_bad {w : World} {K : Nat → Prop} {jp p : Nat} {J : Jn} {D : Dk} (h : JUp w K jp p J D) (a : Option Addr) (c : Nat) (l : List Wr) (hs : SlW w a l) (hi : ∀ x ∈ l, inL x.sec) (ho : J.over D = 0) (hl : ¬ 24 < l.length) (hc : Jn.check D l = 2) :
    Calls Try.prog 25 #[.pointer (some ⟨jp, 0, none⟩), .slice a l.length c] w (RetJ w K jp p (Jn.commit l J D)) := by
  have ho1 := over_any h.at
  rw [ho] at ho1
  have HO := Lib.hid ho1
  have HJ := Lib.hid h
  have hcc := fun w' (hb : Below w.heap.size w w') => jcheck_any (h.below hb).at a c l (hs.below hb) hi (by omega)
  rw [hc] at hcc
  have HC := Lib.hid hcc
  have e : Jn.commit l J D = (J, D, 2) := by simp [Jn.commit, ho, hl, hc]
  have hd : decide (24 < (l.length : Int)) = false := by simp; omega
  rw [e]
  clear h ho1 e hcc hs hi
  go_enter Try.func25, Try.ntmps25
  go_wp2_with (first | (go_at_call 55; refine HO.out.mono ?_; rintro e w1 ⟨rfl, hb1⟩; have HB1 := Lib.hid hb1; clear hb1) | (go_at_call 56; refine (HC.out _ HB1.out).mono ?_; rintro e w2 ⟨rfl, hb2⟩; have HB2 := Lib.hid (HB1.out.trans (hb2.mono HB1.out.size)); clear hb2))
  go_ret
  exact ⟨rfl, HJ.out.below HB2.out, Kept.of_below HB2.out HJ.out.at.old⟩
end Go.Proofs.Ytffgjjhopopgcaa
