/-
  The walks of a disk's small functions.
-/
import Derived.Test.YtffgjjhopopgcaaDk
namespace Go.Proofs.Ytffgjjhopopgcaa
set_option linter.unusedVariables false
set_option linter.unusedSimpArgs false
open Go.RowKit
set_option maxRecDepth 100000
set_option maxHeartbeats 2000000

theorem size_any {w : World} {K : Nat → Prop} {p : Nat} {D : Dk} (h : DiskW w K p D) : Calls Try.prog 73 #[.pointer (some ⟨p, 0, none⟩)] w (Same w (.int .i64 D.sure.length)) := by
  obtain ⟨ok, gs, cs, vl, ak, ck, h⟩ := h
  obtain ⟨⟨c0, c1, c2, c3, c4, c5, c6⟩, f0, f1, f2, f3, f4, f5, f6⟩ := cells7 h.row
  go_enter Try.func73, Try.ntmps73
  go_wp2
  go_ret
  exact ⟨rfl, rfl⟩
theorem size_nil (w : World) : Calls Try.prog 73 #[.pointer none] w (Same w (.int .i64 0)) := by
  go_enter Try.func73, Try.ntmps73
  go_wp2
  go_ret
  exact ⟨rfl, rfl⟩
theorem dcheck_nil (w : World) : Calls Try.prog 64 #[.pointer none] w (Same w (.int .i64 1)) := by
  go_enter Try.func64, Try.ntmps64
  go_wp2_with (refine (size_nil _).mono ?_; rintro e w1 ⟨rfl, rfl⟩)
  go_ret
  exact ⟨rfl, rfl⟩
theorem dcheck_any {w : World} {K : Nat → Prop} {p : Nat} {D : Dk} (h : DiskW w K p D) : Calls Try.prog 64 #[.pointer (some ⟨p, 0, none⟩)] w (Same w (.int .i64 D.errno)) := by
  have hS := Lib.hid (size_any h)
  obtain ⟨ok, gs, cs, vl, ak, ck, h⟩ := h
  obtain ⟨⟨c0, c1, c2, c3, c4, c5, c6⟩, f0, f1, f2, f3, f4, f5, f6⟩ := cells7 h.row
  have hne : ((D.sure.length : Int) == 0) = false := by have := ok.size; simp; intro h; simp [h] at this
  go_enter Try.func64, Try.ntmps64
  cases hd : D.down with
  | true =>
    rw [hd] at c2
    go_wp2_with (refine hS.out.mono ?_; rintro e w1 ⟨rfl, rfl⟩)
    go_ret
    exact ⟨by simp [Dk.errno, hd], rfl⟩
  | false =>
    rw [hd] at c2
    go_wp2_with (refine hS.out.mono ?_; rintro e w1 ⟨rfl, rfl⟩)
    go_ret
    exact ⟨by simp [Dk.errno, hd], rfl⟩
theorem starts_any {w : World} {K : Nat → Prop} {p : Nat} {D : Dk} (h : DiskAt w K p D) : Calls Try.prog 69 #[.pointer (some ⟨p, 0, none⟩)] w (Same w (.int .i64 D.starts)) := by
  obtain ⟨ok, gs, cs, vl, ak, ck, h⟩ := h
  obtain ⟨⟨c0, c1, c2, c3, c4, c5, c6⟩, f0, f1, f2, f3, f4, f5, f6⟩ := cells7 h.row
  go_enter Try.func69, Try.ntmps69
  go_wp2
  go_ret
  exact ⟨rfl, rfl⟩
theorem up_any {w : World} {K : Nat → Prop} {p : Nat} {D : Dk} (h : DiskAt w K p D) : Calls Try.prog 42 #[.pointer (some ⟨p, 0, none⟩)] w (Same w (.bool (!D.down))) := by
  have hS := Lib.hid (dcheck_any h.wide)
  go_enter Try.func42, Try.ntmps42
  go_wp2_with (refine hS.out.mono ?_; rintro e w1 ⟨rfl, rfl⟩)
  go_ret
  exact ⟨by unfold Dk.errno; cases D.down <;> rfl, rfl⟩
/-- What a call of a disk's method leaves. -/
def RetD (w : World) (K : Nat → Prop) (p : Nat) (v : Value) (D : Dk) (e : Ending) (w' : World) : Prop := e = .returned v ∧ DiskAt w' K p D ∧ Kept K w w'

theorem due_any {w : World} {K : Nat → Prop} {p : Nat} {D : Dk} (h : DiskAt w K p D) : Calls Try.prog 81 #[.pointer (some ⟨p, 0, none⟩)] w (fun e w' => e = .returned (.bool D.dueNow) ∧ DiskW w' K p D.due ∧ Kept K w w') := by
  obtain ⟨ok, gs, cs, vl, ak, ck, h⟩ := h
  obtain ⟨⟨c0, c1, c2, c3, c4, c5, c6⟩, f0, f1, f2, f3, f4, f5, f6⟩ := cells7 h.row
  go_enter Try.func81, Try.ntmps81
  cases hd : D.fails with
  | false =>
    rw [hd] at c4
    go_wp2
    go_ret
    exact ⟨by simp [Dk.dueNow, hd], ⟨ok.duew, gs, cs, vl, ak, ck, by simpa [Dk.due, hd] using h⟩, Kept.refl _ _⟩
  | true =>
    rw [hd] at c4
    have h0 := ok.left hd
    have h1 := ok.lefts
    have hst := heap_setCell_same w p 5 _ 103 (.int .i64 (D.left - 1)) h.row
    go_wp2
    go_ret
    refine ⟨by simp [Dk.dueNow, hd], ⟨ok.duew, gs, cs, vl, ak, ck, h.store ?_ (by simp) (fun b hb => Below.heap_setCell _ _ _ _ hb) ?_ ?_ ?_⟩, Kept.setCell _ h.kp _⟩ <;> simp only [Dk.due, hd, if_true]
    exact hst.trans (by simp [hd])
theorem start_any {w : World} {K : Nat → Prop} {p : Nat} {D : Dk} (h : DiskAt w K p D) (hs : D.starts < 1000000000000) : Calls Try.prog 29 #[.pointer (some ⟨p, 0, none⟩)] w (RetD w K p (.int .i64 D.start.2) D.start.1) := by
  have hS := Lib.hid (dcheck_any h.wide)
  have hD := Lib.hid h
  obtain ⟨ok, gs, cs, vl, ak, ck, h⟩ := h
  obtain ⟨⟨c0, c1, c2, c3, c4, c5, c6⟩, f0, f1, f2, f3, f4, f5, f6⟩ := cells7 h.row
  go_enter Try.func29, Try.ntmps29
  cases hd : D.down with
  | false =>
    simp only [Dk.errno, hd] at hS
    go_wp2_with (refine hS.out.mono ?_; rintro e w1 ⟨rfl, rfl⟩)
    go_ret
    exact ⟨by simp [Dk.start, hd], by simpa [Dk.start, hd] using hD.out, Kept.refl _ _⟩
  | true =>
    simp only [Dk.errno, hd] at hS
    have hs0 := ok.starts
    have hst := heap_setCell_same w p 2 _ 103 (.bool false) h.row
    have hst2 := heap_setCell_same _ p 3 _ 103 (.int .i64 (D.starts + 1)) hst
    go_wp2_with (refine hS.out.mono ?_; rintro e w1 ⟨rfl, rfl⟩)
    go_ret
    refine ⟨by simp [Dk.start, hd], ⟨?_, gs, cs, vl, ak, ck, h.store ?_ (by simp) (fun b hb => (Below.heap_setCell _ _ _ _ hb).trans (Below.heap_setCell _ _ _ _ hb)) ?_ ?_ ?_⟩, (Kept.setCell _ h.kp _).trans (Kept.setCell _ h.kp _)⟩ <;> simp only [Dk.start, hd, if_true]
    · exact ⟨⟨ok.size, ok.sure, ok.loose, by simp only; omega, ok.lefts, ok.keep, ok.many⟩, ok.left⟩
    · exact hst2
end Go.Proofs.Ytffgjjhopopgcaa
