/-
  The walks of a journal's small functions.
-/
import Derived.Test.YtffgjjhopopgcaaJc
namespace Go.Proofs.Ytffgjjhopopgcaa
set_option linter.unusedVariables false
set_option linter.unusedSimpArgs false
open Go.RowKit
set_option maxRecDepth 100000
set_option maxHeartbeats 2000000

theorem cells6 {w : World} {g : Nat} {v0 v1 v2 v3 v4 v5 : Value} {t : TypeId} (h : w.heap[g]? = some (.cells #[v0, v1, v2, v3, v4, v5] t (0, 0))) :
    (w.cell? ⟨g, 0, none⟩ = some v0 ∧ w.cell? ⟨g, 1, none⟩ = some v1 ∧ w.cell? ⟨g, 2, none⟩ = some v2 ∧ w.cell? ⟨g, 3, none⟩ = some v3 ∧ w.cell? ⟨g, 4, none⟩ = some v4 ∧ w.cell? ⟨g, 5, none⟩ = some v5) ∧
    (w.frozen? ⟨g, 0, none⟩ = false ∧ w.frozen? ⟨g, 1, none⟩ = false ∧ w.frozen? ⟨g, 2, none⟩ = false ∧ w.frozen? ⟨g, 3, none⟩ = false ∧ w.frozen? ⟨g, 4, none⟩ = false ∧ w.frozen? ⟨g, 5, none⟩ = false) := by
  refine ⟨⟨?_, ?_, ?_, ?_, ?_, ?_⟩, frozen_of_row _ _ _ _ _ h, frozen_of_row _ _ _ _ _ h, frozen_of_row _ _ _ _ _ h, frozen_of_row _ _ _ _ _ h, frozen_of_row _ _ _ _ _ h, frozen_of_row _ _ _ _ _ h⟩ <;> rw [cell_of_row _ _ _ _ _ _ h] <;> rfl

/-- What is wrong with a disk. -/
def Dk.wrong (D : Dk) : Int := if D.down then 61 else if D.sure.length < 73 then 2 else 0

theorem jdcheck_any {w : World} {K : Nat → Prop} {p : Nat} {D : Dk} (h : DiskAt w K p D) : Calls Try.prog 67 #[.pointer (some ⟨p, 0, none⟩)] w (Ret w (.int .i64 D.wrong)) := by
  have HR := Lib.hid (read_any h 0)
  have HZ := Lib.hid (fun w1 (hb : Below w.heap.size w w1) => size_any (h.below hb).wide)
  have hok := h.1.size
  clear h
  cases hd : D.down with
  | true =>
    have e : D.read 0 = (⟨#[]⟩, 61) := by simp [Dk.read, hd]
    rw [e] at HR
    go_enter Try.func67, Try.ntmps67
    go_wp2_with (go_at_call 68; refine HR.out.mono ?_; rintro e w1 ⟨rfl, hb⟩)
    go_ret
    exact ⟨by simp [Dk.wrong, hd], hb⟩
  | false =>
    have e : (D.read 0).2 = 0 := by unfold Dk.read; rw [if_neg (by simp [hd]), if_neg (by rintro (h | h) <;> omega)]
    rw [e] at HR
    by_cases hs : D.sure.length < 73
    · have hs' : decide ((D.sure.length : Int) < 73) = true := by simp; omega
      go_enter Try.func67, Try.ntmps67
      go_wp2_with (first | (go_at_call 68; refine HR.out.mono ?_; rintro e w1 ⟨rfl, hb⟩; have HB := Lib.hid hb; clear hb) | (go_at_call 73; refine (HZ.out _ HB.out).mono ?_; rintro e w2 ⟨rfl, rfl⟩))
      go_ret
      exact ⟨by simp [Dk.wrong, hd, hs], HB.out⟩
    · have hs' : decide ((D.sure.length : Int) < 73) = false := by simp; omega
      go_enter Try.func67, Try.ntmps67
      go_wp2_with (first | (go_at_call 68; refine HR.out.mono ?_; rintro e w1 ⟨rfl, hb⟩; have HB := Lib.hid hb; clear hb) | (go_at_call 73; refine (HZ.out _ HB.out).mono ?_; rintro e w2 ⟨rfl, rfl⟩))
      go_ret
      exact ⟨by simp [Dk.wrong, hd, hs], HB.out⟩

theorem jsize_any {w : World} {K : Nat → Prop} {jp p : Nat} {J : Jn} {D : Dk} (h : JAt w K jp p J D) : Calls Try.prog 35 #[.pointer (some ⟨jp, 0, none⟩)] w (Same w (.int .i64 (Jn.size D))) := by
  obtain ⟨mv, h⟩ := h
  have HZ := Lib.hid (size_any h.disk.wide)
  have hok := h.disk.1.size
  obtain ⟨⟨c0, c1, c2, c3, c4, c5⟩, f0, f1, f2, f3, f4, f5⟩ := cells6 h.row
  clear h
  go_enter Try.func35, Try.ntmps35
  go_wp2_with (go_at_call 73; refine HZ.out.mono ?_; rintro e w1 ⟨rfl, rfl⟩)
  go_ret
  exact ⟨rfl, rfl⟩
theorem room_any {w : World} {K : Nat → Prop} {jp p : Nat} {J : Jn} {D : Dk} (h : JAt w K jp p J D) : Calls Try.prog 36 #[.pointer (some ⟨jp, 0, none⟩)] w (Same w (.int .i64 (64 - (J.used : Int)))) := by
  obtain ⟨mv, h⟩ := h
  have hu := h.ok.used
  obtain ⟨⟨c0, c1, c2, c3, c4, c5⟩, f0, f1, f2, f3, f4, f5⟩ := cells6 h.row
  clear h
  go_enter Try.func36, Try.ntmps36
  go_wp2
  go_ret
  exact ⟨rfl, rfl⟩
theorem over_any {w : World} {K : Nat → Prop} {jp p : Nat} {J : Jn} {D : Dk} (h : JAt w K jp p J D) : Calls Try.prog 55 #[.pointer (some ⟨jp, 0, none⟩)] w (Ret w (.int .i64 (J.over D))) := by
  obtain ⟨mv, h⟩ := h
  have HJ := Lib.hid h
  obtain ⟨⟨c0, c1, c2, c3, c4, c5⟩, f0, f1, f2, f3, f4, f5⟩ := cells6 h.row
  have C0 := Lib.hid c0
  have C1 := Lib.hid c1
  have HP := Lib.hid h.lt
  clear h c1 c2 c3 c4 c5 f0 f1 f2 f3 f4 f5
  have HT := Lib.hid (fun w' (hb : Below w.heap.size w w') => starts_any (HJ.out.disk.below hb))
  cases hd : D.down with
  | true =>
    have hu := fun w' (hb : Below w.heap.size w w') => up_any (HJ.out.disk.below hb)
    simp only [hd, Bool.not_true] at hu
    have HU := Lib.hid hu
    clear hu
    have e : J.over D = 61 := by simp [Jn.over, hd]
    rw [e]
    go_enter Try.func55, Try.ntmps55
    go_wp2
    clear c0
    refine wp_region_rr 19 (fun w' => Below w.heap.size w w') (by kernel_rfl) (by kernel_rfl) (Below.refl _ _).drew ?_
    iterate 7
      (apply RR_run
       focus rfl
       focus
         intro w3 hS
         have c0 := (hS.cell (p := ⟨jp, 0, none⟩) HP.out).trans C0.out
         have c1 := (hS.cell (p := ⟨jp, 1, none⟩) HP.out).trans C1.out
         have HS3 := Lib.hid hS
         clear hS
         go_wp2_with (first | (go_at_call 42; refine (HU.out _ HS3.out).mono ?_; rintro e w4 ⟨rfl, rfl⟩) | (go_at_call 69; refine (HT.out _ HS3.out).mono ?_; rintro e w4 ⟨rfl, rfl⟩))
         exact ⟨rfl, HS3.out⟩
       focus exact ⟨_, rfl⟩)
    iterate 10
      (apply RR_skip
       focus rfl
       focus (simp only [Act.put, List.setIfInBounds_toArray, List.set_cons_zero, List.set_cons_succ]; rfl))
    iterate 2
      (apply RR_run
       focus rfl
       focus
         intro w3 hS
         have c0 := (hS.cell (p := ⟨jp, 0, none⟩) HP.out).trans C0.out
         have c1 := (hS.cell (p := ⟨jp, 1, none⟩) HP.out).trans C1.out
         have HS3 := Lib.hid hS
         clear hS
         go_wp2_with (first | (go_at_call 42; refine (HU.out _ HS3.out).mono ?_; rintro e w4 ⟨rfl, rfl⟩) | (go_at_call 69; refine (HT.out _ HS3.out).mono ?_; rintro e w4 ⟨rfl, rfl⟩))
         exact ⟨rfl, HS3.out⟩
       focus exact ⟨_, rfl⟩)
    refine RR_end fun w3 hS => ?_
    go_wp2
    go_ret
    exact ⟨rfl, hS⟩
  | false =>
    have hu := fun w' (hb : Below w.heap.size w w') => up_any (HJ.out.disk.below hb)
    simp only [hd, Bool.not_false] at hu
    have HU := Lib.hid hu
    clear hu
    by_cases hs : D.starts = J.starts
    · have hs' : (D.starts == J.starts) = true := by simp [hs]
      have e : J.over D = 0 := by simp [Jn.over, hd, hs]
      rw [e]
      go_enter Try.func55, Try.ntmps55
      go_wp2
      clear c0
      refine wp_region_rr 19 (fun w' => Below w.heap.size w w') (by kernel_rfl) (by kernel_rfl) (Below.refl _ _).drew ?_
      iterate 19
        (apply RR_run
         focus rfl
         focus
           intro w3 hS
           have c0 := (hS.cell (p := ⟨jp, 0, none⟩) HP.out).trans C0.out
           have c1 := (hS.cell (p := ⟨jp, 1, none⟩) HP.out).trans C1.out
           have HS3 := Lib.hid hS
           clear hS
           go_wp2_with (first | (go_at_call 42; refine (HU.out _ HS3.out).mono ?_; rintro e w4 ⟨rfl, rfl⟩) | (go_at_call 69; refine (HT.out _ HS3.out).mono ?_; rintro e w4 ⟨rfl, rfl⟩))
           exact ⟨rfl, HS3.out⟩
         focus exact ⟨_, rfl⟩)
      refine RR_end fun w3 hS => ?_
      go_wp2
      go_ret
      exact ⟨rfl, hS⟩
    · have hs' : (D.starts == J.starts) = false := by simp [hs]
      have e : J.over D = 61 := by simp [Jn.over, hd, hs]
      rw [e]
      go_enter Try.func55, Try.ntmps55
      go_wp2
      clear c0
      refine wp_region_rr 19 (fun w' => Below w.heap.size w w') (by kernel_rfl) (by kernel_rfl) (Below.refl _ _).drew ?_
      iterate 19
        (apply RR_run
         focus rfl
         focus
           intro w3 hS
           have c0 := (hS.cell (p := ⟨jp, 0, none⟩) HP.out).trans C0.out
           have c1 := (hS.cell (p := ⟨jp, 1, none⟩) HP.out).trans C1.out
           have HS3 := Lib.hid hS
           clear hS
           go_wp2_with (first | (go_at_call 42; refine (HU.out _ HS3.out).mono ?_; rintro e w4 ⟨rfl, rfl⟩) | (go_at_call 69; refine (HT.out _ HS3.out).mono ?_; rintro e w4 ⟨rfl, rfl⟩))
           exact ⟨rfl, HS3.out⟩
         focus exact ⟨_, rfl⟩)
      refine RR_end fun w3 hS => ?_
      go_wp2
      go_ret
      exact ⟨rfl, hS⟩

theorem next_any {w : World} {K : Nat → Prop} {jp p : Nat} {mv : Option Nat} {J : Jn} {D : Dk} (h : JRows w K jp p mv J D) (many : Nat) (hm : many ≤ 24) (hn : J.number + 1 < 4611686018427387904) :
    Calls Try.prog 63 #[.pointer (some ⟨jp, 0, none⟩), .int .i64 many] w (fun e w' => (∃ v, e = .returned v) ∧ JRows w' K jp p mv (J.next many) D ∧ Kept K w w') := by
  have HJ := Lib.hid h
  have hok := h.ok
  have hpl := hok.place
  obtain ⟨⟨c0, c1, c2, c3, c4, c5⟩, f0, f1, f2, f3, f4, f5⟩ := cells6 h.row
  have g1 := heap_setCell_same w jp 2 _ 74 (.int .u64 ((J.number : Int) + 1)) h.row
  have g2 := Lib.hid (heap_setCell_same _ jp 3 _ 74 (.int .i64 (((J.place : Int) + 1 + (many : Int)) % 64)) g1)
  clear h g1
  go_enter Try.func63, Try.ntmps63
  go_wp2
  go_end0
  have hg := grownBy_trans (grownBy_setCell1 w jp 2 (.int .u64 ((J.number : Int) + 1))) (grownBy_setCell1 _ jp 3 (.int .i64 (((J.place : Int) + 1 + (many : Int)) % 64)))
  refine ⟨⟨_, rfl⟩, HJ.out.stored hg ?_ rfl ⟨hok.starts, hn, Nat.mod_lt _ (by decide), hok.used, hok.since, hok.keys⟩, Kept.of_grown hg HJ.out.old HJ.out.kj⟩
  unfold JRow
  rw [g2.out]
  simp only [Jn.next]
  rw [show ((J.number + 1 : Nat) : Int) = (J.number : Int) + 1 by omega, show (((J.place + 1 + many) % 64 : Nat) : Int) = ((J.place : Int) + 1 + (many : Int)) % 64 by omega]
  rfl
end Go.Proofs.Ytffgjjhopopgcaa
