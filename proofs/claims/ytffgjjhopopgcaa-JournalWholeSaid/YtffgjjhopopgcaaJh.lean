/-
  The walks of a journal's Read, Checkpoint, and of Format.
-/
import Derived.Test.YtffgjjhopopgcaaJg
namespace Go.Proofs.Ytffgjjhopopgcaa
set_option linter.unusedVariables false
set_option linter.unusedSimpArgs false
open Go.RowKit
set_option maxRecDepth 100000
set_option maxHeartbeats 4000000

theorem over_cases (J : Jn) (D : Dk) : J.over D = 0 ∨ J.over D = 61 := by unfold Jn.over; split <;> simp

theorem jread_any {w : World} {K : Nat → Prop} {jp p : Nat} {J : Jn} {D : Dk} (h : JAt w K jp p J D) (n : Int) (hn : inL n) :
    Calls Try.prog 32 #[.pointer (some ⟨jp, 0, none⟩), .int .i64 n] w (Ret w (.tuple #[.string (J.read D n).1, .int .i64 (J.read D n).2])) := by
  have HO := Lib.hid (over_any h)
  have HJ := Lib.hid h
  have hsz := h.disk.1.size
  clear h
  rcases over_cases J D with ho | ho
  · by_cases h1 : n < 0
    · have hd1 : decide (n < 0) = true := by simp [h1]
      have e : J.read D n = (⟨#[]⟩, 2) := by simp [Jn.read, ho, h1]
      rw [ho] at HO
      rw [e]
      clear e
      go_enter Try.func32, Try.ntmps32
      go_wp2_with (go_at_call 55; refine HO.out.mono ?_; rintro e w1 ⟨rfl, hb1⟩; have HB1 := Lib.hid hb1; clear hb1)
      refine bodyPost_ret (v := .tuple #[.string ⟨#[]⟩, .int .i64 2]) (by simp [results, Try.results32, go_sem]) rfl ?_
      exact ⟨rfl, HB1.out⟩
    · have hd1 : decide (n < 0) = false := by simp; omega
      have HZ := Lib.hid (fun w' (hb : Below w.heap.size w w') => jsize_any (HJ.out.below hb))
      by_cases h2 : Jn.size D ≤ n
      · have hd2 : decide (Jn.size D ≤ n) = true := by simp [h2]
        have e : J.read D n = (⟨#[]⟩, 2) := by simp [Jn.read, ho, h2]
        rw [ho] at HO
        rw [e]
        clear e
        generalize Jn.size D = sz at *
        go_enter Try.func32, Try.ntmps32
        go_wp2_with (first | (go_at_call 55; refine HO.out.mono ?_; rintro e w1 ⟨rfl, hb1⟩; have HB1 := Lib.hid hb1; clear hb1) | (go_at_call 35; refine (HZ.out _ HB1.out).mono ?_; rintro e w2 ⟨rfl, rfl⟩))
        refine bodyPost_ret (v := .tuple #[.string ⟨#[]⟩, .int .i64 2]) (by simp [results, Try.results32, go_sem]) rfl ?_
        exact ⟨rfl, HB1.out⟩
      · have hd2 : decide (Jn.size D ≤ n) = false := by simp; omega
        have e : J.read D n = D.read (65 + n) := by simp [Jn.read, ho, h1, h2]
        have hnb : n < 4096 := by unfold Jn.size at h2; omega
        rw [ho] at HO
        rw [e]
        clear e
        have HRD := Lib.hid (fun w' (hb : Below w.heap.size w w') => read_any (HJ.out.disk.below hb) (65 + n))
        obtain ⟨mv, hj⟩ := HJ.out
        have C0 := Lib.hid hj.c0
        have LT := Lib.hid hj.lt
        clear hj
        generalize Jn.size D = sz at *
        generalize D.read (65 + n) = rr at *
        go_enter Try.func32, Try.ntmps32
        go_wp2_with (first | (go_at_call 55; refine HO.out.mono ?_; rintro e w1 ⟨rfl, hb1⟩; have c0 := (hb1.cell (p := ⟨jp, 0, none⟩) LT.out).trans C0.out; have HB1 := Lib.hid hb1; clear hb1) | (go_at_call 35; refine (HZ.out _ HB1.out).mono ?_; rintro e w2 ⟨rfl, rfl⟩) | (go_at_call 68; refine (HRD.out _ HB1.out).mono ?_; rintro e w2 ⟨rfl, hb2⟩; have HB2 := Lib.hid (HB1.out.trans (hb2.mono HB1.out.size)); clear hb2))
        refine bodyPost_ret (v := .tuple #[.string rr.1, .int .i64 rr.2]) (by simp [results, Try.results32, go_sem]) rfl ?_
        exact ⟨rfl, HB2.out⟩
  · have e : J.read D n = (⟨#[]⟩, 61) := by simp [Jn.read, ho]
    rw [ho] at HO
    rw [e]
    clear e
    go_enter Try.func32, Try.ntmps32
    go_wp2_with (go_at_call 55; refine HO.out.mono ?_; rintro e w1 ⟨rfl, hb1⟩; have HB1 := Lib.hid hb1; clear hb1)
    refine bodyPost_ret (v := .tuple #[.string ⟨#[]⟩, .int .i64 61]) (by simp [results, Try.results32, go_sem]) rfl ?_
    exact ⟨rfl, HB1.out⟩

theorem checkpointed_any {w : World} {K : Nat → Prop} {jp p : Nat} {J : Jn} {D : Dk} (h : JUp w K jp p J D) (hm : D.loose.length < 100000000000) :
    Calls Try.prog 34 #[.pointer (some ⟨jp, 0, none⟩)] w (RetJ w K jp p (J.checkpointed D)) := by
  have HO := Lib.hid (over_any h.at)
  have HJ := Lib.hid h
  clear h
  rcases over_cases J D with ho | ho
  · have e : J.checkpointed D = J.checkpoint D := by simp [Jn.checkpointed, ho]
    rw [ho] at HO
    rw [e]
    clear e
    go_enter Try.func34, Try.ntmps34
    go_wp2_with (first | (go_at_call 55; refine HO.out.mono ?_; rintro e w1 ⟨rfl, hb1⟩; have HB1 := Lib.hid hb1; have HC := Lib.hid (checkpoint_up (HJ.out.below hb1) hm); clear hb1) | (go_at_call 57; refine HC.out.mono ?_; rintro e w2 ⟨rfl, hj2, hk2⟩))
    go_ret
    exact ⟨rfl, hj2, (Kept.of_below HB1.out HJ.out.at.old).trans hk2⟩
  · have e : J.checkpointed D = (J, D, 61) := by simp [Jn.checkpointed, ho]
    rw [ho] at HO
    rw [e]
    clear e
    go_enter Try.func34, Try.ntmps34
    go_wp2_with (go_at_call 55; refine HO.out.mono ?_; rintro e w1 ⟨rfl, hb1⟩; have HB1 := Lib.hid hb1; clear hb1)
    go_ret
    exact ⟨rfl, HJ.out.below HB1.out, Kept.of_below HB1.out HJ.out.at.old⟩
end Go.Proofs.Ytffgjjhopopgcaa
