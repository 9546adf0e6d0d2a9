/-
  The walk of Format.
-/
import Derived.Test.YtffgjjhopopgcaaJl
namespace Go.Proofs.Ytffgjjhopopgcaa
set_option linter.unusedVariables false
set_option linter.unusedSimpArgs false
open Go.RowKit
set_option maxRecDepth 100000
set_option maxHeartbeats 8000000

def zeroW (n : Nat) : List Wr := (List.range n).map fun k => ⟨((1 + k : Nat) : Int), zeroS⟩
theorem zeroW_snoc (n : Nat) : zeroW (n + 1) = zeroW n ++ [⟨((1 + n : Nat) : Int), zeroS⟩] := by simp [zeroW, List.range_succ]
theorem zeroW_length (n : Nat) : (zeroW n).length = n := by simp [zeroW]
theorem zeroW_split (k : Nat) (h : k ≤ 64) : ∃ m, zeroW 64 = zeroW k ++ m := by
  refine ⟨(zeroW 64).drop k, ?_⟩
  conv => lhs; rw [← List.take_append_drop k (zeroW 64)]
  congr 1
  simp only [zeroW, ← List.map_take, List.take_range]
  rw [Nat.min_eq_left h]
def fm1 (D : Dk) : Dk × Int := Dk.writes (zeroW 64) D
def fm2 (D : Dk) : Dk × Int := step (fm1 D) fun D => D.write 0 ⟨(markL 1 0).toArray⟩
/-- What Format does with a disk. -/
def formatD (D : Dk) : Dk × Int := if D.wrong ≠ 0 then (D, D.wrong) else step (fm2 D) Dk.flush
theorem fm_stop1 {D : Dk} (h : (fm1 D).2 ≠ 0) : step (fm2 D) Dk.flush = fm1 D := by
  have h2 : fm2 D = fm1 D := step_stop _ h
  exact (step_stop _ (show (fm2 D).2 ≠ 0 by rw [h2]; exact h)).trans h2
theorem wrong_e (D : Dk) : D.wrong = 0 ∨ D.wrong = 61 ∨ D.wrong = 2 := by unfold Dk.wrong; split <;> (try split) <;> simp

theorem format_bad {w : World} {K : Nat → Prop} {p : Nat} {D : Dk} (h : DiskAt w K p D) (hd : D.wrong ≠ 0) : Calls Try.prog 38 #[.pointer (some ⟨p, 0, none⟩)] w (RetD w K p (.int .i64 D.wrong) D) := by
  have HC := Lib.hid (jdcheck_any h)
  have HH := Lib.hid h
  have hz : (D.wrong == 0) = false := by simpa using hd
  clear h hd
  generalize D.wrong = e0 at *
  go_enter Try.func38, Try.ntmps38
  go_wp2_with (go_at_call 67; refine HC.out.mono ?_; rintro e w1 ⟨rfl, hb⟩; have HB := Lib.hid hb; clear hb)
  go_ret
  exact ⟨rfl, HH.out.below HB.out, Kept.of_below HB.out HH.out.old⟩

theorem format_good {w : World} {K : Nat → Prop} {p : Nat} {D : Dk} (h : DiskAt w K p D) (hm : D.loose.length < 1000000000) (hd : D.wrong = 0) :
    Calls Try.prog 38 #[.pointer (some ⟨p, 0, none⟩)] w (RetD w K p (.int .i64 (step (fm2 D) Dk.flush).2) (step (fm2 D) Dk.flush).1) := by
  have hc := jdcheck_any h
  rw [hd] at hc
  have HC := Lib.hid hc
  have HH := Lib.hid h
  have hf := fun w => full_any [] (by decide) w
  rw [show (⟨(padTo 512 []).toArray⟩ : ByteArray) = zeroS from rfl, show (⟨([] : List UInt8).toArray⟩ : ByteArray) = ⟨#[]⟩ from rfl] at hf
  have HF := Lib.hid hf
  have hmk := fun w => mark_any 1 0 (by decide) (by decide) w
  have HMK := Lib.hid hmk
  generalize hR : (RetD w K p (.int .i64 (step (fm2 D) Dk.flush).2) (step (fm2 D) Dk.flush).1) = R
  have HR := Lib.hid hR
  clear h hc hf hR hd hmk
  go_enter Try.func38, Try.ntmps38
  go_wp2_with (go_at_call 67; refine HC.out.mono ?_; rintro e w1 ⟨rfl, hb⟩; have HB := Lib.hid hb; clear hb)
  go_loopw [12] (fun i wr => ∃ k : Nat, k ≤ 64 ∧ i = .int .i64 k ∧ (Dk.writes (zeroW k) D).2 = 0 ∧ DiskAt wr K p (Dk.writes (zeroW k) D).1 ∧ Kept K w wr) (fun i _ => 64 - (intOf i).toNat)
  case atStart => exact ⟨0, by omega, rfl, rfl, HH.out.below HB.out, Kept.of_below HB.out HH.out.old⟩
  case round =>
    obtain ⟨k, hk, rfl, hz, hj, hkp⟩ := hrel
    by_cases hlt : k < 64
    · have hst : Dk.writes (zeroW (k + 1)) D = (Dk.writes (zeroW k) D).1.write ((1 + k : Nat) : Int) zeroS := by rw [zeroW_snoc, writes_append, step, if_pos hz, writes_one]
      have hll : (Dk.writes (zeroW k) D).1.loose.length < 100000000000 := by have := writes_loose (zeroW k) D; rw [zeroW_length] at this; omega
      have hfull : (Dk.writes (zeroW (k + 1)) D).2 ≠ 0 → fm1 D = Dk.writes (zeroW (k + 1)) D := fun hne => by
        obtain ⟨m, e⟩ := zeroW_split (k + 1) (by omega)
        unfold fm1
        rw [e]
        exact writes_stop _ _ _ hne
      have hwr := fun w' (hb : Below wr.heap.size wr w') => write_any (hj.below hb) ((1 + k : Nat) : Int) zeroS (by omega) (by omega)
      rw [← hst] at hwr
      have HWR := Lib.hid hwr
      have HFU := Lib.hid hfull
      have HKP := Lib.hid hkp
      have HOL := Lib.hid hj.old
      have ek : (1 + (k : Int)) = ((1 + k : Nat) : Int) := by omega
      rw [← ek] at HWR
      clear hst hz hll hfull hwr hkp hj ek
      cases hz2 : ((Dk.writes (zeroW (k + 1)) D).2 == 0) with
      | true =>
        go_wp2_with (first | (go_at_call 76; refine (HF.out _).mono ?_; rintro e w2 ⟨rfl, hb2⟩; have HB2 := Lib.hid hb2; clear hb2) | (go_at_call 58; refine (HWR.out _ HB2.out).mono ?_; rintro e w4 ⟨rfl, hd4, hk4⟩; have HD4 := Lib.hid hd4; have HK4 := Lib.hid hk4; clear hd4 hk4))
        go_roundw
        case rel => exact ⟨k + 1, by omega, by go_num, by simpa using hz2, HD4.out, HKP.out.trans ((Kept.of_below HB2.out HOL.out).trans HK4.out)⟩
        case measure => simp [intOf]; omega
      | false =>
        have hne : (Dk.writes (zeroW (k + 1)) D).2 ≠ 0 := by simpa using hz2
        go_wp2_with (first | (go_at_call 76; refine (HF.out _).mono ?_; rintro e w2 ⟨rfl, hb2⟩; have HB2 := Lib.hid hb2; clear hb2) | (go_at_call 58; refine (HWR.out _ HB2.out).mono ?_; rintro e w4 ⟨rfl, hd4, hk4⟩; have HD4 := Lib.hid hd4; have HK4 := Lib.hid hk4; clear hd4 hk4))
        rw [← HR.out, fm_stop1 (by rw [HFU.out hne]; exact hne), HFU.out hne]
        exact ⟨rfl, HD4.out, HKP.out.trans ((Kept.of_below HB2.out HOL.out).trans HK4.out)⟩
    · obtain rfl : k = 64 := by omega
      have hz1 : (fm1 D).2 = 0 := hz
      have hj : DiskAt wr K p (fm1 D).1 := hj
      have e2 : fm2 D = (fm1 D).1.write 0 ⟨(markL 1 0).toArray⟩ := step_go _ hz1
      have b1 : (fm1 D).1.loose.length < 100000000000 := by have := writes_loose (zeroW 64) D; rw [zeroW_length] at this; show (Dk.writes (zeroW 64) D).1.loose.length < _; omega
      have hwr := fun w' (hb : Below wr.heap.size wr w') => write_any (hj.below hb) 0 ⟨(markL 1 0).toArray⟩ (by decide) (by omega)
      rw [← e2] at hwr
      have HWR := Lib.hid hwr
      have HKP := Lib.hid hkp
      have HOL := Lib.hid hj.old
      generalize (⟨(markL 1 0).toArray⟩ : ByteArray) = ms at *
      clear hz1 hz hj e2 b1 hwr hkp
      cases hz2 : ((fm2 D).2 == 0) with
      | false =>
        have hne : (fm2 D).2 ≠ 0 := by simpa using hz2
        go_wp2_with (first | (go_at_call 71; refine (HMK.out _).mono ?_; rintro e w2 ⟨rfl, hb2⟩; have HB2 := Lib.hid hb2; clear hb2) | (go_at_call 58; refine (HWR.out _ HB2.out).mono ?_; rintro e w4 ⟨rfl, hd4, hk4⟩; have HD4 := Lib.hid hd4; have HK4 := Lib.hid hk4; clear hd4 hk4))
        rw [← HR.out, step_stop _ hne]
        exact ⟨rfl, HD4.out, HKP.out.trans ((Kept.of_below HB2.out HOL.out).trans HK4.out)⟩
      | true =>
        have e3 : step (fm2 D) Dk.flush = (fm2 D).1.flush := step_go _ (by simpa using hz2)
        have HE3 := Lib.hid e3
        clear e3
        go_wp2_with (first | (go_at_call 71; refine (HMK.out _).mono ?_; rintro e w2 ⟨rfl, hb2⟩; have HB2 := Lib.hid hb2; clear hb2) | (go_at_call 58; refine (HWR.out _ HB2.out).mono ?_; rintro e w4 ⟨rfl, hd4, hk4⟩; have HFL := Lib.hid (flush_any hd4); have HK4 := Lib.hid hk4; clear hd4 hk4) | (go_at_call 60; refine HFL.out.mono ?_; rintro e w5 ⟨rfl, hd5, hk5⟩; have HD5 := Lib.hid hd5; have HK5 := Lib.hid hk5; clear hd5 hk5))
        rw [← HR.out, HE3.out]
        exact ⟨rfl, HD5.out, HKP.out.trans ((Kept.of_below HB2.out HOL.out).trans (HK4.out.trans HK5.out))⟩

theorem format_any {w : World} {K : Nat → Prop} {p : Nat} {D : Dk} (h : DiskAt w K p D) (hm : D.loose.length < 1000000000) : Calls Try.prog 38 #[.pointer (some ⟨p, 0, none⟩)] w (RetD w K p (.int .i64 (formatD D).2) (formatD D).1) := by
  unfold formatD
  by_cases hd : D.wrong = 0
  · rw [if_neg (by simp [hd])]
    exact format_good h hm hd
  · rw [if_pos hd]
    exact format_bad h hd
end Go.Proofs.Ytffgjjhopopgcaa
