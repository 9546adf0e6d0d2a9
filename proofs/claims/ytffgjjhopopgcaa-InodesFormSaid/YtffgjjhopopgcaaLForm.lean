/-
  InodesForm answers true for every text, in every world.
-/
import Derived.Test.YtffgjjhopopgcaaLGet
namespace Go.Proofs.Ytffgjjhopopgcaa
open Go.RowKit
set_option maxRecDepth 100000
set_option maxHeartbeats 2000000
attribute [local go_sem] mkS_extract mkS_append

theorem form_law (l : List UInt8) (hl : l.length ≤ 9223372036854775807) (w : World) : Calls Try.prog 7 #[.string ⟨l.toArray⟩] w (Ret w (.bool true)) := by
  by_cases hbig : 600 < l.length
  · have hd : decide ((600 : Int) < (l.length : Int)) = true := by simp; omega
    go_enter Try.func7, Try.ntmps7
    go_wp2_with fail
    refine (filed_any _).mono ?_
    rintro e w1 ⟨rfl, hb1⟩
    go_wp2
    go_ret
    exact ⟨rfl, hb1⟩
  · have hd : decide ((600 : Int) < (l.length : Int)) = false := by simp; omega
    obtain ⟨M, hM⟩ := Classical.axiomOfChoice (madeZeros 256 (by omega) 256 rfl)
    have m1 := fun w => (hM w).1
    have m2 : ∀ (w : World) (h : Nat), w.heap.size = h → (convert 23 9 (.slice (some ⟨h, 0, none⟩) 256 256)).run Try.prog (M w) = .ok (.string ⟨(zeros 256).toArray⟩) (M w) := fun w h e => e ▸ (hM w).2.1
    have HM := Lib.hid (fun w => (hM w).2.2)
    clear hM
    have HT := Lib.hid (show ∀ t : List UInt8, t = List.take 256 (l ++ zeros 256) → t.length = 256 from fun t ht => by rw [ht, List.length_take, List.length_append, length_zeros]; omega)
    obtain ⟨z, hz⟩ : ∃ z, z = zeros 256 := ⟨_, rfl⟩
    rw [← hz] at m2 HT
    have hzl : z.length = 256 := by rw [hz]; exact length_zeros 256
    obtain ⟨t, ht⟩ : ∃ t, List.take 256 (l ++ z) = t := ⟨_, rfl⟩
    have htl := HT.out t ht.symm
    have HG := Lib.hid (fun w => inoGet_any t (by omega) w)
    have HF := Lib.hid filed_any
    by_cases hth : inoThere t = true
    · have hget : inoGet t = readIno t := by simp [inoGet, hth]
      have herr : inoErr t = 0 := by simp [inoErr, hth]
      have hok : inoOk (readIno t) = true ∧ inoBytes (readIno t) = t := by
        simp only [inoThere, Bool.and_eq_true, decide_eq_true_eq] at hth
        exact ⟨hth.1.2, hth.2⟩
      obtain ⟨b1, b2, b3, b4, b5⟩ := readIno_bounds t
      have HP := Lib.hid (fun a c w hx => inoPut_any (readIno t).name (readIno t).size a (readIno t).exts c (by omega) (by omega) (by omega) (by omega) b5 w hx)
      have HC := Lib.hid (fun a c w hx => inoCheck_any (readIno t).name (readIno t).size a (readIno t).exts c (by omega) (by omega) (by omega) (by omega) b5 w hx)
      rw [show inoPut ⟨(readIno t).name, (readIno t).size, (readIno t).exts⟩ = t from by rw [inoPut, if_pos hok.1]; exact hok.2, show inoCheck ⟨(readIno t).name, (readIno t).size, (readIno t).exts⟩ = 0 from by rw [inoCheck, if_pos hok.1]] at HP
      rw [show inoCheck ⟨(readIno t).name, (readIno t).size, (readIno t).exts⟩ = 0 from by rw [inoCheck, if_pos hok.1]] at HC
      rw [hth, hget, herr] at HG
      have hbl : (readIno t).exts.length * 16 ≤ 1000 := by omega
      clear hth hget herr hok b1 b2 b3 b4 b5 HT hz
      generalize readIno t = gi at *
      obtain ⟨nm, sz, ex⟩ := gi
      simp only at HP HC HG
      have htt : (t == t) = true := by simp
      go_enter Try.func7, Try.ntmps7
      go_wp2_with fail
      refine (HG.out _).mono ?_
      rintro e w1 ⟨a, c, rfl, hs, hb1⟩
      have HB1 := Lib.hid ((HM.out w).trans (hb1.mono (HM.out w).size))
      have r1 := heap_alloc_last w1 (.cells #[.string nm, .int .i64 sz, .slice a ex.length c] 27)
      have hal := (Below.refl w1.heap.size w1).alloc (Nat.le_refl _) (.cells #[.string nm, .int .i64 sz, .slice a ex.length c] 27)
      have HS1 := Lib.hid (hs.below hal)
      have HB2 := Lib.hid (HB1.out.trans (hal.mono HB1.out.size))
      have hsz : (w1.alloc (.cells #[.string nm, .int .i64 sz, .slice a ex.length c] 27)).heap.size = w1.heap.size + 1 := by simp
      have HSZ := Lib.hid hsz
      have R1 := Lib.hid r1
      obtain ⟨⟨c0, c1, c2⟩, f0, f1, f2⟩ := cells3 r1
      clear hs hb1 r1 hal hsz m1 m2 HM
      go_wp2_with fail
      refine (HP.out a c _ HS1.out).mono ?_
      rintro e w2 ⟨rfl, hb2⟩
      have r2 := (hb2.block w1.heap.size (by rw [HSZ.out]; omega)).trans R1.out
      clear c0 c1 c2 f0 f1 f2
      obtain ⟨⟨c0, c1, c2⟩, f0, f1, f2⟩ := cells3 r2
      have HS2 := Lib.hid (HS1.out.below hb2)
      have HB3 := Lib.hid (HB2.out.trans (hb2.mono HB2.out.size))
      clear hb2 r2
      go_wp2_with fail
      refine (HC.out a c _ HS2.out).mono ?_
      rintro e w3 ⟨rfl, hb3⟩
      have HB4 := Lib.hid (HB3.out.trans (hb3.mono HB3.out.size))
      clear hb3
      go_wp2_with fail
      refine (HF.out _).mono ?_
      rintro e w4 ⟨rfl, hb4⟩
      have HB5 := Lib.hid (HB4.out.trans (hb4.mono HB4.out.size))
      clear hb4
      go_wp2
      go_ret
      exact ⟨rfl, HB5.out⟩
    · have hth : inoThere t = false := by simpa using hth
      have hget : inoGet t = noIno := by simp [inoGet, hth]
      have herr : inoErr t = if decide (t = z) then 0 else 10 := by simp [inoErr, hth, hz]
      have hcase : (inoErr t = 0 ∧ (t == z) = true) ∨ (inoErr t = 10 ∧ (t == z) = false) := by
        rw [herr]
        by_cases h : t = z <;> simp [h]
      rw [hth, hget] at HG
      have HS := Lib.hid (fun a c w hx => same_any noIno noIno a none c 0 (by simp [noIno, inI64]) (by simp [noIno, inI64]) (by decide) (by decide) w hx (slE_nil w none))
      rw [sameIno_self] at HS
      simp only [noIno, List.length_nil] at HS HG
      clear hth hget herr HT hz
      rcases hcase with ⟨he, htz⟩ | ⟨he, htz⟩
      all_goals
        rw [he] at HG
        clear he
        go_enter Try.func7, Try.ntmps7
        go_wp2_with fail
        refine (HG.out _).mono ?_
        rintro e w1 ⟨a, c, rfl, hs, hb1⟩
        have HB1 := Lib.hid ((HM.out w).trans (hb1.mono (HM.out w).size))
        have r1 := heap_alloc_last w1 (.cells #[.string ⟨#[]⟩, .int .i64 0, .slice a 0 c] 27)
        have hal := (Below.refl w1.heap.size w1).alloc (Nat.le_refl _) (.cells #[.string ⟨#[]⟩, .int .i64 0, .slice a 0 c] 27)
        have HS1 := Lib.hid (hs.below hal)
        have HB2 := Lib.hid (HB1.out.trans (hal.mono HB1.out.size))
        obtain ⟨⟨c0, c1, c2⟩, f0, f1, f2⟩ := cells3 r1
        clear hs hb1 r1 hal
        go_wp2_with fail
        refine (HS.out a c _ HS1.out).mono ?_
        rintro e w2 ⟨rfl, hb2⟩
        have HB3 := Lib.hid (HB2.out.trans (hb2.mono HB2.out.size))
        clear hb2
        go_wp2_with fail
        refine (HF.out _).mono ?_
        rintro e w4 ⟨rfl, hb4⟩
        have HB4 := Lib.hid (HB3.out.trans ((HM.out w2).mono HB3.out.size))
        have HB5 := Lib.hid (HB4.out.trans (hb4.mono HB4.out.size))
        clear hb4
        go_wp2
        go_ret
        exact ⟨rfl, HB5.out⟩
end Go.Proofs.Ytffgjjhopopgcaa
