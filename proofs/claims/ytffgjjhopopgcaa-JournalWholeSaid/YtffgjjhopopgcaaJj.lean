/-
  The walk of Commit, to its end.
-/
import Derived.Test.YtffgjjhopopgcaaJi
namespace Go.Proofs.Ytffgjjhopopgcaa
set_option linter.unusedVariables false
set_option linter.unusedSimpArgs false
open Go.RowKit
set_option maxRecDepth 100000
set_option maxHeartbeats 8000000

theorem commit_main {w : World} {K : Nat → Prop} {jp p mb : Nat} {J1 : Jn} {D1 : Dk} (h : JRows w K jp p (some mb) J1 D1) (a : Option Addr) (c : Nat) (l : List Wr) (hs : SlW w a l) (hK : ∀ ad, a = some ad → K ad.block) (hi : ∀ x ∈ l, inL x.sec)
    (hm : D1.loose.length < 10000000000) (hn : J1.number + 1 < 4611686018427387904) (ho : J1.over D1 = 0) (hl : ¬ 24 < l.length) (hc : Jn.check D1 l = 0) (hr : ¬ 64 - (J1.used : Int) < 1 + (l.length : Int)) :
    Calls Try.prog 25 #[.pointer (some ⟨jp, 0, none⟩), .slice a l.length c] w (RetJ w K jp p (if (J1.commitD l D1).2 ≠ 0 then (J1, (J1.commitD l D1).1, (J1.commitD l D1).2) else (J1.added l, (J1.commitD l D1).1, 0))) := by
  have ho1 := over_any ⟨_, h⟩
  rw [ho] at ho1
  have HO := Lib.hid ho1
  have hcc := fun w' (hb : Below w.heap.size w w') => jcheck_any ⟨_, h.below hb⟩ a c l (hs.below hb) hi (by omega)
  rw [hc] at hcc
  have HCK := Lib.hid hcc
  have HRM := Lib.hid (fun w' (hb : Below w.heap.size w w') => room_any ⟨_, h.below hb⟩)
  have HG := Lib.hid (check_good hc)
  have HKA := Lib.hid hK
  have hsu : J1.since.length ≤ J1.used := h.ok.since
  have HRO := Lib.hid (show J1.used + (1 + l.length) ≤ 64 by omega)
  have HH := Lib.hid h
  have HS0 := Lib.hid hs
  have hd : decide (24 < (l.length : Int)) = false := by simp; omega
  have hd2 : decide (64 - (J1.used : Int) < 1 + (l.length : Int)) = false := by simp; omega
  generalize hR : (RetJ w K jp p (if (J1.commitD l D1).2 ≠ 0 then (J1, (J1.commitD l D1).1, (J1.commitD l D1).2) else (J1.added l, (J1.commitD l D1).1, 0))) = R
  have HR := Lib.hid hR
  clear h hs hK ho1 hcc hR hc hr
  go_enter Try.func25, Try.ntmps25
  go_wp2_with (first | (go_at_call 55; refine HO.out.mono ?_; rintro e w1 ⟨rfl, hb1⟩; have HB1 := Lib.hid hb1; clear hb1) | (go_at_call 56; refine (HCK.out _ HB1.out).mono ?_; rintro e w2 ⟨rfl, hb2⟩; have HB2 := Lib.hid (HB1.out.trans (hb2.mono HB1.out.size)); clear hb2) | (go_at_call 36; refine (HRM.out _ HB2.out).mono ?_; rintro e W ⟨rfl, rfl⟩))
  have HJ1 := Lib.hid (HH.out.below HB2.out)
  have HKW := Lib.hid (Kept.of_below HB2.out HH.out.old)
  have HSL := Lib.hid (HS0.out.below HB2.out)
  obtain ⟨W, rfl⟩ : ∃ W : World, W = w2 := ⟨_, rfl⟩
  clear HO HCK HRM HB1 HB2 HH
  go_loopw [44] (fun i wr => ∃ k : Nat, k ≤ l.length ∧ i = .int .i64 k ∧ (Dk.writes (logs (J1.place + 1) (l.take k)) D1).2 = 0 ∧ JRows wr K jp p (some mb) J1 (Dk.writes (logs (J1.place + 1) (l.take k)) D1).1 ∧ Kept (JK K jp (some mb)) W wr) (fun i _ => l.length - (intOf i).toNat)
  case atStart => exact ⟨0, by omega, rfl, by simp [logs, Dk.writes], by simpa [logs, Dk.writes] using HJ1.out, Kept.refl _ _⟩
  case round =>
    obtain ⟨k, hk, rfl, hz, hj, hkp⟩ := hrel
    by_cases hlt : k < l.length
    · obtain ⟨b, off, rfl, g1', g2'⟩ := HSL.out k hlt
      have hKb : JK K jp (some mb) b := .inl (HKA.out _ rfl)
      have g1 := (hkp.cell (p := ⟨b, off + k * 2, none⟩) hKb).trans g1'
      have g2 := (hkp.cell (p := ⟨b, off + k * 2 + 1, none⟩) hKb).trans g2'
      clear g1' g2'
      have hx := HG.out l[k] (List.getElem_mem _)
      have hst : Dk.writes (logs (J1.place + 1) (l.take (k + 1))) D1 = (Dk.writes (logs (J1.place + 1) (l.take k)) D1).1.write ((1 + (J1.place + 1 + k) % 64 : Nat) : Int) (logD l[k].data) := by
        rw [List.take_succ_eq_append_getElem hlt, logs_snoc, writes_append, step, if_pos hz, writes_one, List.length_take, Nat.min_eq_left hk]
      have hll : (Dk.writes (logs (J1.place + 1) (l.take k)) D1).1.loose.length < 1000000000000 := by
        have := writes_loose (logs (J1.place + 1) (l.take k)) D1
        rw [logs_length, List.length_take] at this
        omega
      have hfull : (Dk.writes (logs (J1.place + 1) (l.take (k + 1))) D1).2 ≠ 0 → cm1 J1 l D1 = Dk.writes (logs (J1.place + 1) (l.take (k + 1))) D1 := fun hne => by
        unfold cm1
        rw [logs_take l _ (k + 1)]
        exact writes_stop _ _ _ hne
      generalize l[k] = x at *
      generalize Dk.writes (logs (J1.place + 1) (l.take k)) D1 = r at *
      obtain ⟨sec, data⟩ := x
      simp only at hx g1 g2 hst
      have HST := Lib.hid hst
      have HFU := Lib.hid hfull
      clear hst hfull hz
      have hal := (Below.refl wr.heap.size wr).alloc (Nat.le_refl _) (.cells #[.int .i64 sec, .string data] 59)
      have hnew := heap_alloc_last wr (.cells #[.int .i64 sec, .string data] 59)
      have HN := Lib.hid (cells2' hnew)
      have hws : (wr.alloc (.cells #[.int .i64 sec, .string data] 59)).heap.size = wr.heap.size + 1 := by simp
      have hj1 := hj.below hal
      have hk1 := hkp.trans (Kept.of_below hal hj.disk.old)
      have HJ2 := Lib.hid hj1
      have HK2 := Lib.hid hk1
      have HC := Lib.hid (And.intro hj1.c0 (cells6 hj1.row).1.2.2.2.1)
      have HLT := Lib.hid hj1.lt
      have hpl := hj1.ok.place
      have HAT := Lib.hid (fun w' => at_any (J1.place + 1 + k) (by omega) w')
      have ecat : ((J1.place : Int) + 1 + (k : Int)) = ((J1.place + 1 + k : Nat) : Int) := by omega
      rw [← ecat] at HAT
      have elog : (⟨#[76, 68, 48, 49]⟩ : ByteArray) ++ data.extract 4 512 = logD data := by
        rw [extract_bytes, show (⟨#[76, 68, 48, 49]⟩ : ByteArray) = ⟨[76, 68, 48, 49].toArray⟩ from rfl, mk_append]
        unfold logD
        rw [List.take_of_length_le (by rw [bOf_size]; omega)]
      have hlsz : (data.extract 4 512).size = 508 := by rw [ByteArray.size_extract]; omega
      have hx3 := hx.2.2
      clear hal hnew hj hkp hj1 hk1 ecat
      go_wp2
      generalize wr.alloc (.cells #[.int .i64 sec, .string data] 59) = W2 at *
      refine wp_region_rr 16 (fun w' => Below W2.heap.size W2 w') (by kernel_rfl) (by kernel_rfl) (Below.refl _ _).drew ?_
      iterate 16
        (apply RR_run
         focus rfl
         focus
           intro w3 hS
           have x1 := (hS.cell (p := ⟨wr.heap.size, 1, none⟩) (by simp only; omega)).trans HN.out.2
           have j0 := (hS.cell (p := ⟨jp, 0, none⟩) HLT.out).trans HC.out.1
           have j3 := (hS.cell (p := ⟨jp, 3, none⟩) HLT.out).trans HC.out.2
           have HS3 := Lib.hid hS
           clear hS
           go_wp2_with (go_at_call 59; refine (HAT.out _).mono ?_; rintro e w4 ⟨rfl, rfl⟩)
           exact ⟨rfl, HS3.out⟩
         focus exact ⟨_, rfl⟩)
      refine RR_end fun w3 hS => ?_
      have hj3 := HJ2.out.below hS
      have HK3 := Lib.hid (HK2.out.trans (Kept.of_below hS HJ2.out.disk.old))
      have HJ3 := Lib.hid hj3
      have hwr := write_any hj3.disk ((1 + (J1.place + 1 + k) % 64 : Nat) : Int) (logD data) (by omega) hll
      rw [← HST.out] at hwr
      have HWR := Lib.hid hwr
      clear hj3 hwr hS
      cases hz2 : ((Dk.writes (logs (J1.place + 1) (l.take (k + 1))) D1).2 == 0) with
      | true =>
        go_wp2_with (go_at_call 58; refine HWR.out.mono ?_; rintro e w4 ⟨rfl, hd4, hk4⟩; have HD4 := Lib.hid hd4; have HK4 := Lib.hid hk4; clear hd4 hk4)
        go_roundw
        case rel => exact ⟨k + 1, by omega, by go_num, by simpa using hz2, HJ3.out.kept HD4.out HK4.out, HK3.out.trans HK4.out⟩
        case measure => simp [intOf]; omega
      | false =>
        have hne : (Dk.writes (logs (J1.place + 1) (l.take (k + 1))) D1).2 ≠ 0 := by simpa using hz2
        go_wp2_with (go_at_call 58; refine HWR.out.mono ?_; rintro e w4 ⟨rfl, hd4, hk4⟩; have HD4 := Lib.hid hd4; have HK4 := Lib.hid hk4; clear hd4 hk4)
        have hc1 : (cm1 J1 l D1).2 ≠ 0 := by rw [HFU.out hne]; exact hne
        rw [← HR.out, cm_stop1 hc1, if_pos hc1, HFU.out hne]
        exact ⟨rfl, ⟨mb, HJ3.out.kept HD4.out HK4.out⟩, HKW.out.trans ((HK3.out.trans HK4.out).mono fun b hb => .inl hb)⟩
    · obtain rfl : k = l.length := by omega
      rw [List.take_length] at hz hj
      have hz1 : (cm1 J1 l D1).2 = 0 := hz
      have hj : JRows wr K jp p (some mb) J1 (cm1 J1 l D1).1 := hj
      have j0 := hj.c0
      have e2 : cm2 J1 l D1 = (cm1 J1 l D1).1.flush := step_go _ hz1
      have hfl := flush_any hj.disk
      rw [← e2] at hfl
      have b1 : (cm1 J1 l D1).1.loose.length ≤ D1.loose.length + l.length := by
        have := writes_loose (logs (J1.place + 1) l) D1
        rwa [logs_length] at this
      have b2 : (cm2 J1 l D1).1.loose.length ≤ D1.loose.length + l.length := by rw [e2]; exact Nat.le_trans (flush_loose _) b1
      have HF2 := Lib.hid hfl
      have HJA := Lib.hid hj
      have HSA := Lib.hid (HSL.out.block fun ad e => hkp.block _ (.inl (HKA.out ad e)))
      have HKA1 := Lib.hid (HKW.out.trans (hkp.mono fun b hb => .inl hb))
      clear hz hz1 hj e2 hfl hkp b1
      cases hz2 : ((cm2 J1 l D1).2 == 0) with
      | false =>
        have hne : (cm2 J1 l D1).2 ≠ 0 := by simpa using hz2
        go_wp2_with (go_at_call 60; refine HF2.out.mono ?_; rintro e w4 ⟨rfl, hd4, hk4⟩; have HD4 := Lib.hid hd4; have HK4 := Lib.hid hk4; clear hd4 hk4)
        rw [← HR.out, cm_stop2 hne, if_pos hne]
        exact ⟨rfl, ⟨mb, HJA.out.kept HD4.out HK4.out⟩, HKA1.out.trans (HK4.out.mono fun b hb => .inl hb)⟩
      | true =>
        go_wp2_with (go_at_call 60; refine HF2.out.mono ?_; rintro e w4 ⟨rfl, hd4, hk4⟩; have HD4 := Lib.hid hd4; have HK4 := Lib.hid hk4; clear hd4 hk4)
        have hj4 := HJA.out.kept HD4.out HK4.out
        have HSB := Lib.hid (HSA.out.block fun ad e => HK4.out.block _ (.inl (HKA.out ad e)))
        have HKB := Lib.hid (HKA1.out.trans (HK4.out.mono fun b hb => .inl hb))
        have HJB := Lib.hid hj4
        have HC := Lib.hid (And.intro hj4.c0 (And.intro (cells6 hj4.row).1.2.2.1 (cells6 hj4.row).1.2.2.2.1))
        have HLT := Lib.hid hj4.lt
        have hsz := hj4.disk.1.size
        have hpl := hj4.ok.place
        have hnb := hj4.ok.number
        have hsz1 := HJ1.out.disk.1.size
        have hG2 : ∀ x ∈ l, 0 ≤ x.sec ∧ x.sec < 4294967296 ∧ x.data.size = 512 := fun x hx => by
          have := HG.out x hx
          unfold Jn.size at this
          exact ⟨this.1, by omega, this.2.2⟩
        have HHD := Lib.hid (fun w' (hb : Below w4.heap.size w4 w') => head_any J1.number (by omega) a c l (by omega) hG2 w' (HSB.out.below hb))
        have HAT := Lib.hid (fun w' => at_any J1.place (by omega) w')
        have e3 : cm3 J1 l D1 = (cm2 J1 l D1).1.write ((1 + J1.place % 64 : Nat) : Int) ⟨(headL J1.number l).toArray⟩ := step_go _ (by simpa using hz2)
        have b3 : (cm3 J1 l D1).1.loose.length ≤ D1.loose.length + l.length + 1 := by rw [e3]; exact Nat.le_trans (write_loose _ _ _) (by omega)
        have hwr := fun w' (hb : Below w4.heap.size w4 w') => write_any (hj4.below hb).disk ((1 + J1.place % 64 : Nat) : Int) ⟨(headL J1.number l).toArray⟩ (by omega) (by omega)
        rw [← e3] at hwr
        have HWR := Lib.hid hwr
        generalize (⟨(headL J1.number l).toArray⟩ : ByteArray) = hs at *
        clear HJA HD4 HK4 HSA HKA1 HF2 hj4 e3 hwr hsz hG2 j0
        simp only [show ((cm2 J1 l D1).2 != 0) = false by simpa using hz2]
        refine wp_region_rr 15 (fun w' => Below w4.heap.size w4 w') (by kernel_rfl) (by kernel_rfl) (Below.refl _ _).drew ?_
        iterate 15
          (apply RR_run
           focus rfl
           focus
             intro w3 hS
             have j0 := (hS.cell (p := ⟨jp, 0, none⟩) HLT.out).trans HC.out.1
             have j2 := (hS.cell (p := ⟨jp, 2, none⟩) HLT.out).trans HC.out.2.1
             have j3 := (hS.cell (p := ⟨jp, 3, none⟩) HLT.out).trans HC.out.2.2
             have HS3 := Lib.hid hS
             clear hS
             go_wp2_with (first | (go_at_call 59; refine (HAT.out _).mono ?_; rintro e w5 ⟨rfl, rfl⟩) | (go_at_call 61; refine (HHD.out _ HS3.out).mono ?_; rintro e w5 ⟨rfl, h5⟩))
             exact ⟨rfl, by first | exact HS3.out | exact HS3.out.trans (Below.mono (by assumption) HS3.out.size)⟩
           focus exact ⟨_, rfl⟩)
        refine RR_end fun w3 hS => ?_
        have HJC := Lib.hid (HJB.out.below hS)
        have HSC := Lib.hid (HSB.out.below hS)
        have HKC := Lib.hid (HKB.out.trans (Kept.of_below hS HJB.out.old))
        have HW3 := Lib.hid (HWR.out _ hS)
        clear hS HWR HHD HAT HC HLT
        cases hz3 : ((cm3 J1 l D1).2 == 0) with
        | false =>
          have hne : (cm3 J1 l D1).2 ≠ 0 := by simpa using hz3
          go_wp2_with (go_at_call 58; refine HW3.out.mono ?_; rintro e w4 ⟨rfl, hd4, hk4⟩; have HD4 := Lib.hid hd4; have HK4 := Lib.hid hk4; clear hd4 hk4)
          rw [← HR.out, cm_stop3 hne, if_pos hne]
          exact ⟨rfl, ⟨mb, HJC.out.kept HD4.out HK4.out⟩, HKC.out.trans (HK4.out.mono fun b hb => .inl hb)⟩
        | true =>
          have e4 : cm4 J1 l D1 = (cm3 J1 l D1).1.flush := step_go _ (by simpa using hz3)
          have b4 : (cm4 J1 l D1).1.loose.length ≤ D1.loose.length + l.length + 1 := by rw [e4]; exact Nat.le_trans (flush_loose _) b3
          have HE4 := Lib.hid e4
          clear e4
          cases hz4 : ((cm4 J1 l D1).2 == 0) with
          | false =>
            have hne : (cm4 J1 l D1).2 ≠ 0 := by simpa using hz4
            go_wp2_with (first | (go_at_call 58; refine HW3.out.mono ?_; rintro e w4 ⟨rfl, hd4, hk4⟩; have hj4 := HJC.out.kept hd4 hk4; have j0 := hj4.c0; have hfl := flush_any hj4.disk; rw [← HE4.out] at hfl; have HF4 := Lib.hid hfl; have HJD := Lib.hid hj4; have HKD := Lib.hid (HKC.out.trans (hk4.mono fun b hb => .inl hb)); clear hd4 hk4 hj4 hfl) | (go_at_call 60; refine HF4.out.mono ?_; rintro e w5 ⟨rfl, hd5, hk5⟩; have HD5 := Lib.hid hd5; have HK5 := Lib.hid hk5; clear hd5 hk5))
            rw [← HR.out, cm_stop4 hne, if_pos hne]
            exact ⟨rfl, ⟨mb, HJD.out.kept HD5.out HK5.out⟩, HKD.out.trans (HK5.out.mono fun b hb => .inl hb)⟩
          | true =>
            have e5 : J1.commitD l D1 = Dk.writes (home l) (cm4 J1 l D1).1 := (cm_eq J1 l D1).trans (step_go _ (by simpa using hz4))
            have HE5 := Lib.hid e5
            have hlr : ∀ x ∈ l, -1000000000000 ≤ x.sec ∧ x.sec ≤ 1000000000000 := fun x hx => by
              have := HG.out x hx
              unfold Jn.size at this
              omega
            have HLR := Lib.hid hlr
            clear e5 hlr
            cases hz5 : ((J1.commitD l D1).2 == 0) with
            | false =>
              have hne : (J1.commitD l D1).2 ≠ 0 := by simpa using hz5
              go_wp2_with (first | (go_at_call 58; refine HW3.out.mono ?_; rintro e w4 ⟨rfl, hd4, hk4⟩; have hj4 := HJC.out.kept hd4 hk4; have j0 := hj4.c0; have hfl := flush_any hj4.disk; rw [← HE4.out] at hfl; have HF4 := Lib.hid hfl; have HJD := Lib.hid hj4; have HKD := Lib.hid (HKC.out.trans (hk4.mono fun b hb => .inl hb)); have HSD := Lib.hid (HSC.out.block fun ad e => hk4.block _ (.inl (HKA.out ad e))); clear hd4 hk4 hj4 hfl) | (go_at_call 60; refine HF4.out.mono ?_; rintro e w5 ⟨rfl, hd5, hk5⟩; have hj5 := HJD.out.kept hd5 hk5; have HKE := Lib.hid (HKD.out.trans (hk5.mono fun b hb => .inl hb)); have HSE := Lib.hid (HSD.out.block fun ad e => hk5.block _ (.inl (HKA.out ad e))); have hap := apply_any hj5 a c l HSE.out HKA.out HLR.out (by omega); rw [← HE5.out] at hap; have HAP := Lib.hid hap; clear hd5 hk5 hj5 hap) | (go_at_call 62; refine HAP.out.mono ?_; rintro e w6 ⟨rfl, hj6, hk6⟩; have HJF := Lib.hid hj6; have HK6 := Lib.hid hk6; clear hj6 hk6))
              rw [← HR.out, if_pos hne]
              exact ⟨rfl, ⟨mb, HJF.out⟩, HKE.out.trans (HK6.out.mono fun b hb => .inl hb)⟩
            | true =>
              go_wp2_with (first | (go_at_call 58; refine HW3.out.mono ?_; rintro e w4 ⟨rfl, hd4, hk4⟩; have hj4 := HJC.out.kept hd4 hk4; have j0 := hj4.c0; have hfl := flush_any hj4.disk; rw [← HE4.out] at hfl; have HF4 := Lib.hid hfl; have HJD := Lib.hid hj4; have HKD := Lib.hid (HKC.out.trans (hk4.mono fun b hb => .inl hb)); have HSD := Lib.hid (HSC.out.block fun ad e => hk4.block _ (.inl (HKA.out ad e))); clear hd4 hk4 hj4 hfl) | (go_at_call 60; refine HF4.out.mono ?_; rintro e w5 ⟨rfl, hd5, hk5⟩; have hj5 := HJD.out.kept hd5 hk5; have HKE := Lib.hid (HKD.out.trans (hk5.mono fun b hb => .inl hb)); have HSE := Lib.hid (HSD.out.block fun ad e => hk5.block _ (.inl (HKA.out ad e))); have hap := apply_any hj5 a c l HSE.out HKA.out HLR.out (by omega); rw [← HE5.out] at hap; have HAP := Lib.hid hap; clear hd5 hk5 hj5 hap) | (go_at_call 62; refine HAP.out.mono ?_; rintro e w6 ⟨rfl, hj6, hk6⟩; have HNX := Lib.hid (next_any hj6 l.length (by omega) hn); have HK6 := Lib.hid (HKE.out.trans (hk6.mono fun b hb => .inl hb)); have HSF := Lib.hid (HSE.out.block fun ad e => hk6.block _ (.inl (HKA.out ad e))); clear hj6 hk6) | (go_at_call 63; refine HNX.out.mono ?_; rintro e w7 ⟨⟨v, rfl⟩, hj7, hk7⟩; have hus := hj7.ok.used; obtain ⟨⟨-, -, -, -, c4, -⟩, -, -, -, -, f4, -⟩ := cells6 hj7.row; have hok7 := hj7.ok; have hrow7 := heap_setCell_same w7 jp 4 _ 74 (.int .i64 (((J1.next l.length).used : Int) + (1 + (l.length : Int)))) hj7.row; have hj8 := hj7.stored (J' := { J1.next l.length with used := J1.used + (1 + l.length) }) (grownBy_setCell1 w7 jp 4 _) (hrow7.trans (by rw [show ((J1.used + (1 + l.length) : Nat) : Int) = ((J1.next l.length).used : Int) + (1 + (l.length : Int)) by simp only [Jn.next]; omega]; rfl)) rfl ⟨hok7.starts, hok7.number, hok7.place, HRO.out, Nat.le_trans hok7.since (by simp only [Jn.next]; omega), hok7.keys⟩; have HJ8 := Lib.hid hj8; have HK8 := Lib.hid ((HK6.out.trans hk7).trans (Kept.of_grown (grownBy_setCell1 w7 jp 4 (.int .i64 (((J1.next l.length).used : Int) + (1 + (l.length : Int))))) hj7.old hj7.kj)); clear hj8 hrow7 hok7; have HK7 := Lib.hid (HK6.out.trans hk7); clear hj7 hk7 HK7))
              generalize w7.setCell ⟨jp, 4, none⟩ (.int .i64 (((J1.next l.length).used : Int) + (1 + (l.length : Int)))) = W8 at *
              have hzc : (J1.commitD l D1).2 = 0 := by simpa using hz5
              have HZC := Lib.hid hzc
              obtain ⟨JJ, hJJ⟩ : ∃ JJ : List Int → Jn, ∀ ks, JJ ks = { J1.next l.length with used := J1.used + (1 + l.length), since := ks } := ⟨_, fun _ => rfl⟩
              have HJJ := Lib.hid hJJ
              have hj9 : JRows W8 K jp p (some mb) (JJ J1.since) (J1.commitD l D1).1 := by rw [hJJ]; exact HJ8.out
              have HJ9 := Lib.hid hj9
              clear HJ8 hj9 hJJ hzc HNX HK6 HSF HSE HKE HAP HJD HKD HSD HF4 HW3 HJC HSC HKC HE4 HE5 HLR HG c4 f4 hus hz2 hz3 hz4 hz5 HJB HSB HKB HJ1 HKW HSL
              go_loopw [127] (fun i wr => ∃ k : Nat, k ≤ l.length ∧ i = .int .i64 k ∧ JRows wr K jp p (some mb) (JJ (J1.since ++ (l.take k).map (·.sec))) (J1.commitD l D1).1 ∧ Kept K w wr) (fun i _ => l.length - (intOf i).toNat)
              case atStart => exact ⟨0, by omega, rfl, by simpa using HJ9.out, HK8.out⟩
              case round =>
                obtain ⟨k, hk, rfl, hj, hkp⟩ := hrel
                by_cases hlt : k < l.length
                · obtain ⟨b, off, rfl, g1', g2'⟩ := HS0.out k hlt
                  have hKb : K b := HKA.out _ rfl
                  have g1 := (hkp.cell (p := ⟨b, off + k * 2, none⟩) hKb).trans g1'
                  have g2 := (hkp.cell (p := ⟨b, off + k * 2 + 1, none⟩) hKb).trans g2'
                  clear g1' g2'
                  have hxi := hi l[k] (List.getElem_mem _)
                  have htk : J1.since ++ (l.take (k + 1)).map (·.sec) = (J1.since ++ (l.take k).map (·.sec)) ++ [l[k].sec] := by rw [List.take_succ_eq_append_getElem hlt, List.map_append, ← List.append_assoc]; rfl
                  have hlen : (J1.since ++ (l.take k).map (·.sec)).length = J1.since.length + k := by simp; omega
                  generalize l[k] = x at *
                  obtain ⟨sec, data⟩ := x
                  simp only at hxi g1 g2 htk
                  have HTK := Lib.hid htk
                  clear htk
                  generalize J1.since ++ (l.take k).map (·.sec) = ks at *
                  have hal := (Below.refl wr.heap.size wr).alloc (Nat.le_refl _) (.cells #[.int .i64 sec, .string data] 59)
                  have hnew := heap_alloc_last wr (.cells #[.int .i64 sec, .string data] 59)
                  have HN := Lib.hid (cells2' hnew)
                  have hws : (wr.alloc (.cells #[.int .i64 sec, .string data] 59)).heap.size = wr.heap.size + 1 := by simp
                  have hj1 := hj.below hal
                  have HJA := Lib.hid hj1
                  have HKP := Lib.hid (hkp.trans (Kept.of_below hal hj.old))
                  have HC := Lib.hid (cells6 hj1.row).1.2.2.2.2.2
                  have HLT := Lib.hid hj1.lt
                  clear hal hnew hj hj1 hkp
                  go_wp2
                  generalize wr.alloc (.cells #[.int .i64 sec, .string data] 59) = W9 at *
                  refine wp_region_rr 6 (fun w' => Below W9.heap.size W9 w') (by kernel_rfl) (by kernel_rfl) (Below.refl _ _).drew ?_
                  iterate 6
                    (apply RR_run
                     focus rfl
                     focus
                       intro w3 hS
                       have x0 := (hS.cell (p := ⟨wr.heap.size, 0, none⟩) (by simp only; omega)).trans HN.out.1
                       have j5 := (hS.cell (p := ⟨jp, 5, none⟩) HLT.out).trans HC.out
                       go_wp2
                       exact ⟨rfl, hS⟩
                     focus exact ⟨_, rfl⟩)
                  refine RR_end fun w3 hS => ?_
                  have hj3 := HJA.out.below hS
                  have HKP3 := Lib.hid (HKP.out.trans (Kept.of_below hS HJA.out.old))
                  have hjs := hj3.since
                  rw [HJJ.out] at hjs
                  obtain ⟨n, hm3, hn3, hkm⟩ : ∃ n, MapAt w3 mb n ks ∧ n ≤ ks.length ∧ ¬ K mb := by
                    rcases hjs with ⟨e, _⟩ | ⟨b', n, e, h1, h2, h3, _⟩
                    · cases e
                    · cases e
                      exact ⟨n, h1, h2, h3⟩
                  have hok3 := hj3.ok
                  rw [HJJ.out] at hok3
                  obtain ⟨w4, hrun, hm4, hg4⟩ := hm3.update (by have h1 := hok3.since; have h2 := hok3.used; simp only at h1 h2; omega) sec hxi
                  have hj4 : JRows w4 K jp p (some mb) (JJ (ks ++ [sec])) (J1.commitD l D1).1 := by
                    have := hj3.mapped hg4 (ks ++ [sec]) hm4 (by simp; omega) (by
                      rw [HJJ.out]
                      exact ⟨hok3.starts, hok3.number, hok3.place, hok3.used, by simp only [List.length_append, List.length_singleton]; omega, fun y hy => by
                        rcases List.mem_append.1 hy with h | h
                        · exact hok3.keys y h
                        · simp at h
                          rw [h]
                          exact hxi⟩)
                    rw [HJJ.out] at this ⊢
                    exact this
                  have HJ4 := Lib.hid hj4
                  have HK4 := Lib.hid (HKP3.out.trans (Kept.of_grown hg4 hj3.old hkm))
                  clear hj3 hjs hm3 hok3 hm4 hg4 hj4 hS hxi
                  go_wp2
                  go_roundw
                  case rel => exact ⟨k + 1, by omega, by go_num, by rw [HTK.out]; exact HJ4.out, HK4.out⟩
                  case measure => simp [intOf]; omega
                · obtain rfl : k = l.length := by omega
                  rw [List.take_length] at hj
                  have HJF := Lib.hid hj
                  clear hj
                  go_wp2
                  rw [← HR.out, if_neg (by simp [HZC.out])]
                  refine ⟨rfl, ⟨mb, ?_⟩, hkp⟩
                  have := HJF.out
                  rw [HJJ.out] at this
                  exact this
end Go.Proofs.Ytffgjjhopopgcaa
