/-
  The walk of Direct.
-/
import Derived.Test.YtffgjjhopopgcaaJk
namespace Go.Proofs.Ytffgjjhopopgcaa
set_option linter.unusedVariables false
set_option linter.unusedSimpArgs false
open Go.RowKit
set_option maxRecDepth 100000
set_option maxHeartbeats 8000000

/-- Direct, as far as it has gone through l. -/
def dirS (J : Jn) (D : Dk) (l : List Wr) : Jn × Dk × Int := if (l.any fun x => decide (x.sec ∈ J.since)) then J.checkpoint D else (J, D, 0)

theorem direct_over {w : World} {K : Nat → Prop} {jp p : Nat} {J : Jn} {D : Dk} (h : JUp w K jp p J D) (a : Option Addr) (c : Nat) (l : List Wr) (ho : J.over D = 61) :
    Calls Try.prog 26 #[.pointer (some ⟨jp, 0, none⟩), .slice a l.length c] w (RetJ w K jp p (Jn.direct l J D)) := by
  have ho1 := over_any h.at
  rw [ho] at ho1
  have HO := Lib.hid ho1
  have HJ := Lib.hid h
  have e : Jn.direct l J D = (J, D, 61) := by simp [Jn.direct, ho]
  rw [e]
  clear h ho1 e
  go_enter Try.func26, Try.ntmps26
  go_wp2_with (go_at_call 55; refine HO.out.mono ?_; rintro e w1 ⟨rfl, hb1⟩; have HB1 := Lib.hid hb1; clear hb1)
  go_ret
  exact ⟨rfl, HJ.out.below HB1.out, Kept.of_below HB1.out HJ.out.at.old⟩
theorem direct_bad {w : World} {K : Nat → Prop} {jp p : Nat} {J : Jn} {D : Dk} (h : JUp w K jp p J D) (a : Option Addr) (c : Nat) (l : List Wr) (hs : SlW w a l) (hi : ∀ x ∈ l, inL x.sec) (ho : J.over D = 0) (hl : l.length ≤ 1000) (hc : Jn.check D l = 2) :
    Calls Try.prog 26 #[.pointer (some ⟨jp, 0, none⟩), .slice a l.length c] w (RetJ w K jp p (Jn.direct l J D)) := by
  have ho1 := over_any h.at
  rw [ho] at ho1
  have HO := Lib.hid ho1
  have HJ := Lib.hid h
  have hcc := fun w' (hb : Below w.heap.size w w') => jcheck_any (h.below hb).at a c l (hs.below hb) hi (by omega)
  rw [hc] at hcc
  have HC := Lib.hid hcc
  have e : Jn.direct l J D = (J, D, 2) := by simp [Jn.direct, ho, hc]
  rw [e]
  clear h ho1 e hcc hs hi
  go_enter Try.func26, Try.ntmps26
  go_wp2_with (first | (go_at_call 55; refine HO.out.mono ?_; rintro e w1 ⟨rfl, hb1⟩; have HB1 := Lib.hid hb1; clear hb1) | (go_at_call 56; refine (HC.out _ HB1.out).mono ?_; rintro e w2 ⟨rfl, hb2⟩; have HB2 := Lib.hid (HB1.out.trans (hb2.mono HB1.out.size)); clear hb2))
  go_ret
  exact ⟨rfl, HJ.out.below HB2.out, Kept.of_below HB2.out HJ.out.at.old⟩

theorem checkpoint_since (J : Jn) (D : Dk) (h : (J.checkpoint D).2.2 = 0) : (J.checkpoint D).1.since = [] := by
  unfold Jn.checkpoint at *
  simp only at h
  rw [if_pos h]
  rfl
theorem any_snoc (l : List Wr) (x : Wr) (ks : List Int) : ((l ++ [x]).any fun y => decide (y.sec ∈ ks)) = ((l.any fun y => decide (y.sec ∈ ks)) || decide (x.sec ∈ ks)) := by simp

theorem dirS_in (J : Jn) (D : Dk) (l : List Wr) (k : Nat) (h : k < l.length) (hz : (dirS J D (l.take k)).2.2 = 0) (hin : l[k].sec ∈ (dirS J D (l.take k)).1.since) :
    dirS J D (l.take k) = (J, D, 0) ∧ dirS J D (l.take (k + 1)) = J.checkpoint D ∧ dirS J D l = J.checkpoint D := by
  by_cases ha : ((l.take k).any fun x => decide (x.sec ∈ J.since)) = true
  · exfalso
    unfold dirS at hz hin
    rw [if_pos ha] at hz hin
    rw [checkpoint_since J D hz] at hin
    cases hin
  · have e : dirS J D (l.take k) = (J, D, 0) := if_neg ha
    rw [e] at hin
    refine ⟨e, if_pos ?_, if_pos ?_⟩
    · rw [List.take_succ_eq_append_getElem h, any_snoc]
      simp [hin]
    · rw [List.any_eq_true]
      exact ⟨l[k], List.getElem_mem h, by simpa using hin⟩
theorem dirS_out (J : Jn) (D : Dk) (l : List Wr) (k : Nat) (h : k < l.length) (hin : ¬ l[k].sec ∈ (dirS J D (l.take k)).1.since) (hz : (dirS J D (l.take k)).2.2 = 0) :
    dirS J D (l.take (k + 1)) = dirS J D (l.take k) := by
  by_cases ha : ((l.take k).any fun x => decide (x.sec ∈ J.since)) = true
  · have e : dirS J D (l.take k) = J.checkpoint D := if_pos ha
    rw [e]
    refine if_pos ?_
    rw [List.take_succ_eq_append_getElem h, any_snoc, ha]
    rfl
  · have e : dirS J D (l.take k) = (J, D, 0) := if_neg ha
    rw [e] at hin ⊢
    refine if_neg ?_
    rw [List.take_succ_eq_append_getElem h, any_snoc]
    simp only [Bool.or_eq_true, decide_eq_true_eq, not_or]
    exact ⟨ha, hin⟩

theorem direct_good {w : World} {K : Nat → Prop} {jp p : Nat} {J : Jn} {D : Dk} (h : JUp w K jp p J D) (a : Option Addr) (c : Nat) (l : List Wr) (hs : SlW w a l) (hK : ∀ ad, a = some ad → K ad.block) (hi : ∀ x ∈ l, inL x.sec)
    (hm : D.loose.length < 1000000000) (ho : J.over D = 0) (hl : l.length ≤ 1000) (hc : Jn.check D l = 0) :
    Calls Try.prog 26 #[.pointer (some ⟨jp, 0, none⟩), .slice a l.length c] w (RetJ w K jp p (if (dirS J D l).2.2 ≠ 0 then dirS J D l else ((dirS J D l).1, ((Dk.writes (home l)) (dirS J D l).2.1).1, ((Dk.writes (home l)) (dirS J D l).2.1).2))) := by
  have ho1 := over_any h.at
  rw [ho] at ho1
  have HO := Lib.hid ho1
  have hcc := fun w' (hb : Below w.heap.size w w') => jcheck_any (h.below hb).at a c l (hs.below hb) hi (by omega)
  rw [hc] at hcc
  have HCK := Lib.hid hcc
  have HG := Lib.hid (check_good hc)
  have HKA := Lib.hid hK
  have HH := Lib.hid h
  have HS0 := Lib.hid hs
  have hsz1 := h.at.disk.1.size
  generalize hR : (RetJ w K jp p (if (dirS J D l).2.2 ≠ 0 then dirS J D l else ((dirS J D l).1, ((Dk.writes (home l)) (dirS J D l).2.1).1, ((Dk.writes (home l)) (dirS J D l).2.1).2))) = R
  have HR := Lib.hid hR
  clear h hs hK ho1 hcc hR hc ho
  go_enter Try.func26, Try.ntmps26
  go_wp2_with (first | (go_at_call 55; refine HO.out.mono ?_; rintro e w1 ⟨rfl, hb1⟩; have HB1 := Lib.hid hb1; clear hb1) | (go_at_call 56; refine (HCK.out _ HB1.out).mono ?_; rintro e w2 ⟨rfl, hb2⟩; have HB2 := Lib.hid (HB1.out.trans (hb2.mono HB1.out.size)); clear hb2))
  clear HO HCK
  go_loopw [23] (fun i wr => ∃ k : Nat, k ≤ l.length ∧ i = .int .i64 k ∧ (dirS J D (l.take k)).2.2 = 0 ∧ JUp wr K jp p (dirS J D (l.take k)).1 (dirS J D (l.take k)).2.1 ∧ Kept K w wr) (fun i _ => l.length - (intOf i).toNat)
  case atStart => exact ⟨0, by omega, rfl, by simp [dirS], by simpa [dirS] using HH.out.below HB2.out, Kept.of_below HB2.out HH.out.at.old⟩
  case round =>
    obtain ⟨k, hk, rfl, hz, hj, hkp⟩ := hrel
    by_cases hlt : k < l.length
    · obtain ⟨b, off, rfl, g1', g2'⟩ := HS0.out k hlt
      have hKb : K b := HKA.out _ rfl
      have g1 := (hkp.cell (p := ⟨b, off + k * 2, none⟩) hKb).trans g1'
      have g2 := (hkp.cell (p := ⟨b, off + k * 2 + 1, none⟩) hKb).trans g2'
      clear g1' g2'
      have hxi := hi l[k] (List.getElem_mem _)
      have hin := fun hz => dirS_in J D l k hlt hz
      have hout := dirS_out J D l k hlt
      generalize l[k] = x at *
      have HIN := Lib.hid hin
      have HOUT := Lib.hid hout
      have HZ := Lib.hid hz
      clear hin hout hz
      generalize dirS J D (l.take k) = r at *
      obtain ⟨sec, data⟩ := x
      simp only at hxi g1 g2 HIN HOUT
      obtain ⟨mb, hj⟩ := hj
      obtain ⟨n, hmp⟩ : ∃ n, MapAt wr mb n r.1.since := by
        rcases hj.since with ⟨e, _⟩ | ⟨b', n, e, h1, _⟩
        · cases e
        · cases e
          exact ⟨n, h1⟩
      have hal := (Below.refl wr.heap.size wr).alloc (Nat.le_refl _) (.cells #[.int .i64 sec, .string data] 59)
      have hnew := heap_alloc_last wr (.cells #[.int .i64 sec, .string data] 59)
      have HN := Lib.hid (cells2' hnew)
      have hws : (wr.alloc (.cells #[.int .i64 sec, .string data] 59)).heap.size = wr.heap.size + 1 := by simp
      have hj1 := hj.below hal
      have HJA := Lib.hid hj1
      have HKP := Lib.hid (hkp.trans (Kept.of_below hal hj.old))
      have HC := Lib.hid (cells6 hj1.row).1.2.2.2.2.2
      have hmp1 := hmp.block (hal.block _ hmp.lt)
      have HLT := Lib.hid (And.intro hj1.lt hmp1.lt)
      have HM := Lib.hid hmp1
      have HXI := Lib.hid hxi
      have HWS := Lib.hid hws
      clear hal hnew hj hj1 hkp hmp hmp1 hxi hws
      go_wp2
      generalize wr.alloc (.cells #[.int .i64 sec, .string data] 59) = W1 at *
      by_cases hmem : sec ∈ r.1.since
      · have LK := Lib.hid (show ∀ w', w'.heap[mb]? = W1.heap[mb]? → (Instr.lookup 72 (.map (some mb)) (.int .i64 sec) false).run Try.prog w' = .ok (.int .i64 1) w' from fun w' hb => by
          have := (HM.out.block hb).look sec HXI.out
          rwa [if_pos hmem] at this)
        clear HM
        obtain ⟨h1, h2, h3⟩ := HIN.out HZ.out hmem
        have H2 := Lib.hid h2
        have H3 := Lib.hid h3
        subst h1
        clear hmem h2 h3 HIN HOUT HZ
        refine wp_region_rr 8 (fun w' => Below W1.heap.size W1 w') (by kernel_rfl) (by kernel_rfl) (Below.refl _ _).drew ?_
        iterate 8
          (apply RR_run
           focus rfl
           focus
             intro w3 hS
             have x0 := (hS.cell (p := ⟨wr.heap.size, 0, none⟩) (by have := HWS.out; show wr.heap.size < _; omega)).trans HN.out.1
             have j5 := (hS.cell (p := ⟨jp, 5, none⟩) HLT.out.1).trans HC.out
             have lk := LK.out w3 (hS.block mb HLT.out.2)
             go_wp2
             exact ⟨rfl, hS⟩
           focus exact ⟨_, rfl⟩)
        refine RR_end fun w3 hS => ?_
        have hj3 : JUp w3 K jp p J D := ⟨mb, HJA.out.below hS⟩
        have HJ3 := Lib.hid hj3
        have HK3 := Lib.hid (HKP.out.trans (Kept.of_below hS HJA.out.old))
        have HCP := Lib.hid (checkpoint_up hj3 (by omega))
        clear hj3 hS
        cases hz2 : ((J.checkpoint D).2.2 == 0) with
        | true =>
          go_wp2_with (go_at_call 57; refine HCP.out.mono ?_; rintro e w4 ⟨rfl, hj4, hk4⟩; have HJ4 := Lib.hid hj4; have HK4 := Lib.hid hk4; clear hj4 hk4)
          go_roundw
          case rel => exact ⟨k + 1, by omega, by go_num, by rw [H2.out]; simpa using hz2, by rw [H2.out]; exact HJ4.out, HK3.out.trans HK4.out⟩
          case measure => simp [intOf]; omega
        | false =>
          have hne : (J.checkpoint D).2.2 ≠ 0 := by simpa using hz2
          go_wp2_with (go_at_call 57; refine HCP.out.mono ?_; rintro e w4 ⟨rfl, hj4, hk4⟩; have HJ4 := Lib.hid hj4; have HK4 := Lib.hid hk4; clear hj4 hk4)
          rw [← HR.out, H3.out, if_pos hne]
          exact ⟨rfl, HJ4.out, HK3.out.trans HK4.out⟩
      · have LK := Lib.hid (show ∀ w', w'.heap[mb]? = W1.heap[mb]? → (Instr.lookup 72 (.map (some mb)) (.int .i64 sec) false).run Try.prog w' = .ok (.int .i64 0) w' from fun w' hb => by
          have := (HM.out.block hb).look sec HXI.out
          rwa [if_neg hmem] at this)
        clear HM
        have H2 := Lib.hid (HOUT.out hmem HZ.out)
        clear hmem HIN HOUT
        refine wp_region_rr 8 (fun w' => Below W1.heap.size W1 w') (by kernel_rfl) (by kernel_rfl) (Below.refl _ _).drew ?_
        iterate 8
          (apply RR_run
           focus rfl
           focus
             intro w3 hS
             have x0 := (hS.cell (p := ⟨wr.heap.size, 0, none⟩) (by have := HWS.out; show wr.heap.size < _; omega)).trans HN.out.1
             have j5 := (hS.cell (p := ⟨jp, 5, none⟩) HLT.out.1).trans HC.out
             have lk := LK.out w3 (hS.block mb HLT.out.2)
             go_wp2
             exact ⟨rfl, hS⟩
           focus exact ⟨_, rfl⟩)
        refine RR_end fun w3 hS => ?_
        have HJ3 := Lib.hid (show JUp w3 K jp p r.1 r.2.1 from ⟨mb, HJA.out.below hS⟩)
        have HK3 := Lib.hid (HKP.out.trans (Kept.of_below hS HJA.out.old))
        clear hS
        go_wp2
        go_roundw
        case rel => exact ⟨k + 1, by omega, by go_num, by rw [H2.out]; exact HZ.out, by rw [H2.out]; exact HJ3.out, HK3.out⟩
        case measure => simp [intOf]; omega
    · obtain rfl : k = l.length := by omega
      rw [List.take_length] at hz hj
      have hll : (dirS J D l).2.1.loose.length ≤ D.loose.length + 1 := by
        unfold dirS
        split
        · exact ckD_loose J D
        · simp
      have HZ := Lib.hid hz
      generalize dirS J D l = r at *
      obtain ⟨mb, hj⟩ := hj
      have hap := apply_any hj a c l (HS0.out.block fun ad e => hkp.block _ (HKA.out ad e)) HKA.out (fun x hx => by
        have := HG.out x hx
        unfold Jn.size at this
        omega) (by omega)
      have HAP := Lib.hid hap
      have HKP := Lib.hid hkp
      clear hap hj hz hkp
      go_wp2_with (go_at_call 62; refine HAP.out.mono ?_; rintro e w4 ⟨rfl, hj4, hk4⟩; have HJ4 := Lib.hid hj4; have HK4 := Lib.hid hk4; clear hj4 hk4)
      rw [← HR.out, if_neg (by simp [HZ.out])]
      exact ⟨rfl, ⟨mb, HJ4.out⟩, HKP.out.trans (HK4.out.mono fun b hb => .inl hb)⟩

/-- DIRECT: what the journal in thought does. -/
theorem direct_any {w : World} {K : Nat → Prop} {jp p : Nat} {J : Jn} {D : Dk} (h : JUp w K jp p J D) (a : Option Addr) (c : Nat) (l : List Wr) (hs : SlW w a l) (hK : ∀ ad, a = some ad → K ad.block) (hi : ∀ x ∈ l, inL x.sec)
    (hm : D.loose.length < 1000000000) (hl : l.length ≤ 1000) :
    Calls Try.prog 26 #[.pointer (some ⟨jp, 0, none⟩), .slice a l.length c] w (RetJ w K jp p (Jn.direct l J D)) := by
  rcases over_cases J D with ho | ho
  · by_cases hc : Jn.check D l = 0
    · have := direct_good h a c l hs hK hi hm ho hl hc
      have e : Jn.direct l J D = (if (dirS J D l).2.2 ≠ 0 then dirS J D l else ((dirS J D l).1, ((Dk.writes (home l)) (dirS J D l).2.1).1, ((Dk.writes (home l)) (dirS J D l).2.1).2)) := by
        unfold Jn.direct
        rw [if_neg (by simp [ho]), if_neg (by simp [hc])]
        rfl
      rw [e]
      exact this
    · have hc2 : Jn.check D l = 2 := by unfold Jn.check at *; split <;> simp_all
      exact direct_bad h a c l hs hi ho hl hc2
  · exact direct_over h a c l ho
end Go.Proofs.Ytffgjjhopopgcaa
