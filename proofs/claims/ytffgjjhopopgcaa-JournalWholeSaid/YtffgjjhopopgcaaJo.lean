/-
  The walk of Open.
-/
import Derived.Test.YtffgjjhopopgcaaJn
namespace Go.Proofs.Ytffgjjhopopgcaa
set_option linter.unusedVariables false
set_option linter.unusedSimpArgs false
open Go.RowKit
set_option maxRecDepth 100000
set_option maxHeartbeats 8000000

/-- What Open does as long as a transaction stands. -/
def openLoop : Nat → Jn → Dk → Jn × Dk × Int
  | 0, J, D => (J, D, 0)
  | n + 1, J, D =>
    if (J.stands D).2 = false then (J, D, 0)
    else if (Dk.writes (home (J.stands D).1) D).2 ≠ 0 then (J, (Dk.writes (home (J.stands D).1) D).1, (Dk.writes (home (J.stands D).1) D).2)
    else openLoop n (J.next (J.stands D).1.length) (Dk.writes (home (J.stands D).1) D).1
def numOf (s : ByteArray) : Nat := getB (((bOf s).take 12).drop 4)
/-- The journal that a disk's first sector tells of. -/
def markJ (D : Dk) : Jn := ⟨D.starts, numOf (D.get 0), manyOf (D.get 0), 0, []⟩
def openD (D : Dk) : Option Jn × Dk × Int :=
  if D.wrong ≠ 0 then (none, D, D.wrong)
  else if 64 ≤ manyOf (D.get 0) then (none, D, 62)
  else if D.get 0 ≠ ⟨(markL (numOf (D.get 0)) (manyOf (D.get 0))).toArray⟩ then (none, D, 62)
  else
    let r := openLoop 64 (markJ D) D
    if r.2.2 ≠ 0 then (none, r.2.1, r.2.2)
    else
      let c := Jn.checkpoint { r.1 with number := r.1.number + 1 } r.2.1
      if c.2.2 ≠ 0 then (none, c.2.1, c.2.2) else (some c.1, c.2.1, 0)

/-- What Open leaves. -/
def RetO (w : World) (K : Nat → Prop) (p : Nat) (r : Option Jn × Dk × Int) (e : Ending) (w' : World) : Prop :=
  (match r.1 with
    | none => e = .returned (.tuple #[.pointer none, .int .i64 r.2.2]) ∧ DiskAt w' K p r.2.1
    | some J => ∃ jp, e = .returned (.tuple #[.pointer (some ⟨jp, 0, none⟩), .int .i64 r.2.2]) ∧ JUp w' K jp p J r.2.1 ∧ w.heap.size ≤ jp) ∧ Kept K w w'

theorem open_bad {w : World} {K : Nat → Prop} {p : Nat} {D : Dk} (h : DiskAt w K p D) (hd : D.wrong ≠ 0) : Calls Try.prog 30 #[.pointer (some ⟨p, 0, none⟩)] w (RetO w K p (openD D)) := by
  have HC := Lib.hid (jdcheck_any h)
  have HH := Lib.hid h
  have hz : (D.wrong == 0) = false := by simpa using hd
  have e : openD D = (none, D, D.wrong) := if_pos hd
  rw [e]
  clear h hd e
  generalize hR : RetO w K p (none, D, D.wrong) = R
  have HR := Lib.hid hR
  clear hR
  generalize hW : D.wrong = e0 at *
  have HWR := Lib.hid hW
  clear hW
  go_enter Try.func30, Try.ntmps30
  go_wp2_with (go_at_call 67; refine HC.out.mono ?_; rintro e w1 ⟨rfl, hb⟩; have HB := Lib.hid hb; clear hb)
  rw [← HR.out]
  exact ⟨⟨rfl, HH.out.below HB.out⟩, Kept.of_below HB.out HH.out.old⟩

theorem write_up {D : Dk} {n : Int} {s : ByteArray} (h : (D.write n s).2 = 0) : (D.write n s).1.down = false := by
  unfold Dk.write at *
  split at h
  · cases h
  · rename_i hd
    split at h
    · cases h
    · split at h
      · cases h
      · rename_i h1 h2
        rw [if_neg hd, if_neg h1, if_neg h2]
        show D.due.down = false
        rw [Dk.due_down]
        simpa using hd
theorem writes_up (l : List Wr) : ∀ {D : Dk}, D.down = false → (Dk.writes l D).2 = 0 → (Dk.writes l D).1.down = false := by
  induction l with
  | nil => intro D h _; exact h
  | cons x l ih =>
    intro D h hz
    simp only [Dk.writes, step] at hz ⊢
    split at hz
    · rename_i h1
      rw [if_pos h1]
      exact ih (write_up h1) hz
    · exact absurd hz (by assumption)
theorem stands_len (J : Jn) (D : Dk) : (J.stands D).1.length ≤ 24 := by
  unfold Jn.stands
  split
  · simp
  · split
    · simp
    · rename_i h1 l h2
      simp only
      rw [standL_length _ _ h2]
      omega
theorem stands_check {J : Jn} {D : Dk} (h : (J.stands D).2 = true) : Jn.check D (J.stands D).1 = 0 := by
  unfold Jn.stands at *
  split at h
  · cases h
  · rename_i h0
    rw [if_neg h0]
    split at h
    · cases h
    · simp only [Bool.and_eq_true, decide_eq_true_eq] at h
      exact h.2
theorem openLoop_stop {n : Nat} {J : Jn} {D : Dk} (h : (J.stands D).2 = false) : openLoop (n + 1) J D = (J, D, 0) := if_pos h
theorem openLoop_bad {n : Nat} {J : Jn} {D : Dk} (h : (J.stands D).2 = true) (hw : (Dk.writes (home (J.stands D).1) D).2 ≠ 0) : openLoop (n + 1) J D = (J, (Dk.writes (home (J.stands D).1) D).1, (Dk.writes (home (J.stands D).1) D).2) := by
  unfold openLoop
  rw [if_neg (by rw [h]; simp), if_pos hw]
theorem openLoop_go {n : Nat} {J : Jn} {D : Dk} (h : (J.stands D).2 = true) (hw : (Dk.writes (home (J.stands D).1) D).2 = 0) : openLoop (n + 1) J D = openLoop n (J.next (J.stands D).1.length) (Dk.writes (home (J.stands D).1) D).1 := by
  conv => lhs; unfold openLoop
  rw [if_neg (by rw [h]; simp), if_neg (by simp [hw])]
theorem open_eq {D : Dk} (h1 : D.wrong = 0) (h2 : ¬ 64 ≤ manyOf (D.get 0)) (h3 : D.get 0 = ⟨(markL (numOf (D.get 0)) (manyOf (D.get 0))).toArray⟩) (r : Jn × Dk × Int) (hr : openLoop 64 (markJ D) D = r) :
    openD D = if r.2.2 ≠ 0 then (none, r.2.1, r.2.2) else if (Jn.checkpoint { r.1 with number := r.1.number + 1 } r.2.1).2.2 ≠ 0 then (none, (Jn.checkpoint { r.1 with number := r.1.number + 1 } r.2.1).2.1, (Jn.checkpoint { r.1 with number := r.1.number + 1 } r.2.1).2.2) else (some (Jn.checkpoint { r.1 with number := r.1.number + 1 } r.2.1).1, (Jn.checkpoint { r.1 with number := r.1.number + 1 } r.2.1).2.1, 0) := by
  unfold openD
  rw [if_neg (by simp [h1]), if_neg h2, if_neg (fun h => h h3), hr]

theorem box_journal {w w' : World} {K : Nat → Prop} {p : Nat} {D : Dk} {jp : Nat} {J : Jn} (h : DiskAt w K p D) (hb : Below w.heap.size w w') (hj : w.heap.size ≤ jp) (hrow : JRow w' jp p none J) (hs : J.since = []) (hok : J.Ok) : JRows w' K jp p none J D := by
  have hlt : jp < w'.heap.size := (Array.getElem?_eq_some_iff.1 hrow).1
  refine ⟨(h.fresh hb).mono fun b hb' => ?_, hrow, .inl ⟨rfl, hs⟩, fun hk => by have := h.old jp hk; omega, hok⟩
  rcases hb' with hb' | hb' | hb'
  · exact .inl hb'
  · subst hb'
    exact .inr ⟨hj, hlt⟩
  · cases hb'

theorem open_mark {w : World} {K : Nat → Prop} {p : Nat} {D : Dk} (h : DiskAt w K p D) (hm : D.loose.length < 1000000000) (hd : D.wrong = 0) (hbig : manyOf (D.get 0) < 64 → D.get 0 = ⟨(markL (numOf (D.get 0)) (manyOf (D.get 0))).toArray⟩ → numOf (D.get 0) < 2305843009213693952) :
    Calls Try.prog 30 #[.pointer (some ⟨p, 0, none⟩)] w (RetO w K p (openD D)) := by
  have hup : D.down = false := by
    unfold Dk.wrong at hd
    cases hx : D.down with
    | false => rfl
    | true => rw [hx] at hd; simp at hd
  have hsz : 73 ≤ D.sure.length := by unfold Dk.wrong at hd; rw [hup] at hd; simp at hd; omega
  have hc := jdcheck_any h
  rw [hd] at hc
  have HC := Lib.hid hc
  have HWRG := Lib.hid hd
  have hrd := fun w' (hb : Below w.heap.size w w') => read_any (h.below hb) ((0 : Nat) : Int)
  rw [read_up hup _ (by omega)] at hrd
  have HRD := Lib.hid hrd
  have HST := Lib.hid (fun w' (hb : Below w.heap.size w w') => starts_any (h.below hb))
  have hss : (D.get 0).size = 512 := get_size h.1 _ (by omega)
  have HH := Lib.hid h
  have HBIG := Lib.hid hbig
  generalize hR : RetO w K p (openD D) = R
  have HR := Lib.hid hR
  clear hR h hc hrd hd hbig
  obtain ⟨s, hs⟩ : ∃ s, D.get 0 = s := ⟨_, rfl⟩
  rw [hs] at hss HRD
  have HSS := Lib.hid hs
  clear hs
  have hg := fun w' => get_any (s.extract 4 12) (by rw [ByteArray.size_extract]; unfold maxLen; omega) w'
  have hnum : getB ((s.extract 4 12).data.toList.take 8) = numOf s := by
    show getB ((bOf (s.extract 4 12)).take 8) = _
    rw [extract_bytes, bOf_mk, List.take_of_length_le (by rw [List.length_drop, List.length_take]; omega)]
    rfl
  rw [hnum] at hg
  have HG := Lib.hid hg
  have hidx : 12 < s.size := by omega
  have hMo : s[12].toNat = manyOf s := by
    unfold manyOf bOf
    rw [List.getD, List.getElem?_eq_getElem (by rw [Array.length_toList]; exact hidx)]
    rfl
  have hMb : manyOf s < 256 := by rw [← hMo]; exact UInt8.toNat_lt _
  have hNb : numOf s < 18446744073709551616 := by
    have h1 := getB_lt (((bOf s).take 12).drop 4)
    have h2 : (((bOf s).take 12).drop 4).length = 8 := by rw [List.length_drop, List.length_take, bOf_size]; omega
    rw [h2] at h1
    unfold numOf
    omega
  obtain ⟨M, hM⟩ : ∃ M, manyOf s = M := ⟨_, rfl⟩
  obtain ⟨Nn, hN⟩ : ∃ n, numOf s = n := ⟨_, rfl⟩
  rw [hM] at hMo hMb
  rw [hN] at hNb HG
  have hw64 : wrap64 (M : Int) = (M : Int) := by unfold wrap64; omega
  have HM := Lib.hid hM
  have HN := Lib.hid hN
  clear hM hN hg hnum
  go_enter Try.func30, Try.ntmps30
  go_wp2_with (first | (go_at_call 67; refine HC.out.mono ?_; rintro e w1 ⟨rfl, hb⟩; have HB := Lib.hid hb; clear hb) | (go_at_call 68; refine (HRD.out _ HB.out).mono ?_; rintro e w2 ⟨rfl, hb2⟩; have HB2 := Lib.hid (HB.out.trans (hb2.mono HB.out.size)); clear hb2))
  refine wp_region_rr 10 (fun w' => Below w2.heap.size w2 w') (by kernel_rfl) (by kernel_rfl) (Below.refl _ _).drew ?_
  iterate 10
    (apply RR_run
     focus rfl
     focus
       intro w3 hS
       have HB3 := Lib.hid (HB2.out.trans (hS.mono HB2.out.size))
       have HS3 := Lib.hid hS
       clear hS
       go_wp2_with (first | (go_at_call 69; refine (HST.out _ HB3.out).mono ?_; rintro e w5 ⟨rfl, rfl⟩) | (go_at_call 70; refine (HG.out _).mono ?_; rintro e w5 ⟨rfl, rfl⟩))
       exact ⟨rfl, HS3.out⟩
     focus exact ⟨_, rfl⟩)
  refine RR_end fun w3 hS => ?_
  have hb3 := HB2.out.trans (hS.mono HB2.out.size)
  have hal := (Below.refl w3.heap.size w3).alloc (Nat.le_refl _) (.cells #[.pointer (some ⟨p, 0, none⟩), .int .i64 D.starts, .int .u64 Nn, .int .i64 M, .int .i64 0, .map none] 74)
  have hrow := heap_alloc_last w3 (.cells #[.pointer (some ⟨p, 0, none⟩), .int .i64 D.starts, .int .u64 Nn, .int .i64 M, .int .i64 0, .map none] 74)
  have hsz4 : (w3.alloc (.cells #[.pointer (some ⟨p, 0, none⟩), .int .i64 D.starts, .int .u64 Nn, .int .i64 M, .int .i64 0, .map none] 74)).heap.size = w3.heap.size + 1 := by simp
  have hmk := fun w' => mark_any Nn M hNb hMb w'
  have hbq := toList_beq2 s ⟨(markL Nn M).toArray⟩
  go_wp2
  generalize w3.alloc (.cells #[.pointer (some ⟨p, 0, none⟩), .int .i64 D.starts, .int .u64 Nn, .int .i64 M, .int .i64 0, .map none] 74) = W4 at *
  have HB4 := Lib.hid (hb3.trans (hal.mono hb3.size))
  have HSZ4 := Lib.hid (And.intro hsz4 hb3.size)
  have HROW := Lib.hid hrow
  have HC4 := Lib.hid (And.intro (cells6 hrow).1.2.2.1 (cells6 hrow).1.2.2.2.1)
  have HLT := Lib.hid (show w3.heap.size < W4.heap.size by omega)
  obtain ⟨ms, hms⟩ : ∃ ms : ByteArray, ⟨(markL Nn M).toArray⟩ = ms := ⟨_, rfl⟩
  rw [hms] at hmk hbq
  have HMS := Lib.hid hms
  have HMK := Lib.hid hmk
  clear hS hb3 hal hrow hsz4 hmk hms
  by_cases h64 : 64 ≤ M
  · have hd64 : decide (64 ≤ (M : Int)) = true := by simp; omega
    have e : openD D = (none, D, 62) := by
      unfold openD
      rw [if_neg (by rw [HWRG.out]; simp), HSS.out, HM.out, if_pos h64]
    have HE := Lib.hid e
    clear e hbq
    refine wp_region_rr 18 (fun w' => Below W4.heap.size W4 w') (by kernel_rfl) (by kernel_rfl) (Below.refl _ _).drew ?_
    iterate 6
      (apply RR_run
       focus rfl
       focus
         intro w5 hS
         have j2 := (hS.cell (p := ⟨w3.heap.size, 2, none⟩) HLT.out).trans HC4.out.1
         have j3 := (hS.cell (p := ⟨w3.heap.size, 3, none⟩) HLT.out).trans HC4.out.2
         have HS5 := Lib.hid hS
         clear hS
         go_wp2_with (go_at_call 71; refine (HMK.out _).mono ?_; rintro e w6 ⟨rfl, h6⟩)
         exact ⟨rfl, by first | exact HS5.out | exact HS5.out.trans (Below.mono (by assumption) HS5.out.size)⟩
       focus exact ⟨_, rfl⟩)
    iterate 11
      (apply RR_skip
       focus rfl
       focus (simp only [Act.put, List.setIfInBounds_toArray, List.set_cons_zero, List.set_cons_succ]; rfl))
    iterate 1
      (apply RR_run
       focus rfl
       focus
         intro w5 hS
         have j2 := (hS.cell (p := ⟨w3.heap.size, 2, none⟩) HLT.out).trans HC4.out.1
         have j3 := (hS.cell (p := ⟨w3.heap.size, 3, none⟩) HLT.out).trans HC4.out.2
         have HS5 := Lib.hid hS
         clear hS
         go_wp2_with (go_at_call 71; refine (HMK.out _).mono ?_; rintro e w6 ⟨rfl, h6⟩)
         exact ⟨rfl, by first | exact HS5.out | exact HS5.out.trans (Below.mono (by assumption) HS5.out.size)⟩
       focus exact ⟨_, rfl⟩)
    refine RR_end fun w5 hS => ?_
    have HB5 := Lib.hid (HB4.out.trans (hS.mono HB4.out.size))
    clear hS
    go_wp2
    rw [← HR.out, HE.out]
    exact ⟨⟨rfl, HH.out.below HB5.out⟩, Kept.of_below HB5.out HH.out.old⟩
  · have hd64 : decide (64 ≤ (M : Int)) = false := by simp; omega
    by_cases hsm : s = ms
    · rw [decide_eq_true hsm] at hbq
      have hn61 : Nn < 2305843009213693952 := by
        have := HBIG.out
        rw [HSS.out, HM.out, HN.out, HMS.out] at this
        exact this (by omega) hsm
      have HSM := Lib.hid hsm
      clear hsm
      refine wp_region_rr 18 (fun w' => Below W4.heap.size W4 w') (by kernel_rfl) (by kernel_rfl) (Below.refl _ _).drew ?_
      iterate 18
        (apply RR_run
         focus rfl
         focus
           intro w5 hS
           have j2 := (hS.cell (p := ⟨w3.heap.size, 2, none⟩) HLT.out).trans HC4.out.1
           have j3 := (hS.cell (p := ⟨w3.heap.size, 3, none⟩) HLT.out).trans HC4.out.2
           have HS5 := Lib.hid hS
           clear hS
           go_wp2_with (go_at_call 71; refine (HMK.out _).mono ?_; rintro e w6 ⟨rfl, h6⟩)
           exact ⟨rfl, by first | exact HS5.out | exact HS5.out.trans (Below.mono (by assumption) HS5.out.size)⟩
         focus exact ⟨_, rfl⟩)
      refine RR_end fun w5 hS => ?_
      have HB5 := Lib.hid (HB4.out.trans (hS.mono HB4.out.size))
      have HROW5 := Lib.hid ((hS.block _ HLT.out).trans HROW.out)
      have hj5 : JRows w5 K w3.heap.size p none (markJ D) D := box_journal HH.out HB5.out HSZ4.out.2 (by
        unfold JRow markJ
        rw [HSS.out, HM.out, HN.out]
        exact HROW5.out) rfl ⟨HH.out.1.starts, by show numOf (D.get 0) < _; rw [HSS.out, HN.out]; omega, by show manyOf (D.get 0) < _; rw [HSS.out, HM.out]; omega, Nat.zero_le _, Nat.le_refl _, by intro x hx; cases hx⟩
      have HJ5 := Lib.hid hj5
      have hmn : (markJ D).number = Nn := by show numOf (D.get 0) = _; rw [HSS.out, HN.out]
      have HMN := Lib.hid hmn
      clear hS hj5 hmn
      go_wp2
      go_loopw [8] (fun i wr => ∃ (k : Nat) (J' : Jn) (D' : Dk), k ≤ 64 ∧ i = .int .i64 k ∧ openLoop 64 (markJ D) D = openLoop (64 - k) J' D' ∧ JRows wr K w3.heap.size p none J' D' ∧ Kept K w wr ∧ D'.down = false ∧ D'.sure.length = D.sure.length ∧ J'.number = Nn + k ∧ J'.used = 0 ∧ D'.loose.length ≤ D.loose.length + 24 * k) (fun i _ => 64 - (intOf i).toNat)
      case atStart => exact ⟨0, markJ D, D, by omega, rfl, rfl, HJ5.out, Kept.of_below HB5.out HH.out.old, hup, rfl, HMN.out, rfl, by omega⟩
      case round =>
        obtain ⟨k, J', D', hk, rfl, hlo, hj, hkp, hup', hsz', hnum', hus', hls'⟩ := hrel
        by_cases hlt : k < 64
        · have hsn := stands_any hj hup' (by omega)
          have hlen := stands_len J' D'
          have hchk := @stands_check J' D'
          have hstop := @openLoop_stop (63 - k) J' D'
          have hbad := @openLoop_bad (63 - k) J' D'
          have hgo := @openLoop_go (63 - k) J' D'
          rw [show 63 - k + 1 = 64 - k by omega, ← hlo] at hstop hbad hgo
          clear hlo
          obtain ⟨⟨ls, okb⟩, hst⟩ : ∃ st, J'.stands D' = st := ⟨_, rfl⟩
          rw [hst] at hsn hlen hchk hstop hbad hgo
          simp only at hlen hchk hstop hbad hgo
          have HSN := Lib.hid hsn
          have HSTOP := Lib.hid hstop
          have HBAD := Lib.hid hbad
          have HGO := Lib.hid hgo
          have HCHK := Lib.hid hchk
          have HJ0 := Lib.hid hj
          have HK0 := Lib.hid hkp
          have HF := Lib.hid (And.intro hup' (And.intro hsz' (And.intro hnum' (And.intro hus' hls'))))
          clear hsn hstop hbad hgo hchk hst hj hkp hup' hsz' hnum' hus' hls'
          go_wp2_with fail
          refine HSN.out.mono ?_
          rintro e w6 ⟨a, c, rfl, hsl, hal, hb6⟩
          cases okb with
          | false =>
            have HEND := Lib.hid (HSTOP.out rfl)
            have hj := HJ0.out.below hb6
            have hkp := HK0.out.trans (Kept.of_below hb6 HJ0.out.old)
            obtain ⟨hup', hsz', hnum', hus', hls'⟩ := HF.out
            obtain ⟨wr, rfl⟩ : ∃ wr : World, wr = w6 := ⟨_, rfl⟩
            clear HSN HSTOP HBAD HGO HCHK hsl hal HJ0 HK0 HF hb6
            have hn2 : J'.number + 1 < 4611686018427387904 := by omega
            have hok := hj.ok
            have hj2 := hj.stored (J' := { J' with number := J'.number + 1 }) (grownBy_setCell1 wr w3.heap.size 2 (.int .u64 ((J'.number : Int) + 1))) ((heap_setCell_same wr w3.heap.size 2 _ 74 (.int .u64 ((J'.number : Int) + 1)) hj.row).trans (by rw [show ((J'.number + 1 : Nat) : Int) = (J'.number : Int) + 1 by omega]; rfl)) rfl ⟨hok.starts, hn2, hok.place, hok.used, hok.since, hok.keys⟩
            obtain ⟨⟨-, -, c2, -, -, -⟩, -, -, f2, -, -, -⟩ := cells6 hj.row
            have HKS := Lib.hid (hkp.trans (Kept.of_grown (grownBy_setCell1 wr w3.heap.size 2 (.int .u64 ((J'.number : Int) + 1))) hj.old hj.kj))
            have HCP := Lib.hid (checkpoint_rows hj2 (by omega))
            have HOE := Lib.hid (open_eq HWRG.out (by rw [HSS.out, HM.out]; exact h64) (by rw [HSS.out, HM.out, HN.out, HMS.out]; exact HSM.out) _ HEND.out)
            clear hj hj2 hkp hok hnum' hus' hls' hsz' hup'
            cases hz : ((Jn.checkpoint { J' with number := J'.number + 1 } D').2.2 == 0) with
            | false =>
              have hne : (Jn.checkpoint { J' with number := J'.number + 1 } D').2.2 ≠ 0 := by simpa using hz
              go_wp2_with ((go_at_call 57; refine HCP.out.mono ?_; rintro e w7 ⟨rfl, ⟨mv', hj7, -⟩, hk7⟩; have HD7 := Lib.hid hj7.disk; have HK7 := Lib.hid hk7; clear hj7 hk7))
              rw [← HR.out, HOE.out, if_neg (by simp), if_pos hne]
              exact ⟨⟨rfl, HD7.out.mono fun b hb => .inl hb⟩, HKS.out.trans HK7.out⟩
            | true =>
              have heq : (Jn.checkpoint { J' with number := J'.number + 1 } D').2.2 = 0 := by simpa using hz
              go_wp2_with ((go_at_call 57; refine HCP.out.mono ?_; rintro e w7 ⟨rfl, ⟨mv', hj7, hn7⟩, hk7⟩; have HJ7 := Lib.hid hj7; have HN7 := Lib.hid hn7; have HK7 := Lib.hid hk7; clear hj7 hn7 hk7))
              rw [← HR.out, HOE.out, if_neg (by simp), if_neg (by simp [heq])]
              refine ⟨⟨w3.heap.size, rfl, ?_, HSZ4.out.2⟩, HKS.out.trans HK7.out⟩
              cases mv' with
              | none => exact absurd heq (HN7.out rfl).2
              | some b => exact ⟨b, HJ7.out⟩

          | true =>
            obtain ⟨hup', hsz', hnum', hus', hls'⟩ := HF.out
            have hrange := check_good (HCHK.out rfl)
            have hjf := HJ0.out.fresh hb6
            have hap := apply_any hjf a c ls hsl (fun ad e => .inr (hal ad e)) (fun x hx => by
              have := hrange x hx
              have h8 := HH.out.1.size
              unfold Jn.size at this
              omega) (by omega)
            have hup2 := writes_up (home ls) hup'
            have hsu2 := writes_sure (home ls) D'
            have hlo2 := writes_loose (home ls) D'
            rw [show (home ls).length = ls.length by simp [home]] at hlo2
            have HAP := Lib.hid hap
            have HKP := Lib.hid (HK0.out.trans (Kept.of_below hb6 HJ0.out.old))
            have hkn : J'.number + 1 < 4611686018427387904 := by omega
            have HP := Lib.hid (And.intro hup2 (And.intro (hsu2.trans hsz') (And.intro hnum' (And.intro hus' (show (Dk.writes (home ls) D').1.loose.length ≤ D.loose.length + 24 * (k + 1) by omega)))))
            clear hjf hap hup2 hsu2 hlo2 hrange hsl hal hb6 hup' hsz' hnum' hus' hls' HF HSN HSTOP HCHK HJ0 HK0
            cases hz : ((Dk.writes (home ls) D').2 == 0) with
            | false =>
              have hne : (Dk.writes (home ls) D').2 ≠ 0 := by simpa using hz
              have HOE := Lib.hid (open_eq HWRG.out (by rw [HSS.out, HM.out]; exact h64) (by rw [HSS.out, HM.out, HN.out, HMS.out]; exact HSM.out) _ (HBAD.out rfl hne))
              go_wp2_with (go_at_call 62; refine HAP.out.mono ?_; rintro e w7 ⟨rfl, hj7, hk7⟩; have HJ7 := Lib.hid hj7; have HK7 := Lib.hid hk7; clear hj7 hk7)
              rw [← HR.out, HOE.out, if_pos hne]
              exact ⟨⟨rfl, HJ7.out.disk.mono fun b hb => .inl (.inl hb)⟩, HKP.out.trans (HK7.out.mono fun b hb => .inl (.inl hb))⟩
            | true =>
              have HG2 := Lib.hid (HGO.out rfl (by simpa using hz))
              go_wp2_with (first | (go_at_call 62; refine HAP.out.mono ?_; rintro e w7 ⟨rfl, hj7, hk7⟩; have HNX := Lib.hid (next_any (hj7.mono fun b hb => .inl hb) ls.length hlen hkn); have HK7 := Lib.hid (HKP.out.trans (hk7.mono fun b hb => .inl (.inl hb))); clear hj7 hk7) | (go_at_call 63; refine HNX.out.mono ?_; rintro e w8 ⟨⟨v, rfl⟩, hj8, hk8⟩; have HJ8 := Lib.hid hj8; have HK8 := Lib.hid (HK7.out.trans hk8); clear hj8 hk8))
              go_roundw
              case rel => exact ⟨k + 1, J'.next ls.length, (Dk.writes (home ls) D').1, by omega, by go_num, by rw [show 64 - (k + 1) = 63 - k by omega]; exact HG2.out, HJ8.out, HK8.out, HP.out.1 (by simpa using hz), HP.out.2.1, by have := HP.out.2.2.1; simp only [Jn.next]; omega, HP.out.2.2.2.1, HP.out.2.2.2.2⟩
              case measure => simp [intOf]; omega
        · obtain rfl : k = 64 := by omega
          have HEND := Lib.hid (show openLoop 64 (markJ D) D = (J', D', 0) from hlo)
          clear hlo
          have hn2 : J'.number + 1 < 4611686018427387904 := by omega
          have hok := hj.ok
          have hj2 := hj.stored (J' := { J' with number := J'.number + 1 }) (grownBy_setCell1 wr w3.heap.size 2 (.int .u64 ((J'.number : Int) + 1))) ((heap_setCell_same wr w3.heap.size 2 _ 74 (.int .u64 ((J'.number : Int) + 1)) hj.row).trans (by rw [show ((J'.number + 1 : Nat) : Int) = (J'.number : Int) + 1 by omega]; rfl)) rfl ⟨hok.starts, hn2, hok.place, hok.used, hok.since, hok.keys⟩
          obtain ⟨⟨-, -, c2, -, -, -⟩, -, -, f2, -, -, -⟩ := cells6 hj.row
          have HKS := Lib.hid (hkp.trans (Kept.of_grown (grownBy_setCell1 wr w3.heap.size 2 (.int .u64 ((J'.number : Int) + 1))) hj.old hj.kj))
          have HCP := Lib.hid (checkpoint_rows hj2 (by omega))
          have HOE := Lib.hid (open_eq HWRG.out (by rw [HSS.out, HM.out]; exact h64) (by rw [HSS.out, HM.out, HN.out, HMS.out]; exact HSM.out) _ HEND.out)
          clear hj hj2 hkp hok hnum' hus' hls' hsz' hup'
          cases hz : ((Jn.checkpoint { J' with number := J'.number + 1 } D').2.2 == 0) with
          | false =>
            have hne : (Jn.checkpoint { J' with number := J'.number + 1 } D').2.2 ≠ 0 := by simpa using hz
            go_wp2_with ((go_at_call 57; refine HCP.out.mono ?_; rintro e w7 ⟨rfl, ⟨mv', hj7, -⟩, hk7⟩; have HD7 := Lib.hid hj7.disk; have HK7 := Lib.hid hk7; clear hj7 hk7))
            rw [← HR.out, HOE.out, if_neg (by simp), if_pos hne]
            exact ⟨⟨rfl, HD7.out.mono fun b hb => .inl hb⟩, HKS.out.trans HK7.out⟩
          | true =>
            have heq : (Jn.checkpoint { J' with number := J'.number + 1 } D').2.2 = 0 := by simpa using hz
            go_wp2_with ((go_at_call 57; refine HCP.out.mono ?_; rintro e w7 ⟨rfl, ⟨mv', hj7, hn7⟩, hk7⟩; have HJ7 := Lib.hid hj7; have HN7 := Lib.hid hn7; have HK7 := Lib.hid hk7; clear hj7 hn7 hk7))
            rw [← HR.out, HOE.out, if_neg (by simp), if_neg (by simp [heq])]
            refine ⟨⟨w3.heap.size, rfl, ?_, HSZ4.out.2⟩, HKS.out.trans HK7.out⟩
            cases mv' with
            | none => exact absurd heq (HN7.out rfl).2
            | some b => exact ⟨b, HJ7.out⟩

    · rw [decide_eq_false hsm] at hbq
      have e : openD D = (none, D, 62) := by
        unfold openD
        rw [if_neg (by rw [HWRG.out]; simp), HSS.out, HM.out, HN.out, if_neg h64, if_pos (by rw [HMS.out]; exact hsm)]
      have HE := Lib.hid e
      clear e hsm
      refine wp_region_rr 18 (fun w' => Below W4.heap.size W4 w') (by kernel_rfl) (by kernel_rfl) (Below.refl _ _).drew ?_
      iterate 18
        (apply RR_run
         focus rfl
         focus
           intro w5 hS
           have j2 := (hS.cell (p := ⟨w3.heap.size, 2, none⟩) HLT.out).trans HC4.out.1
           have j3 := (hS.cell (p := ⟨w3.heap.size, 3, none⟩) HLT.out).trans HC4.out.2
           have HS5 := Lib.hid hS
           clear hS
           go_wp2_with (go_at_call 71; refine (HMK.out _).mono ?_; rintro e w6 ⟨rfl, h6⟩)
           exact ⟨rfl, by first | exact HS5.out | exact HS5.out.trans (Below.mono (by assumption) HS5.out.size)⟩
         focus exact ⟨_, rfl⟩)
      refine RR_end fun w5 hS => ?_
      have HB5 := Lib.hid (HB4.out.trans (hS.mono HB4.out.size))
      clear hS
      go_wp2
      rw [← HR.out, HE.out]
      exact ⟨⟨rfl, HH.out.below HB5.out⟩, Kept.of_below HB5.out HH.out.old⟩

/-- OPEN: what the disk in thought gives. Asked: the number of a mark that is one is not too large. -/
theorem open_any {w : World} {K : Nat → Prop} {p : Nat} {D : Dk} (h : DiskAt w K p D) (hm : D.loose.length < 1000000000) (hbig : manyOf (D.get 0) < 64 → D.get 0 = ⟨(markL (numOf (D.get 0)) (manyOf (D.get 0))).toArray⟩ → numOf (D.get 0) < 2305843009213693952) :
    Calls Try.prog 30 #[.pointer (some ⟨p, 0, none⟩)] w (RetO w K p (openD D)) := by
  by_cases hd : D.wrong = 0
  · exact open_mark h hm hd hbig
  · exact open_bad h hd
end Go.Proofs.Ytffgjjhopopgcaa
