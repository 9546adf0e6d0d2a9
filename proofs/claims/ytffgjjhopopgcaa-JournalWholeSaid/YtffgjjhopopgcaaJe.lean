/-
  The walks of apply and of a journal's check.
-/
import Derived.Test.YtffgjjhopopgcaaJd
import Derived.Test.YtffgjjhopopgcaaRrd
namespace Go.Proofs.Ytffgjjhopopgcaa
set_option linter.unusedVariables false
set_option linter.unusedSimpArgs false
open Go.RowKit
set_option maxRecDepth 100000
set_option maxHeartbeats 2000000

theorem writes_append (l m : List Wr) : ∀ D, Dk.writes (l ++ m) D = step (Dk.writes l D) (Dk.writes m) := by
  induction l with
  | nil => intro D; simp [Dk.writes, step]
  | cons x l ih =>
    intro D
    simp only [List.cons_append, Dk.writes, step]
    split
    · exact ih _
    · first | rfl | rw [if_neg (by assumption)]
theorem writes_stop (l m : List Wr) (D : Dk) (h : (Dk.writes l D).2 ≠ 0) : Dk.writes (l ++ m) D = Dk.writes l D := by
  rw [writes_append, step, if_neg h]
theorem writes_one (x : Wr) (D : Dk) : Dk.writes [x] D = D.write x.sec x.data := by
  simp only [Dk.writes, step]
  split
  · rename_i h
    rw [← h]
  · rfl
theorem home_snoc (l : List Wr) (x : Wr) : home (l ++ [x]) = home l ++ [⟨65 + x.sec, x.data⟩] := by simp [home]
theorem settled_loose (which : Nat → Bool) (D : Dk) : (D.settled which).loose = [] := rfl
theorem write_loose (n : Int) (s : ByteArray) (D : Dk) : (D.write n s).1.loose.length ≤ D.loose.length + 1 := by
  unfold Dk.write
  split
  · simp
  · split
    · simp
    · split
      · simp [Dk.crashed, Dk.settled]
      · simp [Dk.wrote, Dk.due_loose]
theorem write_e (n : Int) (s : ByteArray) (D : Dk) : (D.write n s).2 = 0 ∨ (D.write n s).2 = 2 ∨ (D.write n s).2 = 61 := by
  unfold Dk.write
  split
  · simp
  · split
    · simp
    · split <;> simp
theorem writes_loose (l : List Wr) : ∀ D : Dk, (Dk.writes l D).1.loose.length ≤ D.loose.length + l.length := by
  induction l with
  | nil => intro D; simp [Dk.writes]
  | cons x l ih =>
    intro D
    have h := write_loose x.sec x.data D
    simp only [Dk.writes, step, List.length_cons]
    split
    · have := ih (D.write x.sec x.data).1
      omega
    · omega

theorem JRows.c0 {w : World} {K : Nat → Prop} {jp p : Nat} {mv : Option Nat} {J : Jn} {D : Dk} (h : JRows w K jp p mv J D) : w.cell? ⟨jp, 0, none⟩ = some (.pointer (some ⟨p, 0, none⟩)) := (cells6 h.row).1.1

theorem apply_any {w : World} {K : Nat → Prop} {jp p : Nat} {mv : Option Nat} {J : Jn} {D : Dk} (h : JRows w K jp p mv J D) (a : Option Addr) (c : Nat) (l : List Wr) (hs : SlW w a l) (hK : ∀ ad, a = some ad → K ad.block)
    (hl : ∀ x ∈ l, -1000000000000 ≤ x.sec ∧ x.sec ≤ 1000000000000) (hm : D.loose.length + l.length < 1000000000000) :
    Calls Try.prog 62 #[.pointer (some ⟨jp, 0, none⟩), .slice a l.length c] w (fun e w' => e = .returned (.int .i64 (Dk.writes (home l) D).2) ∧ JRows w' K jp p mv J (Dk.writes (home l) D).1 ∧ Kept (JK K jp mv) w w') := by
  have HH := Lib.hid h
  have HS := Lib.hid hs
  have HKA := Lib.hid hK
  have HL := Lib.hid hl
  clear h hs hK hl
  generalize hR : (fun e w' => e = Ending.returned (.int .i64 (Dk.writes (home l) D).2) ∧ JRows w' K jp p mv J (Dk.writes (home l) D).1 ∧ Kept (JK K jp mv) w w') = R
  have HR := Lib.hid hR
  clear hR
  go_enter Try.func62, Try.ntmps62
  go_wp2
  go_loopw [10] (fun i wr => ∃ k : Nat, k ≤ l.length ∧ i = .int .i64 k ∧ (Dk.writes (home (l.take k)) D).2 = 0 ∧ JRows wr K jp p mv J (Dk.writes (home (l.take k)) D).1 ∧ Kept (JK K jp mv) w wr) (fun i _ => l.length - (intOf i).toNat)
  case atStart => exact ⟨0, by omega, rfl, by simp [home, Dk.writes], by simpa [home, Dk.writes] using HH.out, Kept.refl _ _⟩
  case round =>
    obtain ⟨k, hk, rfl, hz, hj, hkp⟩ := hrel
    by_cases hlt : k < l.length
    · obtain ⟨b, off, rfl, g1', g2'⟩ := HS.out k hlt
      have hKb : JK K jp mv b := .inl (HKA.out _ rfl)
      have g1 := (hkp.cell (p := ⟨b, off + k * 2, none⟩) hKb).trans g1'
      have g2 := (hkp.cell (p := ⟨b, off + k * 2 + 1, none⟩) hKb).trans g2'
      clear g1' g2'
      have hx := HL.out l[k] (List.getElem_mem _)
      have hst : Dk.writes (home (l.take (k + 1))) D = (Dk.writes (home (l.take k)) D).1.write (65 + l[k].sec) l[k].data := by
        rw [List.take_succ_eq_append_getElem hlt, home_snoc, writes_append, step, if_pos hz, writes_one]
      have hll : (Dk.writes (home (l.take k)) D).1.loose.length < 1000000000000 := by
        have := writes_loose (home (l.take k)) D
        have e : (home (l.take k)).length = k := by simp only [home, List.length_map, List.length_take]; omega
        omega
      have hfull : (Dk.writes (home (l.take (k + 1))) D).2 ≠ 0 → Dk.writes (home l) D = Dk.writes (home (l.take (k + 1))) D := fun hne => by
        have e : home l = home (l.take (k + 1)) ++ home (l.drop (k + 1)) := by simp only [home]; rw [← List.map_append, List.take_append_drop]
        rw [e]
        exact writes_stop _ _ _ hne
      generalize l[k] = x at *
      generalize Dk.writes (home (l.take k)) D = r at *
      obtain ⟨sec, data⟩ := x
      simp only at hx g1 g2 hst
      have HST := Lib.hid hst
      have HFU := Lib.hid hfull
      clear hst hfull hz
      have hal := (Below.refl wr.heap.size wr).alloc (Nat.le_refl _) (.cells #[.int .i64 sec, .string data] 59)
      have hnew := heap_alloc_last wr (.cells #[.int .i64 sec, .string data] 59)
      have HN := Lib.hid (cells2' hnew)
      have hws : (wr.alloc (.cells #[.int .i64 sec, .string data] 59)).heap.size = wr.heap.size + 1 := by simp
      have hj1 := hj.below hal
      have hk1 := hkp.trans (Kept.of_below hal hj.disk.old)
      have HJ1 := Lib.hid hj1
      have HK1 := Lib.hid hk1
      have HC0 := Lib.hid hj1.c0
      have HLT := Lib.hid hj1.lt
      clear hal hnew hj hkp hj1 hk1
      go_wp2
      generalize wr.alloc (.cells #[.int .i64 sec, .string data] 59) = W1 at *
      refine wp_region_rr 9 (fun w' => Below W1.heap.size W1 w') (by kernel_rfl) (by kernel_rfl) (Below.refl _ _).drew ?_
      iterate 9
        (apply RR_run
         focus rfl
         focus
           intro w3 hS
           have x0 := (hS.cell (p := ⟨wr.heap.size, 0, none⟩) (by simp only; omega)).trans HN.out.1
           have x1 := (hS.cell (p := ⟨wr.heap.size, 1, none⟩) (by simp only; omega)).trans HN.out.2
           have j0 := (hS.cell (p := ⟨jp, 0, none⟩) HLT.out).trans HC0.out
           go_wp2
           exact ⟨rfl, hS⟩
         focus exact ⟨_, rfl⟩)
      refine RR_end fun w3 hS => ?_
      have hj3 := HJ1.out.below hS
      have HK3 := Lib.hid (HK1.out.trans (Kept.of_below hS HJ1.out.disk.old))
      have HJ3 := Lib.hid hj3
      have hwr := write_any hj3.disk (65 + sec) data (by omega) hll
      rw [← HST.out] at hwr
      have HWR := Lib.hid hwr
      clear hj3 hwr hS
      cases hz2 : ((Dk.writes (home (l.take (k + 1))) D).2 == 0) with
      | true =>
        go_wp2_with (go_at_call 58; refine HWR.out.mono ?_; rintro e w4 ⟨rfl, hd4, hk4⟩; have HD4 := Lib.hid hd4; have HK4 := Lib.hid hk4; clear hd4 hk4)
        go_roundw
        case rel => exact ⟨k + 1, by omega, by go_num, by simpa using hz2, HJ3.out.kept HD4.out HK4.out, HK3.out.trans HK4.out⟩
        case measure => simp [intOf]; omega
      | false =>
        have hne : (Dk.writes (home (l.take (k + 1))) D).2 ≠ 0 := by simpa using hz2
        go_wp2_with (go_at_call 58; refine HWR.out.mono ?_; rintro e w4 ⟨rfl, hd4, hk4⟩; have HD4 := Lib.hid hd4; have HK4 := Lib.hid hk4; clear hd4 hk4)
        rw [← HR.out, HFU.out hne]
        exact ⟨rfl, HJ3.out.kept HD4.out HK4.out, HK3.out.trans HK4.out⟩
    · obtain rfl : k = l.length := by omega
      rw [List.take_length] at hz hj
      have HZ := Lib.hid hz
      clear hz
      go_wp2
      rw [← HR.out]
      exact ⟨by rw [HZ.out]; rfl, hj, hkp⟩
end Go.Proofs.Ytffgjjhopopgcaa
