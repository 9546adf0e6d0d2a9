/-
  The walk of a checkpoint.
-/
import Derived.Test.YtffgjjhopopgcaaJf
namespace Go.Proofs.Ytffgjjhopopgcaa
set_option linter.unusedVariables false
set_option linter.unusedSimpArgs false
open Go.RowKit
set_option maxRecDepth 100000
set_option maxHeartbeats 4000000

theorem ckmark_any {w : World} {K : Nat → Prop} {jp p : Nat} {mv : Option Nat} {J : Jn} {D : Dk} (h : JRows w K jp p mv J D) (bx : Nat) (hbx : w.cell? ⟨bx, 0, none⟩ = some (.pointer (some ⟨jp, 0, none⟩))) (hm : D.loose.length < 1000000000000) :
    Calls Try.prog 80 #[.pointer (some ⟨bx, 0, none⟩)] w (RetD w (JK K jp mv) p (.int .i64 (D.write 0 ⟨(markL J.number J.place).toArray⟩).2) (D.write 0 ⟨(markL J.number J.place).toArray⟩).1) := by
  obtain ⟨⟨c0, c1, c2, c3, c4, c5⟩, f0, f1, f2, f3, f4, f5⟩ := cells6 h.row
  have HM := Lib.hid (fun w' => mark_any J.number J.place (by have := h.ok.number; omega) (by have := h.ok.place; omega) w')
  have HW := Lib.hid (fun w' (hb : Below w.heap.size w w') => write_any (h.disk.below hb) 0 ⟨(markL J.number J.place).toArray⟩ (by decide) hm)
  generalize (⟨(markL J.number J.place).toArray⟩ : ByteArray) = ms at *
  have HJ := Lib.hid h
  have C := Lib.hid (And.intro hbx (And.intro c0 (And.intro c2 c3)))
  have HLT := Lib.hid (And.intro (World.block_lt_of_cell? w _ hbx) h.lt)
  clear h hbx c0 c1 c2 c3 c4 c5 f0 f1 f2 f3 f4 f5
  go_enter Try.func80, Try.ntmps80
  go_wp2
  refine wp_region_rr 13 (fun w' => Below w.heap.size w w') (by kernel_rfl) (by kernel_rfl) (Below.refl _ _).drew ?_
  iterate 13
    (apply RR_run
     focus rfl
     focus
       intro w3 hS
       have x0 := (hS.cell (p := ⟨bx, 0, none⟩) HLT.out.1).trans C.out.1
       have j0 := (hS.cell (p := ⟨jp, 0, none⟩) HLT.out.2).trans C.out.2.1
       have j2 := (hS.cell (p := ⟨jp, 2, none⟩) HLT.out.2).trans C.out.2.2.1
       have j3 := (hS.cell (p := ⟨jp, 3, none⟩) HLT.out.2).trans C.out.2.2.2
       have HS3 := Lib.hid hS
       clear hS
       go_wp2_with (go_at_call 71; refine (HM.out _).mono ?_; rintro e w4 ⟨rfl, h4⟩)
       exact ⟨rfl, by first | exact HS3.out | exact HS3.out.trans (Below.mono (by assumption) HS3.out.size)⟩
     focus exact ⟨_, rfl⟩)
  refine RR_end fun w3 hS => ?_
  have HS := Lib.hid hS
  clear hS
  go_wp2_with (go_at_call 58; refine (HW.out _ HS.out).mono ?_; rintro e w4 ⟨rfl, hd4, hk4⟩)
  go_ret
  exact ⟨rfl, hd4, (Kept.of_below HS.out HJ.out.disk.old).trans hk4⟩

theorem DiskRows.turned {w w' : World} {K K' : Nat → Prop} {p gs cs : Nat} {vl : Value} {ak : Option Addr} {ck : Nat} {D : Dk} (h : DiskRows w K p gs cs vl ak ck D) {b : Nat} (hg : w.grownBy w' (some b)) (hb : K b)
    (hn : ∀ o v, w.cell? ⟨b, o, none⟩ = some (.bool v) → False) (hK : ∀ c, K' c → c < w'.heap.size ∧ (K c ∨ w.heap.size ≤ c)) : DiskRows w' K' p gs cs vl ak ck D := by
  have h1 := h.turn hg hb hn
  have no : ∀ c, c < w.heap.size → ¬ K c → ¬ K' c := fun c h1 h2 h3 => by
    rcases (hK c h3).2 with h | h
    · exact h2 h
    · omega
  exact ⟨fun c hc => (hK c hc).1, h1.row, h1.sure, h1.loose, h1.keep, no p h.p_lt h.kp, no gs h.gs_lt h.kg, fun g e => ⟨no g (h.loose.lt g e).2 (h.kl g e).1, (h.kl g e).2⟩, h.gp, h1.kk⟩

theorem enters60 : ∀ args w, (callFunc 60 args).run Try.prog w = .ok (.enter 60 args) w := enters_of Try.func60 (by kernel_rfl) rfl
theorem enters80 : ∀ args w, (callFunc 80 args).run Try.prog w = .ok (.enter 80 args) w := enters_of Try.func80 (by kernel_rfl) rfl

theorem flush_loose (D : Dk) : D.flush.1.loose.length ≤ D.loose.length := by
  unfold Dk.flush
  split
  · exact Nat.le_refl _
  · split <;> simp [Dk.crashed, Dk.settled]
def ckS (J : Jn) (D : Dk) : Nat → Dk × Int
  | 0 => (D, 0)
  | 1 => D.flush
  | 2 => step D.flush fun D => D.write 0 ⟨(markL J.number J.place).toArray⟩
  | _ => J.ckD D
theorem ckS_stop1 (J : Jn) (D : Dk) (h : (ckS J D 1).2 ≠ 0) : J.ckD D = ckS J D 1 := by
  have h' : D.flush.2 ≠ 0 := h
  unfold Jn.ckD
  simp only [step, if_neg h']
  rfl
theorem ckS_stop2 (J : Jn) (D : Dk) (h : (ckS J D 2).2 ≠ 0) : J.ckD D = ckS J D 2 := if_neg h
theorem ckS_two (J : Jn) (D : Dk) (h : (ckS J D 1).2 = 0) : ckS J D 2 = (ckS J D 1).1.write 0 ⟨(markL J.number J.place).toArray⟩ := if_pos h
theorem ckS_three (J : Jn) (D : Dk) (h : (ckS J D 2).2 = 0) : ckS J D 3 = (ckS J D 2).1.flush := if_pos h
theorem checkpoint_bad (J : Jn) (D : Dk) (r : Dk × Int) (h : J.ckD D = r) (hr : r.2 ≠ 0) : J.checkpoint D = (J, r.1, r.2) := by
  unfold Jn.checkpoint
  rw [h, if_neg hr]
theorem checkpoint_good (J : Jn) (D : Dk) (h : (J.ckD D).2 = 0) : J.checkpoint D = (J.emptied, (J.ckD D).1, 0) := by
  unfold Jn.checkpoint
  rw [if_pos h, h]

theorem checkpoint_rows {w : World} {K : Nat → Prop} {jp p : Nat} {mv : Option Nat} {J : Jn} {D : Dk} (h : JRows w K jp p mv J D) (hm : D.loose.length < 100000000000) :
    Calls Try.prog 57 #[.pointer (some ⟨jp, 0, none⟩)] w (fun e w' => e = .returned (.int .i64 (J.checkpoint D).2.2) ∧ (∃ mv', JRows w' K jp p mv' (J.checkpoint D).1 (J.checkpoint D).2.1 ∧ (mv' = none → mv = none ∧ (J.checkpoint D).2.2 ≠ 0)) ∧ Kept K w w') := by
  have hb1 := (Below.refl w.heap.size w).alloc (Nat.le_refl _) (.cells #[.pointer (some ⟨jp, 0, none⟩)] 50)
  have hn1 := heap_alloc_last w (.cells #[.pointer (some ⟨jp, 0, none⟩)] 50)
  have hz1 : (w.alloc (.cells #[.pointer (some ⟨jp, 0, none⟩)] 50)).heap.size = w.heap.size + 1 := by simp
  have HJ := Lib.hid h
  have HB1 := Lib.hid hb1
  have hmm := @run_makeMap Try.prog
  generalize hR : (fun e w' => e = Ending.returned (.int .i64 (J.checkpoint D).2.2) ∧ (∃ mv', JRows w' K jp p mv' (J.checkpoint D).1 (J.checkpoint D).2.1 ∧ (mv' = none → mv = none ∧ (J.checkpoint D).2.2 ≠ 0)) ∧ Kept K w w') = R
  have HR := Lib.hid hR
  have HZ1 := Lib.hid hz1
  clear hR hb1 hz1
  go_enter Try.func57, Try.ntmps57
  go_wp2
  generalize w.alloc (.cells #[.pointer (some ⟨jp, 0, none⟩)] 50) = W1 at *
  have hbx : W1.cell? ⟨w.heap.size, 0, none⟩ = some (.pointer (some ⟨jp, 0, none⟩)) := by rw [cell_of_row _ _ _ _ _ _ hn1]; rfl
  have hj1 := h.below HB1.out
  have HC := Lib.hid (And.intro hbx hj1.c0)
  have HL := Lib.hid (And.intro (World.block_lt_of_cell? W1 _ hbx) hj1.lt)
  have HJ1 := Lib.hid hj1
  clear h hbx hj1
  refine wp_region_rr 11 (fun w' => Below W1.heap.size W1 w') (by kernel_rfl) (by kernel_rfl) (Below.refl _ _).drew ?_
  iterate 11
    (apply RR_run
     focus rfl
     focus
       intro w3 hS
       have x0 := (hS.cell (p := ⟨w.heap.size, 0, none⟩) HL.out.1).trans HC.out.1
       have j0 := (hS.cell (p := ⟨jp, 0, none⟩) HL.out.2).trans HC.out.2
       go_wp2
       exact ⟨rfl, hS⟩
     focus exact ⟨_, rfl⟩)
  refine RR_end fun w3 hS => ?_
  have hal := (Below.refl w3.heap.size w3).alloc (Nat.le_refl _) (.cells #[.func (.func 60) #[.pointer (some ⟨p, 0, none⟩)] #[], .func (.func 80) #[] #[.pointer (some ⟨w.heap.size, 0, none⟩)], .func (.func 60) #[.pointer (some ⟨p, 0, none⟩)] #[]] 62)
  have hnew := heap_alloc_last w3 (.cells #[.func (.func 60) #[.pointer (some ⟨p, 0, none⟩)] #[], .func (.func 80) #[] #[.pointer (some ⟨w.heap.size, 0, none⟩)], .func (.func 60) #[.pointer (some ⟨p, 0, none⟩)] #[]] 62)
  have hsz4 : (w3.alloc (.cells #[.func (.func 60) #[.pointer (some ⟨p, 0, none⟩)] #[], .func (.func 80) #[] #[.pointer (some ⟨w.heap.size, 0, none⟩)], .func (.func 60) #[.pointer (some ⟨p, 0, none⟩)] #[]] 62)).heap.size = w3.heap.size + 1 := by simp
  have hb3 : Below w.heap.size w w3 := HB1.out.trans (hS.mono (by have := HZ1.out; omega))
  have hb4 : Below w.heap.size w _ := hb3.trans (hal.mono hb3.size)
  have hx4 := ((hal.cell (p := ⟨w.heap.size, 0, none⟩) (by have h1 : w.heap.size < W1.heap.size := HL.out.1; have := hS.size; show w.heap.size < w3.heap.size; omega)).trans (hS.cell (p := ⟨w.heap.size, 0, none⟩) HL.out.1)).trans HC.out.1
  go_wp2
  generalize w3.alloc (.cells #[.func (.func 60) #[.pointer (some ⟨p, 0, none⟩)] #[], .func (.func 80) #[] #[.pointer (some ⟨w.heap.size, 0, none⟩)], .func (.func 60) #[.pointer (some ⟨p, 0, none⟩)] #[]] 62) = W4 at *
  have hj4 := HJ.out.fresh hb4
  have HK4' := Lib.hid (show ∀ b, w.heap.size ≤ b → b < W4.heap.size → JK (fun b => K b ∨ (w.heap.size ≤ b ∧ b < W4.heap.size)) jp mv b from fun b h1 h2 => .inl (.inr ⟨h1, h2⟩))
  have HJ4 := Lib.hid hj4
  have HB4 := Lib.hid (Kept.of_below hb4 HJ.out.old)
  have HX4 := Lib.hid hx4
  have HBL4 := Lib.hid hb4
  have HSZ4 := Lib.hid (And.intro hsz4 (And.intro hS.size (And.intro HZ1.out HL.out)))
  have HF0 := Lib.hid (show W4.cell? ⟨w3.heap.size, 0, none⟩ = some (.func (.func 60) #[.pointer (some ⟨p, 0, none⟩)] #[]) by rw [cell_of_row _ _ _ _ _ _ hnew]; rfl)
  have HF1 := Lib.hid (show W4.cell? ⟨w3.heap.size, 1, none⟩ = some (.func (.func 80) #[] #[.pointer (some ⟨w.heap.size, 0, none⟩)]) by rw [cell_of_row _ _ _ _ _ _ hnew]; rfl)
  have HF2 := Lib.hid (show W4.cell? ⟨w3.heap.size, 2, none⟩ = some (.func (.func 60) #[.pointer (some ⟨p, 0, none⟩)] #[]) by rw [cell_of_row _ _ _ _ _ _ hnew]; rfl)
  have HMM := Lib.hid hmm
  clear hal hnew hsz4 hb3 hb4 hx4 hj4 hS hn1 HC HL HZ1 HB1 HJ1 hmm
  go_loopw [21] (fun i wr => ∃ k : Nat, k ≤ 3 ∧ i = .int .i64 k ∧ (ckS J D k).2 = 0 ∧ JRows wr (fun b => K b ∨ (w.heap.size ≤ b ∧ b < W4.heap.size)) jp p mv J (ckS J D k).1 ∧ Kept (JK (fun b => K b ∨ (w.heap.size ≤ b ∧ b < W4.heap.size)) jp mv) W4 wr) (fun i _ => 3 - (intOf i).toNat)
  case atStart => exact ⟨0, by omega, rfl, rfl, HJ4.out, Kept.refl _ _⟩
  case round =>
    obtain ⟨k, hk, rfl, hz, hjr, hkr⟩ := hrel
    have HJr := Lib.hid hjr
    have HKr := Lib.hid hkr
    have q0 := (hkr.cell (p := ⟨w3.heap.size, 0, none⟩) (HK4'.out _ (by have := HSZ4.out; show w.heap.size ≤ w3.heap.size; omega) (by have := HSZ4.out; show w3.heap.size < _; omega))).trans HF0.out
    have q1 := (hkr.cell (p := ⟨w3.heap.size, 1, none⟩) (HK4'.out _ (by have := HSZ4.out; show w.heap.size ≤ w3.heap.size; omega) (by have := HSZ4.out; show w3.heap.size < _; omega))).trans HF1.out
    have q2 := (hkr.cell (p := ⟨w3.heap.size, 2, none⟩) (HK4'.out _ (by have := HSZ4.out; show w.heap.size ≤ w3.heap.size; omega) (by have := HSZ4.out; show w3.heap.size < _; omega))).trans HF2.out
    have HX := Lib.hid ((hkr.cell (p := ⟨w.heap.size, 0, none⟩) (HK4'.out _ (Nat.le_refl _) (by have := HSZ4.out; show w.heap.size < _; omega))).trans HX4.out)
    clear hjr hkr
    obtain rfl | rfl | rfl | rfl : k = 0 ∨ k = 1 ∨ k = 2 ∨ k = 3 := by omega
    · have HFL := Lib.hid (show Calls Try.prog 60 #[.pointer (some ⟨p, 0, none⟩)] wr (RetD wr (JK (fun b => K b ∨ (w.heap.size ≤ b ∧ b < W4.heap.size)) jp mv) p (.int .i64 (ckS J D 1).2) (ckS J D 1).1) from flush_any HJr.out.disk)
      cases hz2 : ((ckS J D 1).2 == 0) with
      | true =>
        go_wp2_with (go_at_call 60; refine HFL.out.mono ?_; rintro e w4 ⟨rfl, hd4, hk4⟩; have HD4 := Lib.hid hd4; have HK4 := Lib.hid hk4; clear hd4 hk4)
        go_roundw
        case rel => exact ⟨1, by omega, by first | rfl | go_num, by simpa using hz2, HJr.out.kept HD4.out HK4.out, HKr.out.trans HK4.out⟩
        case measure => simp [intOf]
      | false =>
        have hne : (ckS J D 1).2 ≠ 0 := by simpa using hz2
        go_wp2_with (go_at_call 60; refine HFL.out.mono ?_; rintro e w4 ⟨rfl, hd4, hk4⟩; have HD4 := Lib.hid hd4; have HK4 := Lib.hid hk4; clear hd4 hk4)
        rw [← HR.out, checkpoint_bad J D (ckS J D 1) (ckS_stop1 J D hne) hne]
        exact ⟨rfl, ⟨mv, (HJr.out.kept HD4.out HK4.out).mono fun b hb => .inl hb, fun h => ⟨h, hne⟩⟩, HB4.out.trans ((HKr.out.trans HK4.out).mono fun b hb => .inl (.inl hb))⟩
    · have hfl := ckmark_any HJr.out w.heap.size HX.out (by have := flush_loose D; show D.flush.1.loose.length < _; omega)
      rw [← ckS_two J D hz] at hfl
      have HFL := Lib.hid hfl
      clear hfl
      cases hz2 : ((ckS J D 2).2 == 0) with
      | true =>
        go_wp2_with (go_at_call 80; refine HFL.out.mono ?_; rintro e w4 ⟨rfl, hd4, hk4⟩; have HD4 := Lib.hid hd4; have HK4 := Lib.hid hk4; clear hd4 hk4)
        go_roundw
        case rel => exact ⟨2, by omega, by first | rfl | go_num, by simpa using hz2, HJr.out.kept HD4.out HK4.out, HKr.out.trans HK4.out⟩
        case measure => simp [intOf]
      | false =>
        have hne : (ckS J D 2).2 ≠ 0 := by simpa using hz2
        go_wp2_with (go_at_call 80; refine HFL.out.mono ?_; rintro e w4 ⟨rfl, hd4, hk4⟩; have HD4 := Lib.hid hd4; have HK4 := Lib.hid hk4; clear hd4 hk4)
        rw [← HR.out, checkpoint_bad J D (ckS J D 2) (ckS_stop2 J D hne) hne]
        exact ⟨rfl, ⟨mv, (HJr.out.kept HD4.out HK4.out).mono fun b hb => .inl hb, fun h => ⟨h, hne⟩⟩, HB4.out.trans ((HKr.out.trans HK4.out).mono fun b hb => .inl (.inl hb))⟩
    · have hfl := flush_any HJr.out.disk
      rw [← ckS_three J D hz] at hfl
      have HFL := Lib.hid hfl
      clear hfl
      cases hz2 : ((ckS J D 3).2 == 0) with
      | true =>
        go_wp2_with (go_at_call 60; refine HFL.out.mono ?_; rintro e w4 ⟨rfl, hd4, hk4⟩; have HD4 := Lib.hid hd4; have HK4 := Lib.hid hk4; clear hd4 hk4)
        go_roundw
        case rel => exact ⟨3, by omega, by first | rfl | go_num, by simpa using hz2, HJr.out.kept HD4.out HK4.out, HKr.out.trans HK4.out⟩
        case measure => simp [intOf]
      | false =>
        have hne : (ckS J D 3).2 ≠ 0 := by simpa using hz2
        go_wp2_with (go_at_call 60; refine HFL.out.mono ?_; rintro e w4 ⟨rfl, hd4, hk4⟩; have HD4 := Lib.hid hd4; have HK4 := Lib.hid hk4; clear hd4 hk4)
        rw [← HR.out, checkpoint_bad J D (ckS J D 3) rfl hne]
        exact ⟨rfl, ⟨mv, (HJr.out.kept HD4.out HK4.out).mono fun b hb => .inl hb, fun h => ⟨h, hne⟩⟩, HB4.out.trans ((HKr.out.trans HK4.out).mono fun b hb => .inl (.inl hb))⟩
    · clear q0 q1 q2
      have hjx := HJr.out
      have hne : w.heap.size ≠ jp := fun e => hjx.kj (.inr ⟨by omega, by have := HSZ4.out; omega⟩)
      obtain ⟨N, hN⟩ : ∃ N, wr.heap.size = N := ⟨_, rfl⟩
      have hxlt : w.heap.size < N := hN ▸ World.block_lt_of_cell? wr _ HX.out
      have hjlt : jp < N := hN ▸ hjx.lt
      have hrow := hjx.row
      obtain ⟨S, hS0⟩ : ∃ S : List Nat → World → Prop, ∀ F w', S F w' ↔ (w'.heap.size = N + (if 2 ∈ F then 1 else 0) ∧ (2 ∈ F → w'.heap[N]? = some (.map #[] 0)) ∧ JRow w' jp p mv (if 5 ∈ F then { J with used := 0 } else J) ∧ (∀ b, b < N → b ≠ jp → w'.heap[b]? = wr.heap[b]?) ∧ w'.os = wr.os ∧ w'.tape = wr.tape ∧ w'.output = wr.output) := ⟨_, fun _ _ => Iff.rfl⟩
      have HS0 := Lib.hid hS0
      have HZ := Lib.hid hz
      have HNE := Lib.hid hne
      have HLT := Lib.hid (And.intro hxlt hjlt)
      have HN := Lib.hid hN
      clear hS0 hjx hz hne hxlt hjlt hN
      go_wp2
      refine wp_region_rr4 6 S [2, 5] (by kernel_rfl) (by kernel_rfl) (by kernel_rfl) ((HS0.out _ _).2 ⟨by simp [HN.out], by simp, by rw [if_neg (by simp)]; exact hrow, fun _ _ _ => rfl, rfl, rfl, rfl⟩) ?_
      iterate 2
        (apply RR4_run
         focus (simp)
         focus rfl
         focus
           intro F w5 hS
           have h5 := (HS0.out _ _).1 hS
           have x0 := (World.cell?_of_block (w := wr) (a := ⟨w.heap.size, 0, none⟩) (h5.2.2.2.1 _ HLT.out.1 HNE.out)).trans HX.out
           have HS5 := Lib.hid hS
           clear hS h5
           go_wp2
           exact ⟨rfl, HS5.out⟩
         focus exact ⟨_, rfl⟩)
      (apply RR4_turn
       focus (simp)
       focus rfl
       focus
         intro F w5 hF hS
         have h5 := (HS0.out _ _).1 hS
         simp only [hF, if_false, Nat.add_zero] at h5
         have hm5 := HMM.out 72 w5
         rw [h5.1] at hm5
         have HS5 := Lib.hid ((HS0.out (insOf [2, 5] F 2) (w5.alloc (.map #[] 0))).2 ⟨by simp [insOf, h5.1], fun _ => by rw [← h5.1]; exact heap_alloc_last _ _, by
             have e : (5 ∈ insOf [2, 5] F 2) = (5 ∈ F) := by simp [insOf]
             simp only [e]
             exact (heap_alloc_old _ _ (by have := HLT.out.2; omega)).trans h5.2.2.1, fun b h1 h2 => (heap_alloc_old _ _ (by omega)).trans (h5.2.2.2.1 b h1 h2), h5.2.2.2.2⟩)
         clear hS h5 hF
         go_wp2
         exact ⟨rfl, HS5.out⟩
       focus exact ⟨_, rfl⟩)
      iterate 2
        (apply RR4_run
         focus (simp)
         focus rfl
         focus
           intro F w5 hS
           have HS5 := Lib.hid hS
           clear hS
           go_wp2
           exact ⟨rfl, HS5.out⟩
         focus exact ⟨_, rfl⟩)
      (apply RR4_turn
       focus (simp)
       focus rfl
       focus
         intro F w5 hF hS
         have h5 := (HS0.out _ _).1 hS
         simp only [hF, if_false] at h5
         obtain ⟨⟨-, -, -, -, c4, -⟩, -, -, -, -, f4, -⟩ := cells6 h5.2.2.1
         have HS5 := Lib.hid ((HS0.out (insOf [2, 5] F 5) (w5.setCell ⟨jp, 4, none⟩ (.int .i64 0))).2 (by
           have e : (2 ∈ insOf [2, 5] F 5) = (2 ∈ F) := by simp [insOf]
           have e5 : (5 ∈ insOf [2, 5] F 5) = True := by simp [insOf]
           simp only [e, e5, if_true]
           refine ⟨by rw [World.size_setCell]; exact h5.1, fun h2 => (Below.heap_setCell _ _ _ _ (by have := HLT.out.2; simp only; omega)).trans (h5.2.1 h2), heap_setCell_same w5 jp 4 _ 74 (.int .i64 0) h5.2.2.1, fun b h1 h2 => (Below.heap_setCell _ _ _ _ h2).trans (h5.2.2.2.1 b h1 h2), h5.2.2.2.2⟩))
         clear hS h5 hF
         go_wp2
         exact ⟨rfl, HS5.out⟩
       focus exact ⟨undef, rfl⟩)
      refine RR4_end fun w5 hS => ?_
      have h5 := (HS0.out _ _).1 hS
      simp only [List.mem_cons, List.not_mem_nil, or_false, true_or, or_true, if_true, true_implies] at h5
      clear hS
      obtain ⟨⟨-, -, -, -, -, c5⟩, -, -, -, -, -, f5⟩ := cells6 h5.2.2.1
      have H5 := Lib.hid h5
      clear h5
      go_wp2
      obtain ⟨s1, s2, s3, s4, s5, s6, s7⟩ := H5.out
      have hne := HNE.out
      obtain ⟨hxlt, hjlt⟩ := HLT.out
      have hN := HN.out
      have hrow6 := heap_setCell_same w5 jp 5 _ 74 (.map (some N)) s3
      have hg : wr.grownBy (w5.setCell ⟨jp, 5, none⟩ (.map (some N))) (some jp) := ⟨s5, s6, s7, by rw [World.size_setCell, s1]; omega, fun b h1 h2 => (Below.heap_setCell w5 ⟨jp, 5, none⟩ (.map (some N)) b (fun e => h2 (congrArg some e))).trans (s4 b (by omega) (fun e => h2 (congrArg some e)))⟩
      have hsz6 : (w5.setCell ⟨jp, 5, none⟩ (.map (some N))).heap.size = N + 1 := by rw [World.size_setCell, s1]
      have hmap : (w5.setCell ⟨jp, 5, none⟩ (.map (some N))).heap[N]? = some (.map #[] 0) := (Below.heap_setCell w5 ⟨jp, 5, none⟩ (.map (some N)) N (by show N ≠ jp; omega)).trans s2
      have hz : (ckS J D 3).2 = 0 := HZ.out
      rw [← HR.out, checkpoint_good J D hz]
      have hjr := HJr.out
      have hkN : ¬ K N := fun hk => by have := HJ.out.old N hk; omega
      obtain ⟨dok, gs, cs, vl, ak, ck, hdr⟩ := hjr.disk
      refine ⟨rfl, ⟨some N, ⟨⟨dok, gs, cs, vl, ak, ck, hdr.turned hg (.inr (.inl rfl)) hjr.row.no_bool fun c hc => ?_⟩, ?_, .inr ⟨N, 0, rfl, ?_, Nat.zero_le _, hkN, by omega⟩, HJ.out.kj, ?_⟩, fun h => by cases h⟩, ?_⟩
      · rcases hc with hc | hc | hc
        · have := HJ.out.old c hc
          exact ⟨by omega, .inl (.inl (.inl hc))⟩
        · subst hc
          exact ⟨by omega, .inl (.inr (.inl rfl))⟩
        · cases hc
          exact ⟨by omega, .inr (by omega)⟩
      · unfold JRow
        rw [hrow6]
        rfl
      · have hm0 := mapAt_made wr
        rw [hN] at hm0
        exact hm0.block (hmap.trans (by rw [← hN]; exact (heap_alloc_last _ _).symm))
      · have := HJ.out.ok
        exact ⟨this.starts, this.number, this.place, by simp [Jn.emptied], by simp [Jn.emptied], by simp [Jn.emptied]⟩
      · exact HB4.out.trans ((HKr.out.mono fun b hb => .inl (.inl hb)).trans (Kept.of_grown hg (fun c hc => by have := HJ.out.old c hc; omega) HJ.out.kj))
/-- A journal that was opened: its map is there. -/
def JUp (w : World) (K : Nat → Prop) (jp p : Nat) (J : Jn) (D : Dk) : Prop := ∃ b, JRows w K jp p (some b) J D
theorem JUp.at {w : World} {K : Nat → Prop} {jp p : Nat} {J : Jn} {D : Dk} (h : JUp w K jp p J D) : JAt w K jp p J D := by
  obtain ⟨b, h⟩ := h
  exact ⟨_, h⟩
theorem JUp.below {w w' : World} {K : Nat → Prop} {jp p : Nat} {J : Jn} {D : Dk} (h : JUp w K jp p J D) (hb : Below w.heap.size w w') : JUp w' K jp p J D := by
  obtain ⟨b, h⟩ := h
  exact ⟨b, h.below hb⟩
theorem JUp.mono {w : World} {K K' : Nat → Prop} {jp p : Nat} {J : Jn} {D : Dk} (h : JUp w K jp p J D) (hK : ∀ b, K' b → K b) : JUp w K' jp p J D := by
  obtain ⟨b, h⟩ := h
  exact ⟨b, h.mono hK⟩
theorem JUp.fresh {w w' : World} {K : Nat → Prop} {jp p : Nat} {J : Jn} {D : Dk} (h : JUp w K jp p J D) (hb : Below w.heap.size w w') : JUp w' (fun b => K b ∨ (w.heap.size ≤ b ∧ b < w'.heap.size)) jp p J D := by
  obtain ⟨b, h⟩ := h
  exact ⟨b, h.fresh hb⟩
/-- What a call of a journal's method leaves. -/
def RetJ (w : World) (K : Nat → Prop) (jp p : Nat) (r : Jn × Dk × Int) (e : Ending) (w' : World) : Prop := e = .returned (.int .i64 r.2.2) ∧ JUp w' K jp p r.1 r.2.1 ∧ Kept K w w'
theorem checkpoint_up {w : World} {K : Nat → Prop} {jp p : Nat} {J : Jn} {D : Dk} (h : JUp w K jp p J D) (hm : D.loose.length < 100000000000) :
    Calls Try.prog 57 #[.pointer (some ⟨jp, 0, none⟩)] w (RetJ w K jp p (J.checkpoint D)) := by
  obtain ⟨b, h⟩ := h
  refine (checkpoint_rows h hm).mono fun e w' ⟨he, ⟨mv', hr, hn⟩, hk⟩ => ⟨he, ?_, hk⟩
  cases mv' with
  | none => exact absurd (hn rfl).1 (by simp)
  | some b' => exact ⟨b', hr⟩
end Go.Proofs.Ytffgjjhopopgcaa
