/-
  The walk of a journal's check.
-/
import Derived.Test.YtffgjjhopopgcaaJe
namespace Go.Proofs.Ytffgjjhopopgcaa
set_option linter.unusedVariables false
set_option linter.unusedSimpArgs false
open Go.RowKit
set_option maxRecDepth 100000
set_option maxHeartbeats 4000000

theorem mayW_iff (size : Int) (l : List Wr) : mayW size l = true ↔ (∀ x ∈ l, 0 ≤ x.sec ∧ x.sec < size ∧ x.data.size = 512) ∧ (l.map (·.sec)).Nodup := by
  simp only [mayW, Bool.and_eq_true, List.all_eq_true, decide_eq_true_eq, and_assoc]
theorem mayW_range {size : Int} {l : List Wr} {k : Nat} (h : k < l.length) (hb : ¬ (0 ≤ l[k].sec ∧ l[k].sec < size ∧ l[k].data.size = 512)) : mayW size l = false := by
  rw [← Bool.not_eq_true, mayW_iff]
  exact fun h2 => hb (h2.1 _ (List.getElem_mem h))
theorem mayW_twice {size : Int} {l : List Wr} {k : Nat} (h : k < l.length) (hb : l[k].sec ∈ (l.take k).map (·.sec)) : mayW size l = false := by
  rw [← Bool.not_eq_true, mayW_iff]
  rintro ⟨-, h2⟩
  obtain ⟨x, hx, e⟩ := List.mem_map.1 hb
  obtain ⟨j, hj, rfl⟩ := List.getElem_of_mem hx
  simp only [List.length_take] at hj
  rw [List.getElem_take] at e
  have h3 := List.pairwise_iff_getElem.1 h2 j k (by simp; omega) (by simpa using h) (by omega)
  simp only [List.getElem_map] at h3
  exact h3 e

theorem jcheck_any {w : World} {K : Nat → Prop} {jp p : Nat} {J : Jn} {D : Dk} (h : JAt w K jp p J D) (a : Option Addr) (c : Nat) (l : List Wr) (hs : SlW w a l) (hl : ∀ x ∈ l, inL x.sec) (hll : l.length ≤ 1000) :
    Calls Try.prog 56 #[.pointer (some ⟨jp, 0, none⟩), .slice a l.length c] w (Ret w (.int .i64 (Jn.check D l))) := by
  have hmm := @run_makeMap Try.prog
  have hb0 := (Below.refl w.heap.size w).alloc (Nat.le_refl _) (.map #[] 0)
  have hm0 := mapAt_made w
  have HJ := Lib.hid h
  have HS := Lib.hid hs
  have HL := Lib.hid hl
  have HM0 := Lib.hid hm0
  have HB0 := Lib.hid hb0
  clear h hs hl hm0 hb0
  generalize hR : Ret w (.int .i64 (Jn.check D l)) = R
  have HR := Lib.hid hR
  clear hR
  go_enter Try.func56, Try.ntmps56
  go_wp2
  clear hmm
  go_loopw [11] (fun i wr => ∃ k : Nat, k ≤ l.length ∧ i = .int .i64 k ∧ (∀ x ∈ l.take k, 0 ≤ x.sec ∧ x.sec < Jn.size D ∧ x.data.size = 512) ∧ ((l.take k).map (·.sec)).Nodup ∧ MapAt wr w.heap.size k ((l.take k).map (·.sec)) ∧ Below w.heap.size w wr) (fun i _ => l.length - (intOf i).toNat)
  case atStart => exact ⟨0, by omega, rfl, by simp, by simp, HM0.out, HB0.out⟩
  case round =>
    obtain ⟨k, hk, rfl, hgo, hnd, hmp, hbr⟩ := hrel
    by_cases hlt : k < l.length
    · obtain ⟨b, off, rfl, g1', g2'⟩ := HS.out k hlt
      have g1 := (hbr.cell (p := ⟨b, off + k * 2, none⟩) (World.block_lt_of_cell? w _ g1')).trans g1'
      have g2 := (hbr.cell (p := ⟨b, off + k * 2 + 1, none⟩) (World.block_lt_of_cell? w _ g2')).trans g2'
      clear g1' g2'
      have hin := HL.out l[k] (List.getElem_mem _)
      have hrg := fun hb => mayW_range (size := Jn.size D) hlt hb
      have htw := fun hb => mayW_twice (size := Jn.size D) hlt hb
      have htk : l.take (k + 1) = l.take k ++ [l[k]] := List.take_succ_eq_append_getElem hlt
      generalize l[k] = x at *
      obtain ⟨sec, data⟩ := x
      simp only at hin g1 g2 hrg htw
      have HIN := Lib.hid hin
      have HRG := Lib.hid hrg
      have HTK := Lib.hid htk
      have HGO := Lib.hid hgo
      clear hrg htk hgo
      obtain ⟨ks, hks⟩ : ∃ ks, (l.take k).map (·.sec) = ks := ⟨_, rfl⟩
      rw [hks] at hmp htw hnd
      have HKS := Lib.hid hks
      have HTW := Lib.hid htw
      have HND := Lib.hid hnd
      clear hks htw hnd
      have hal := (Below.refl wr.heap.size wr).alloc (Nat.le_refl _) (.cells #[.int .i64 sec, .string data] 59)
      have hnew := heap_alloc_last wr (.cells #[.int .i64 sec, .string data] 59)
      have HN := Lib.hid (cells2' hnew)
      have hws : (wr.alloc (.cells #[.int .i64 sec, .string data] 59)).heap.size = wr.heap.size + 1 := by simp
      have hmlt := hmp.lt
      have HB1 := Lib.hid (hbr.trans (hal.mono hbr.size))
      have HM := Lib.hid (hmp.block (hal.block _ hmp.lt))
      clear hal hnew hbr hmp
      go_wp2
      generalize wr.alloc (.cells #[.int .i64 sec, .string data] 59) = W1 at *
      have HZ := Lib.hid (fun w' (hb : Below W1.heap.size W1 w') => jsize_any (HJ.out.below (HB1.out.trans (hb.mono HB1.out.size))))
      generalize hsz : Jn.size D = sz at *
      by_cases h1 : sec < 0
      · have hd1 : decide (sec < 0) = true := by simp [h1]
        obtain ⟨q, hmem⟩ : ∃ q, (if sec ∈ ks then (1 : Int) else 0) = q := ⟨_, rfl⟩
        have HMEM := Lib.hid hmem
        have HX := Lib.hid h1
        clear hmem h1
        refine wp_region_rr 23 (fun w' => Below W1.heap.size W1 w') (by kernel_rfl) (by kernel_rfl) (Below.refl _ _).drew ?_
        iterate 4
          (apply RR_run
           focus rfl
           focus
             intro w3 hS
             have x0 := (hS.cell (p := ⟨wr.heap.size, 0, none⟩) (by simp only; omega)).trans HN.out.1
             have x1 := (hS.cell (p := ⟨wr.heap.size, 1, none⟩) (by simp only; omega)).trans HN.out.2
             have lk := (HM.out.block (hS.block w.heap.size (by omega))).look sec HIN.out
             rw [HMEM.out] at lk
             have HS3 := Lib.hid hS
             clear hS
             go_wp2_with (go_at_call 35; refine (HZ.out _ HS3.out).mono ?_; rintro e w4 ⟨rfl, rfl⟩)
             exact ⟨rfl, HS3.out⟩
           focus exact ⟨_, rfl⟩)
        iterate 5
          (apply RR_skip
           focus rfl
           focus (simp only [Act.put, List.setIfInBounds_toArray, List.set_cons_zero, List.set_cons_succ]; rfl))
        iterate 2
          (apply RR_run
           focus rfl
           focus
             intro w3 hS
             have x0 := (hS.cell (p := ⟨wr.heap.size, 0, none⟩) (by simp only; omega)).trans HN.out.1
             have x1 := (hS.cell (p := ⟨wr.heap.size, 1, none⟩) (by simp only; omega)).trans HN.out.2
             have lk := (HM.out.block (hS.block w.heap.size (by omega))).look sec HIN.out
             rw [HMEM.out] at lk
             have HS3 := Lib.hid hS
             clear hS
             go_wp2_with (go_at_call 35; refine (HZ.out _ HS3.out).mono ?_; rintro e w4 ⟨rfl, rfl⟩)
             exact ⟨rfl, HS3.out⟩
           focus exact ⟨_, rfl⟩)
        iterate 4
          (apply RR_skip
           focus rfl
           focus (simp only [Act.put, List.setIfInBounds_toArray, List.set_cons_zero, List.set_cons_succ]; rfl))
        iterate 2
          (apply RR_run
           focus rfl
           focus
             intro w3 hS
             have x0 := (hS.cell (p := ⟨wr.heap.size, 0, none⟩) (by simp only; omega)).trans HN.out.1
             have x1 := (hS.cell (p := ⟨wr.heap.size, 1, none⟩) (by simp only; omega)).trans HN.out.2
             have lk := (HM.out.block (hS.block w.heap.size (by omega))).look sec HIN.out
             rw [HMEM.out] at lk
             have HS3 := Lib.hid hS
             clear hS
             go_wp2_with (go_at_call 35; refine (HZ.out _ HS3.out).mono ?_; rintro e w4 ⟨rfl, rfl⟩)
             exact ⟨rfl, HS3.out⟩
           focus exact ⟨_, rfl⟩)
        iterate 5
          (apply RR_skip
           focus rfl
           focus (simp only [Act.put, List.setIfInBounds_toArray, List.set_cons_zero, List.set_cons_succ]; rfl))
        iterate 1
          (apply RR_run
           focus rfl
           focus
             intro w3 hS
             have x0 := (hS.cell (p := ⟨wr.heap.size, 0, none⟩) (by simp only; omega)).trans HN.out.1
             have x1 := (hS.cell (p := ⟨wr.heap.size, 1, none⟩) (by simp only; omega)).trans HN.out.2
             have lk := (HM.out.block (hS.block w.heap.size (by omega))).look sec HIN.out
             rw [HMEM.out] at lk
             have HS3 := Lib.hid hS
             clear hS
             go_wp2_with (go_at_call 35; refine (HZ.out _ HS3.out).mono ?_; rintro e w4 ⟨rfl, rfl⟩)
             exact ⟨rfl, HS3.out⟩
           focus exact ⟨_, rfl⟩)
        refine RR_end fun w3 hS => ?_
        have HB3 := Lib.hid (HB1.out.trans (hS.mono HB1.out.size))
        clear hS
        go_wp2
        rw [← HR.out, show Jn.check D l = 2 by unfold Jn.check; rw [hsz, HRG.out (fun h => by have := HX.out; omega)]; rfl]
        exact ⟨rfl, HB3.out⟩
      · have hd1 : decide (sec < 0) = false := by simp; omega
        by_cases h2 : sz ≤ sec
        · have hd2 : decide (sz ≤ sec) = true := by simp [h2]
          obtain ⟨q, hmem⟩ : ∃ q, (if sec ∈ ks then (1 : Int) else 0) = q := ⟨_, rfl⟩
          have HMEM := Lib.hid hmem
          have HX := Lib.hid h2
          clear hmem h1 h2
          refine wp_region_rr 23 (fun w' => Below W1.heap.size W1 w') (by kernel_rfl) (by kernel_rfl) (Below.refl _ _).drew ?_
          iterate 11
            (apply RR_run
             focus rfl
             focus
               intro w3 hS
               have x0 := (hS.cell (p := ⟨wr.heap.size, 0, none⟩) (by simp only; omega)).trans HN.out.1
               have x1 := (hS.cell (p := ⟨wr.heap.size, 1, none⟩) (by simp only; omega)).trans HN.out.2
               have lk := (HM.out.block (hS.block w.heap.size (by omega))).look sec HIN.out
               rw [HMEM.out] at lk
               have HS3 := Lib.hid hS
               clear hS
               go_wp2_with (go_at_call 35; refine (HZ.out _ HS3.out).mono ?_; rintro e w4 ⟨rfl, rfl⟩)
               exact ⟨rfl, HS3.out⟩
             focus exact ⟨_, rfl⟩)
          iterate 4
            (apply RR_skip
             focus rfl
             focus (simp only [Act.put, List.setIfInBounds_toArray, List.set_cons_zero, List.set_cons_succ]; rfl))
          iterate 2
            (apply RR_run
             focus rfl
             focus
               intro w3 hS
               have x0 := (hS.cell (p := ⟨wr.heap.size, 0, none⟩) (by simp only; omega)).trans HN.out.1
               have x1 := (hS.cell (p := ⟨wr.heap.size, 1, none⟩) (by simp only; omega)).trans HN.out.2
               have lk := (HM.out.block (hS.block w.heap.size (by omega))).look sec HIN.out
               rw [HMEM.out] at lk
               have HS3 := Lib.hid hS
               clear hS
               go_wp2_with (go_at_call 35; refine (HZ.out _ HS3.out).mono ?_; rintro e w4 ⟨rfl, rfl⟩)
               exact ⟨rfl, HS3.out⟩
             focus exact ⟨_, rfl⟩)
          iterate 5
            (apply RR_skip
             focus rfl
             focus (simp only [Act.put, List.setIfInBounds_toArray, List.set_cons_zero, List.set_cons_succ]; rfl))
          iterate 1
            (apply RR_run
             focus rfl
             focus
               intro w3 hS
               have x0 := (hS.cell (p := ⟨wr.heap.size, 0, none⟩) (by simp only; omega)).trans HN.out.1
               have x1 := (hS.cell (p := ⟨wr.heap.size, 1, none⟩) (by simp only; omega)).trans HN.out.2
               have lk := (HM.out.block (hS.block w.heap.size (by omega))).look sec HIN.out
               rw [HMEM.out] at lk
               have HS3 := Lib.hid hS
               clear hS
               go_wp2_with (go_at_call 35; refine (HZ.out _ HS3.out).mono ?_; rintro e w4 ⟨rfl, rfl⟩)
               exact ⟨rfl, HS3.out⟩
             focus exact ⟨_, rfl⟩)
          refine RR_end fun w3 hS => ?_
          have HB3 := Lib.hid (HB1.out.trans (hS.mono HB1.out.size))
          clear hS
          go_wp2
          rw [← HR.out, show Jn.check D l = 2 by unfold Jn.check; rw [hsz, HRG.out (fun h => by have := HX.out; omega)]; rfl]
          exact ⟨rfl, HB3.out⟩
        · have hd2 : decide (sz ≤ sec) = false := by simp; omega
          by_cases h3 : data.size = 512
          · have hd3 : ((data.size : Int) != 512) = false := by simp [h3]
            by_cases h4 : sec ∈ ks
            · have hmem : (if sec ∈ ks then (1 : Int) else 0) = 1 := if_pos h4
              have HMEM := Lib.hid hmem
              have HX := Lib.hid h4
              clear hmem h1 h2 h3 h4
              refine wp_region_rr 23 (fun w' => Below W1.heap.size W1 w') (by kernel_rfl) (by kernel_rfl) (Below.refl _ _).drew ?_
              iterate 23
                (apply RR_run
                 focus rfl
                 focus
                   intro w3 hS
                   have x0 := (hS.cell (p := ⟨wr.heap.size, 0, none⟩) (by simp only; omega)).trans HN.out.1
                   have x1 := (hS.cell (p := ⟨wr.heap.size, 1, none⟩) (by simp only; omega)).trans HN.out.2
                   have lk := (HM.out.block (hS.block w.heap.size (by omega))).look sec HIN.out
                   rw [HMEM.out] at lk
                   have HS3 := Lib.hid hS
                   clear hS
                   go_wp2_with (go_at_call 35; refine (HZ.out _ HS3.out).mono ?_; rintro e w4 ⟨rfl, rfl⟩)
                   exact ⟨rfl, HS3.out⟩
                 focus exact ⟨_, rfl⟩)
              refine RR_end fun w3 hS => ?_
              have HB3 := Lib.hid (HB1.out.trans (hS.mono HB1.out.size))
              clear hS
              go_wp2
              rw [← HR.out, show Jn.check D l = 2 by unfold Jn.check; rw [hsz, HTW.out HX.out]; rfl]
              exact ⟨rfl, HB3.out⟩
            · have hmem : (if sec ∈ ks then (1 : Int) else 0) = 0 := if_neg h4
              have HMEM := Lib.hid hmem
              have HX := Lib.hid (show (0 ≤ sec ∧ sec < sz ∧ data.size = 512) ∧ ¬ sec ∈ ks from ⟨⟨by omega, by omega, h3⟩, h4⟩)
              clear hmem h1 h2 h3 h4
              refine wp_region_rr 23 (fun w' => Below W1.heap.size W1 w') (by kernel_rfl) (by kernel_rfl) (Below.refl _ _).drew ?_
              iterate 23
                (apply RR_run
                 focus rfl
                 focus
                   intro w3 hS
                   have x0 := (hS.cell (p := ⟨wr.heap.size, 0, none⟩) (by simp only; omega)).trans HN.out.1
                   have x1 := (hS.cell (p := ⟨wr.heap.size, 1, none⟩) (by simp only; omega)).trans HN.out.2
                   have lk := (HM.out.block (hS.block w.heap.size (by omega))).look sec HIN.out
                   rw [HMEM.out] at lk
                   have HS3 := Lib.hid hS
                   clear hS
                   go_wp2_with (go_at_call 35; refine (HZ.out _ HS3.out).mono ?_; rintro e w4 ⟨rfl, rfl⟩)
                   exact ⟨rfl, HS3.out⟩
                 focus exact ⟨_, rfl⟩)
              refine RR_end fun w3 hS => ?_
              have HB3 := Lib.hid (HB1.out.trans (hS.mono HB1.out.size))
              have x0 := (hS.cell (p := ⟨wr.heap.size, 0, none⟩) (by simp only; omega)).trans HN.out.1
              have hbs : w.heap.size < W1.heap.size := by omega
              have HMP := Lib.hid (HM.out.block (hS.block w.heap.size hbs))
              obtain ⟨w4, hrun, hm4, hg4⟩ := HMP.out.update (by omega) sec HIN.out
              have HM4 := Lib.hid hm4
              have HB4 := Lib.hid (HB3.out.grown hg4 HB3.out.size (fun k e => by cases e; exact Nat.le_refl _))
              clear hm4 hg4 hS
              go_wp2
              go_roundw
              case rel =>
                refine ⟨k + 1, by omega, by go_num, ?_, ?_, ?_, HB4.out⟩
                · rw [HTK.out, hsz]
                  intro y hy
                  rcases List.mem_append.1 hy with h | h
                  · exact HGO.out y h
                  · simp at h
                    subst h
                    exact HX.out.1
                · rw [HTK.out, List.map_append, HKS.out]
                  refine List.nodup_append.2 ⟨HND.out, by simp, fun u hu v hv e => ?_⟩
                  simp at hv
                  subst hv
                  subst e
                  exact HX.out.2 hu
                · rw [HTK.out, List.map_append, HKS.out]
                  exact HM4.out
              case measure => simp [intOf]; omega
          · have hd3 : ((data.size : Int) != 512) = true := by simp; omega
            obtain ⟨q, hmem⟩ : ∃ q, (if sec ∈ ks then (1 : Int) else 0) = q := ⟨_, rfl⟩
            have HMEM := Lib.hid hmem
            have HX := Lib.hid h3
            clear hmem h1 h2 h3
            refine wp_region_rr 23 (fun w' => Below W1.heap.size W1 w') (by kernel_rfl) (by kernel_rfl) (Below.refl _ _).drew ?_
            iterate 17
              (apply RR_run
               focus rfl
               focus
                 intro w3 hS
                 have x0 := (hS.cell (p := ⟨wr.heap.size, 0, none⟩) (by simp only; omega)).trans HN.out.1
                 have x1 := (hS.cell (p := ⟨wr.heap.size, 1, none⟩) (by simp only; omega)).trans HN.out.2
                 have lk := (HM.out.block (hS.block w.heap.size (by omega))).look sec HIN.out
                 rw [HMEM.out] at lk
                 have HS3 := Lib.hid hS
                 clear hS
                 go_wp2_with (go_at_call 35; refine (HZ.out _ HS3.out).mono ?_; rintro e w4 ⟨rfl, rfl⟩)
                 exact ⟨rfl, HS3.out⟩
               focus exact ⟨_, rfl⟩)
            iterate 5
              (apply RR_skip
               focus rfl
               focus (simp only [Act.put, List.setIfInBounds_toArray, List.set_cons_zero, List.set_cons_succ]; rfl))
            iterate 1
              (apply RR_run
               focus rfl
               focus
                 intro w3 hS
                 have x0 := (hS.cell (p := ⟨wr.heap.size, 0, none⟩) (by simp only; omega)).trans HN.out.1
                 have x1 := (hS.cell (p := ⟨wr.heap.size, 1, none⟩) (by simp only; omega)).trans HN.out.2
                 have lk := (HM.out.block (hS.block w.heap.size (by omega))).look sec HIN.out
                 rw [HMEM.out] at lk
                 have HS3 := Lib.hid hS
                 clear hS
                 go_wp2_with (go_at_call 35; refine (HZ.out _ HS3.out).mono ?_; rintro e w4 ⟨rfl, rfl⟩)
                 exact ⟨rfl, HS3.out⟩
               focus exact ⟨_, rfl⟩)
            refine RR_end fun w3 hS => ?_
            have HB3 := Lib.hid (HB1.out.trans (hS.mono HB1.out.size))
            clear hS
            go_wp2
            rw [← HR.out, show Jn.check D l = 2 by unfold Jn.check; rw [hsz, HRG.out (fun h => HX.out h.2.2)]; rfl]
            exact ⟨rfl, HB3.out⟩
    · obtain rfl : k = l.length := by omega
      rw [List.take_length] at hgo hnd
      have hgood : Jn.check D l = 0 := by
        unfold Jn.check
        rw [(mayW_iff _ _).2 ⟨hgo, hnd⟩]
        rfl
      have HGD := Lib.hid hgood
      clear hgood hgo hnd
      go_wp2
      rw [← HR.out, HGD.out]
      exact ⟨rfl, hbr⟩
end Go.Proofs.Ytffgjjhopopgcaa
