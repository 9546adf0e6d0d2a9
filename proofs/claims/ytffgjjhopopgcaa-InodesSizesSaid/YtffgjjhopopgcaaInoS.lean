/-
  The document's Same tells whether two inodes are the same, for every two.
-/
import Derived.Test.YtffgjjhopopgcaaInoQ
namespace Go.Proofs.Ytffgjjhopopgcaa
set_option linter.unusedVariables false
set_option linter.unusedSimpArgs false
open Go.RowKit
set_option maxRecDepth 100000
set_option maxHeartbeats 2000000
attribute [local go_sem high] eqExt

theorem refSame_any (i j : Ino) (a a2 : Option Addr) (c c2 : Nat) (hi : inI64 i.size) (hj : inI64 j.size) (hl : i.exts.length * 16 ≤ 140737488351232) (hm : j.exts.length * 16 ≤ 140737488351232) (w : World) (hx : SlE w a i.exts) (hy : SlE w a2 j.exts) :
    Calls Try.prog 15 #[.agg #[.string i.name, .int .i64 i.size, .slice a i.exts.length c], .agg #[.string j.name, .int .i64 j.size, .slice a2 j.exts.length c2]] w (Ret w (.bool (sameIno i j))) := by
  obtain ⟨nm, sz, ex⟩ := i
  obtain ⟨nm2, sz2, ex2⟩ := j
  simp only [inI64] at *
  have HF := Lib.hid (show sameIno ⟨nm, sz, ex⟩ ⟨nm2, sz2, ex2⟩ = (decide (nm = nm2) && decide (sz = sz2) && decide (ex = ex2)) from rfl)
  have hb := toList_beq nm nm2
  by_cases h1 : nm = nm2
  · have hb1 : (nm.toList == nm2.toList) = true := by rw [hb]; simp [h1]
    have hd1 := Lib.hid (show decide (nm = nm2) = true by simp [h1])
    clear hb h1
    by_cases h2 : sz = sz2
    · have hb2 : (sz == sz2) = true := by simp [h2]
      have hb3 : (sz != sz2) = false := by simp [h2]
      have hd2 := Lib.hid (show decide (sz = sz2) = true by simp [h2])
      clear h2
      by_cases h3 : ex.length = ex2.length
      · have hne : ((ex.length : Int) == (ex2.length : Int)) = true := by simp [h3]
        have hne2 : ((ex.length : Int) != (ex2.length : Int)) = false := by simp [h3]
        have hb0 : Below w.heap.size w ((w.alloc (.cells #[.string nm, .int .i64 sz, .slice a ex.length c] 31)).alloc (.cells #[.string nm2, .int .i64 sz2, .slice a2 ex2.length c2] 31)) :=
          ((Below.refl _ _).alloc (Nat.le_refl _) _).alloc (by simp) _
        have HX := Lib.hid (hx.below hb0)
        have HY := Lib.hid (hy.below hb0)
        have HB0 := Lib.hid hb0
        have HL := Lib.hid h3
        clear hb0 hx hy h3
        go_enter Try.func15, Try.ntmps15
        go_wp2
        have hA : ((w.alloc (.cells #[.string nm, .int .i64 sz, .slice a ex.length c] 31)).alloc (.cells #[.string nm2, .int .i64 sz2, .slice a2 ex2.length c2] 31)).heap[w.heap.size]? = some (.cells #[.string nm, .int .i64 sz, .slice a ex.length c] 31 (0, 0)) := by
          rw [heap_alloc_old _ _ (by simp)]
          exact heap_alloc_last w _
        have hB := heap_alloc_last (w.alloc (.cells #[.string nm, .int .i64 sz, .slice a ex.length c] 31)) (.cells #[.string nm2, .int .i64 sz2, .slice a2 ex2.length c2] 31)
        rw [show (w.alloc (.cells #[.string nm, .int .i64 sz, .slice a ex.length c] 31)).heap.size = w.heap.size + 1 from by simp] at hB
        have hW : ((w.alloc (.cells #[.string nm, .int .i64 sz, .slice a ex.length c] 31)).alloc (.cells #[.string nm2, .int .i64 sz2, .slice a2 ex2.length c2] 31)).heap.size = w.heap.size + 2 := by simp
        generalize ((w.alloc (.cells #[.string nm, .int .i64 sz, .slice a ex.length c] 31)).alloc (.cells #[.string nm2, .int .i64 sz2, .slice a2 ex2.length c2] 31)) = W at *
        obtain ⟨⟨_, _, u2⟩, _, _, _⟩ := cells3 hA
        obtain ⟨⟨_, _, v2⟩, _, _, _⟩ := cells3 hB
        have U2 := Lib.hid u2
        have V2 := Lib.hid v2
        clear hA hB u2 v2
        go_loopw [5] (fun i wr => ∃ k : Nat, k ≤ ex.length ∧ i = .int .i64 k ∧ ex.take k = ex2.take k ∧ Below W.heap.size W wr) (fun i _ => ex.length - (intOf i).toNat)
        case atStart => exact ⟨0, by omega, rfl, rfl, Below.refl _ _⟩
        case round =>
          obtain ⟨k, hk, rfl, heq, hb⟩ := hrel
          have p2 := (hb.cell (p := ⟨w.heap.size, 2, none⟩) (by simp; omega)).trans U2.out
          have q2 := (hb.cell (p := ⟨w.heap.size + 1, 2, none⟩) (by simp; omega)).trans V2.out
          by_cases hlk : k < ex.length
          · have hmk : k < ex2.length := by have := HL.out; omega
            obtain ⟨b, off, rfl, g1, g2⟩ := HX.out.below hb k hlk
            obtain ⟨b2, off2, rfl, g3, g4⟩ := HY.out.below hb k hmk
            have hdec : (ex[k] = ex2[k]) ↔ ((ex[k].first == ex2[k].first) = true ∧ (ex[k].count == ex2[k].count) = true) := by
              cases ex[k]; cases ex2[k]; simp
            have htk : ex.take (k + 1) = ex.take k ++ [ex[k]] := List.take_succ_eq_append_getElem hlk
            have htm : ex2.take (k + 1) = ex2.take k ++ [ex2[k]] := List.take_succ_eq_append_getElem hmk
            have hne3 : ¬ (ex[k].first == ex2[k].first) = true ∨ ¬ (ex[k].count == ex2[k].count) = true → decide (ex = ex2) = false := fun h => by
              simp only [decide_eq_false_iff_not]
              intro e
              subst e
              simp at h
            have HD := Lib.hid hdec
            have HTK := Lib.hid htk
            have HTM := Lib.hid htm
            have HN3 := Lib.hid hne3
            have HEQ := Lib.hid heq
            have l1 := World.block_lt_of_cell? wr _ g1
            have l2 := World.block_lt_of_cell? wr _ g3
            have l3 := World.block_lt_of_cell? wr _ p2
            have l4 := World.block_lt_of_cell? wr _ q2
            simp only at l1 l2 l3 l4
            clear hdec htk htm hne3 heq
            cases h1 : (ex[k].first == ex2[k].first) <;> cases h2 : (ex[k].count == ex2[k].count)
            all_goals
              go_wp2
              refine wp_region_rr 11 (fun w' => Below wr.heap.size wr w') (by kernel_rfl) (by kernel_rfl) (Below.refl _ _).drew ?_
              repeat
                apply RR_run
                focus rfl
                focus
                  intro w2 hS
                  have e1 := (hS.cell (p := ⟨b, off + k * 2, none⟩) l1).trans g1
                  have e2 := (hS.cell (p := ⟨b, off + k * 2 + 1, none⟩) l1).trans g2
                  have e3 := (hS.cell (p := ⟨b2, off2 + k * 2, none⟩) l2).trans g3
                  have e4 := (hS.cell (p := ⟨b2, off2 + k * 2 + 1, none⟩) l2).trans g4
                  have e5 := (hS.cell (p := ⟨w.heap.size, 2, none⟩) l3).trans p2
                  have e6 := (hS.cell (p := ⟨w.heap.size + 1, 2, none⟩) l4).trans q2
                  go_wp2
                  exact ⟨rfl, hS⟩
                focus exact ⟨_, rfl⟩
              refine RR_end fun w2 hS => ?_
              have HS := Lib.hid hS
              clear hS g1 g2 g3 g4 p2 q2
              go_wp2
              first
              | (go_ret
                 exact ⟨by rw [HF.out, HN3.out (by simp [h1, h2])]; simp, HB0.out.trans ((hb.trans (HS.out.mono hb.size)).mono (by omega))⟩)
              | (go_roundw
                 case rel => exact ⟨k + 1, by omega, by go_num, by rw [HTK.out, HTM.out, HEQ.out, HD.out.2 ⟨h1, h2⟩], hb.trans (HS.out.mono hb.size)⟩
                 case measure => simp [intOf]; omega)
          · obtain rfl : k = ex.length := by omega
            have hd3 := Lib.hid (show decide (ex = ex2) = true by
              rw [List.take_length, HL.out, List.take_length] at heq
              simpa using heq)
            clear heq
            go_wp2
            go_ret
            exact ⟨by rw [HF.out, hd1.out, hd2.out, hd3.out]; rfl, HB0.out.trans (hb.mono (by omega))⟩
      · have hne : ((ex.length : Int) == (ex2.length : Int)) = false := by simp; omega
        have hne2 : ((ex.length : Int) != (ex2.length : Int)) = true := by simp; omega
        have hd3 := Lib.hid (show decide (ex = ex2) = false by simp only [decide_eq_false_iff_not]; intro e; exact h3 (by rw [e]))
        clear hx hy h3
        go_enter Try.func15, Try.ntmps15
        go_wp2
        go_ret
        exact ⟨by rw [HF.out, hd3.out]; simp, ((Below.refl _ _).alloc (Nat.le_refl _) _).alloc (by simp) _⟩
    · have hb2 : (sz == sz2) = false := by simp [h2]
      have hb3 : (sz != sz2) = true := by simp [h2]
      have hd2 := Lib.hid (show decide (sz = sz2) = false by simp [h2])
      clear h2 hx hy
      go_enter Try.func15, Try.ntmps15
      go_wp2
      go_ret
      exact ⟨by rw [HF.out, hd1.out, hd2.out]; rfl, ((Below.refl _ _).alloc (Nat.le_refl _) _).alloc (by simp) _⟩
  · have hb1 : (nm.toList == nm2.toList) = false := by rw [hb]; simp [h1]
    have hd1 := Lib.hid (show decide (nm = nm2) = false by simp [h1])
    clear hb h1 hx hy
    go_enter Try.func15, Try.ntmps15
    go_wp2
    go_ret
    exact ⟨by rw [HF.out, hd1.out]; rfl, ((Below.refl _ _).alloc (Nat.le_refl _) _).alloc (by simp) _⟩
end Go.Proofs.Ytffgjjhopopgcaa
