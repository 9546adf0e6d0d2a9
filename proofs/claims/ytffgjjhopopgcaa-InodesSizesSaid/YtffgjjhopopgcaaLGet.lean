/-
  InodesGet answers true for every text, in every world.
-/
import Derived.Test.YtffgjjhopopgcaaInoF
namespace Go.Proofs.Ytffgjjhopopgcaa
set_option linter.unusedVariables false
set_option linter.unusedSimpArgs false
open Go.RowKit
set_option maxRecDepth 100000
set_option maxHeartbeats 2000000
attribute [local go_sem] mkS_extract mkS_append

theorem sameIno_self (i : Ino) : sameIno i i = true := by simp [sameIno]
theorem inoGet_bounds (l : List UInt8) : (inoGet l).name.size ≤ 96 ∧ inI64 (inoGet l).size ∧ (inoGet l).exts.length ≤ 8 := by
  unfold inoGet
  obtain ⟨b1, b2, b3, b4, b5⟩ := readIno_bounds l
  split
  · exact ⟨b1, by simp only [inI64]; omega, b4⟩
  · exact ⟨by decide, by simp [noIno, inI64], by decide⟩

theorem cells2 {w : World} {g : Nat} {v0 v1 : Value} {t : TypeId} (h : w.heap[g]? = some (.cells #[v0, v1] t (0, 0))) :
    (w.cell? ⟨g, 0, none⟩ = some v0 ∧ w.cell? ⟨g, 1, none⟩ = some v1) ∧ (w.frozen? ⟨g, 0, none⟩ = false ∧ w.frozen? ⟨g, 1, none⟩ = false) := by
  refine ⟨⟨?_, ?_⟩, frozen_of_row _ _ _ _ _ h, frozen_of_row _ _ _ _ _ h⟩ <;> rw [cell_of_row _ _ _ _ _ _ h] <;> rfl

theorem get_law (l : List UInt8) (hl : l.length ≤ 9223372036854775807) (w : World) : Calls Try.prog 3 #[.string ⟨l.toArray⟩] w (Ret w (.bool true)) := by
  by_cases hbig : 600 < l.length
  · have hd : decide ((600 : Int) < (l.length : Int)) = true := by simp; omega
    go_enter Try.func3, Try.ntmps3
    go_wp2_with fail
    refine (filed_any _).mono ?_
    rintro e w1 ⟨rfl, hb1⟩
    go_wp2
    go_ret
    exact ⟨rfl, hb1⟩
  · have hd : decide ((600 : Int) < (l.length : Int)) = false := by simp; omega
    obtain ⟨wm, hrun, hst, hb0⟩ := madeZeros 256 (by omega) 256 rfl w
    obtain ⟨t, ht⟩ : ∃ t, List.take 256 (l ++ zeros 256) = t := ⟨_, rfl⟩
    have htl : t.length = 256 := by rw [← ht, List.length_take, List.length_append, length_zeros]; omega
    have hzl : (zeros 256).length = 256 := length_zeros 256
    generalize zeros 256 = z at *
    have HB0 := Lib.hid hb0
    clear hb0
    go_enter Try.func3, Try.ntmps3
    go_wp2
    obtain ⟨⟨c0, c1⟩, f0, f1⟩ := cells2 (heap_alloc_last wm (.cells #[.string ⟨l.toArray⟩, .string ⟨t.toArray⟩] 24))
    have hbm := HB0.out.alloc HB0.out.size (.cells #[.string ⟨l.toArray⟩, .string ⟨t.toArray⟩] 24)
    have hlt : wm.heap.size < (wm.alloc (.cells #[.string ⟨l.toArray⟩, .string ⟨t.toArray⟩] 24)).heap.size := by simp
    generalize wm.alloc (.cells #[.string ⟨l.toArray⟩, .string ⟨t.toArray⟩] 24) = w1 at *
    have C0 := Lib.hid c0
    have C1 := Lib.hid c1
    have HBM := Lib.hid hbm
    clear hrun hst ht hzl HB0 c0 c1 f0 f1 hbm
    go_loopw [5] (fun i wr => ∃ k : Nat, k ≤ 2 ∧ i = .int .i64 k ∧ Below w1.heap.size w1 wr) (fun i _ => 2 - (intOf i).toNat)
    case atStart => exact ⟨0, by omega, rfl, Below.refl _ _⟩
    case round =>
      obtain ⟨k, hk, rfl, hb⟩ := hrel
      by_cases hk2 : k < 2
      · obtain ⟨x, hx, hxl⟩ : ∃ x : List UInt8, wr.cell? ⟨wm.heap.size, k, none⟩ = some (.string ⟨x.toArray⟩) ∧ x.length ≤ 1000000 := by
          obtain rfl | rfl : k = 0 ∨ k = 1 := by omega
          · exact ⟨l, (hb.cell (p := ⟨wm.heap.size, 0, none⟩) hlt).trans C0.out, by omega⟩
          · exact ⟨t, (hb.cell (p := ⟨wm.heap.size, 1, none⟩) hlt).trans C1.out, by omega⟩
        have hlr : wm.heap.size < wr.heap.size := by have := hb.size; omega
        have HB := Lib.hid hb
        have HX := Lib.hid hx
        clear hb
        go_wp2_with fail
        refine (inoGet_any x hxl _).mono ?_
        rintro e w2 ⟨a2, s2, rfl, hs2, hb2⟩
        obtain ⟨y1, y2, y3⟩ := inoGet_bounds x
        have y4 := sameIno_self (inoGet x)
        have hx2 : (w2.alloc (.cells #[.string (inoGet x).name, .int .i64 (inoGet x).size, .slice a2 (inoGet x).exts.length s2] 27)).cell? ⟨wm.heap.size, k, none⟩ = some (.string ⟨x.toArray⟩) := by
          rw [World.cell?_alloc_lt _ _ _ (by have := hb2.size; simp only; omega)]
          exact (hb2.cell (p := ⟨wm.heap.size, k, none⟩) hlr).trans HX.out
        have hrow := heap_alloc_last w2 (.cells #[.string (inoGet x).name, .int .i64 (inoGet x).size, .slice a2 (inoGet x).exts.length s2] 27)
        have hbc := hb2.alloc hb2.size (.cells #[.string (inoGet x).name, .int .i64 (inoGet x).size, .slice a2 (inoGet x).exts.length s2] 27)
        have hsl := hs2.below ((Below.refl _ _).alloc (Nat.le_refl _) (.cells #[.string (inoGet x).name, .int .i64 (inoGet x).size, .slice a2 (inoGet x).exts.length s2] 27))
        have hsz : (w2.alloc (.cells #[.string (inoGet x).name, .int .i64 (inoGet x).size, .slice a2 (inoGet x).exts.length s2] 27)).heap.size = w2.heap.size + 1 := by simp
        have HROW := Lib.hid hrow
        have HBC := Lib.hid hbc
        have HSL := Lib.hid hsl
        have HSZ := Lib.hid hsz
        have HGA := Lib.hid (fun w => refGetAll_any x hxl w)
        clear hrow hbc hsl hsz hs2 hb2 hx
        generalize inoGet x = gi at *
        generalize inoThere x = gb at *
        generalize inoErr x = gn at *
        go_wp2_with fail
        refine (HGA.out _).mono ?_
        rintro e w3 ⟨a3, s3, rfl, hs3, hb3⟩
        have r2 := (heap_alloc_old w3 (.cells #[.string gi.name, .int .i64 gi.size, .slice a3 gi.exts.length s3] 31) (r := w2.heap.size) (by have := hb3.size; rw [HSZ.out] at this; omega)).trans ((hb3.block w2.heap.size (by rw [HSZ.out]; omega)).trans HROW.out)
        have r3 := heap_alloc_last w3 (.cells #[.string gi.name, .int .i64 gi.size, .slice a3 gi.exts.length s3] 31)
        have hal := (Below.refl w3.heap.size w3).alloc (Nat.le_refl _) (.cells #[.string gi.name, .int .i64 gi.size, .slice a3 gi.exts.length s3] 31)
        have sl2 := (HSL.out.below hb3).below hal
        have sl3 := hs3.below hal
        have HB4 := Lib.hid ((HBC.out.trans (hb3.mono HBC.out.size)).trans (hal.mono (by have := HBC.out.size; have := hb3.size; omega)))
        have HSA := Lib.hid (refSame_any gi gi a2 a3 s2 s3 y2 y2 (by omega) (by omega) _ sl2 sl3)
        rw [y4] at HSA
        obtain ⟨⟨d0, d1, d2⟩, p0, p1, p2⟩ := cells3 r2
        obtain ⟨⟨d3, d4, d5⟩, p3, p4, p5⟩ := cells3 r3
        have hsz3 : w2.heap.size < w3.heap.size := by have := hb3.size; rw [HSZ.out] at this; omega
        clear r2 r3 hal sl2 sl3 hs3 hb3
        go_wp2_with fail
        refine HSA.out.mono ?_
        rintro e w5 ⟨rfl, hb5⟩
        have HB5 := Lib.hid (HB4.out.trans (hb5.mono HB4.out.size))
        clear hb5 HSA HB4 d0 d1 d2 d3 d4 d5 p0 p1 p2 p3 p4 p5
        have hbb : (gb != gb) = false := by simp
        have hnn : (gn != gn) = false := by simp
        have hbb2 : (gb == gb) = true := by simp
        have hnn2 : (gn == gn) = true := by simp
        go_wp2
        go_roundw
        case rel => exact ⟨k + 1, by omega, by go_num, HB.out.trans (HB5.out.mono HB.out.size)⟩
        case measure => simp [intOf]; omega
      · obtain rfl : k = 2 := by omega
        go_wp2_with fail
        refine (filed_any _).mono ?_
        rintro e w2 ⟨rfl, hb2⟩
        go_wp2
        go_ret
        exact ⟨rfl, (HBM.out.trans (hb.mono HBM.out.size)).trans (hb2.mono (by have := HBM.out.size; have := hb.size; omega))⟩
end Go.Proofs.Ytffgjjhopopgcaa
