/-
  The walks of Sector and of one.
-/
import Derived.Test.YtffgjjhopopgcaaJo
namespace Go.Proofs.Ytffgjjhopopgcaa
set_option linter.unusedVariables false
set_option linter.unusedSimpArgs false
open Go.RowKit
set_option maxRecDepth 100000
set_option maxHeartbeats 8000000

/-- A sector's bytes, by one. -/
def sectorB (c : UInt8) : ByteArray := ⟨(List.replicate 512 c).toArray⟩
theorem sectorB_size (c : UInt8) : (sectorB c).size = 512 := by show (List.replicate 512 c).toArray.size = 512; simp
theorem sectorB_zero : sectorB 0 = zeroS := rfl
def rowC (c : UInt8) (k : Nat) : List UInt8 := List.replicate k c ++ List.replicate (512 - k) 0
theorem rowC_length (c : UInt8) (k : Nat) (h : k ≤ 512) : (rowC c k).length = 512 := by simp [rowC]; omega
theorem rowC_set (c : UInt8) (k : Nat) (h : k < 512) : (rowC c k).set k c = rowC c (k + 1) := by
  unfold rowC
  rw [show 512 - k = (512 - (k + 1)) + 1 by omega, List.replicate_succ, List.set_append_right _ _ (by simp)]
  simp only [List.length_replicate, Nat.sub_self, List.set_cons_zero]
  rw [List.replicate_succ', List.append_assoc]
  rfl

theorem sector_any (c : UInt8) (w : World) : Calls Try.prog 31 #[.int .u8 c.toNat] w (Ret w (.string (sectorB c))) := by
  obtain ⟨i0, hi, hz0, hz1, hz2⟩ := info_parts info_u8
  obtain ⟨wm, hrun, hown, hgrow⟩ := run_makeSlice_full (P := Try.prog) w w.heap.size 23 5 i0 _ 1 Try.underlying23 hi hz0 hz1 .i64 .i64 512 (by decide) (by rw [hz2]; decide) (by decide) (Nat.le_refl _)
  have hb0 := below_of_grown hgrow (Nat.le_refl _) (fun k h => by cases h)
  have hz : (madeCells (Value.int IntKind.u8 0).cells (512 * 1)).toList = bytesV (rowC c 0) := by
    show (madeCells #[Value.int .u8 0] 512).toList = _
    rw [toList_madeCells_one]
    simp [bytesV, rowC]
  rw [hz] at hown
  have hrun' : (Instr.makeSlice 23 (.int .i64 512) (.int .i64 512)).run Try.prog w = .ok (.slice (some ⟨w.heap.size, 0, none⟩) 512 512) wm := hrun
  have HO := Lib.hid hown
  have HB := Lib.hid hb0
  clear hz hown hb0 hgrow hi hz0 hz1 hz2 hrun
  go_enter Try.func31, Try.ntmps31
  go_wp2
  go_loopw [4] (fun i wr => ∃ k : Nat, k ≤ 512 ∧ i = .int .i64 k ∧ wr.ownsRow w.heap.size 5 1 (.slice (some ⟨w.heap.size, 0, none⟩) 512 512) 512 (bytesV (rowC c k)) ∧ Below w.heap.size w wr) (fun i _ => 512 - (intOf i).toNat)
  case atStart => exact ⟨0, by omega, rfl, HO.out, HB.out⟩
  case round =>
    obtain ⟨k, hk, rfl, hrow, hb⟩ := hrel
    by_cases hlt : k < 512
    · have hst := hrow.stored k (.int .u8 c.toNat)
      have hc : wr.cell? ⟨w.heap.size, k, none⟩ = some (.int .u8 ((rowC c k)[k]'(by rw [rowC_length c k hk]; exact hlt)).toNat) := by
        rw [hrow.cellAt k (by omega)]
        simp only [bytesV, List.getElem?_map]
        rw [List.getElem?_eq_getElem (by rw [rowC_length c k hk]; exact hlt)]
        rfl
      have hf := hrow.frozenAt k
      have e : (bytesV (rowC c k)).set k (.int .u8 c.toNat) = bytesV (rowC c (k + 1)) := by
        rw [← rowC_set c k hlt]
        simp only [bytesV, List.map_set]
      have hs1 := hst.1
      rw [e] at hs1
      have HS := Lib.hid hs1
      have HB2 := Lib.hid (hb.setCell (p := ⟨w.heap.size, k, none⟩) (Nat.le_refl _) (.int .u8 c.toNat))
      clear hst hs1 e hrow hb
      go_wp2
      go_roundw
      case rel => exact ⟨k + 1, by omega, by go_num, HS.out, HB2.out⟩
      case measure => simp [intOf]; omega
    · obtain rfl : k = 512 := by omega
      have hstr := run_string_own hrow
      have hB := Lib.hid hb
      clear hrow hb
      go_wp2
      go_ret
      refine ⟨ret_eq (congrArg Value.string ?_), hB.out⟩
      unfold sectorB rowC
      simp
theorem one_any (n : Int) (c : UInt8) (w : World) : Calls Try.prog 27 #[.int .i64 n, .int .u8 c.toNat] w (Ret w (.agg #[.int .i64 n, .string (sectorB c)])) := by
  have HC := Lib.hid (fun w1 => sector_any c w1)
  have hb1 := (Below.refl w.heap.size w).alloc (Nat.le_refl _) (.cells #[.int .i64 0, .string ⟨#[]⟩] 59)
  have hn1 := heap_alloc_last w (.cells #[.int .i64 0, .string ⟨#[]⟩] 59)
  have hz1 : (w.alloc (.cells #[.int .i64 0, .string ⟨#[]⟩] 59)).heap.size = w.heap.size + 1 := by simp
  have HB1 := Lib.hid hb1
  have HN1 := Lib.hid hn1
  have HZ1 := Lib.hid hz1
  clear hb1 hn1 hz1
  go_enter Try.func27, Try.ntmps27
  go_wp2_with fail
  refine (HC.out _).mono ?_
  rintro e w2 ⟨rfl, hb2⟩
  have hh2 := (hb2.block w.heap.size (by have := HZ1.out; omega)).trans HN1.out
  obtain ⟨c0, c1⟩ := cells2' hh2
  have f0 : w2.frozen? ⟨w.heap.size, 0, none⟩ = false := frozen_of_row _ _ _ _ _ hh2
  have f1 : w2.frozen? ⟨w.heap.size, 1, none⟩ = false := frozen_of_row _ _ _ _ _ hh2
  have HB2 := Lib.hid (HB1.out.trans (hb2.mono (by have := HZ1.out; omega)))
  clear hh2 hb2
  go_wp2
  refine bodyPost_ret (v := .agg #[.int .i64 n, .string (sectorB c)]) (by simp [results, Try.results27, go_sem, c0, c1, f0, f1]) rfl ⟨rfl, ?_⟩
  exact (HB2.out.setCell (Nat.le_refl _) _).setCell (Nat.le_refl _) _
end Go.Proofs.Ytffgjjhopopgcaa
