/-
  The walks of the small functions: nums.Blocks, crc, bits, and the document's.
-/
import Derived.Test.YtffgjjhopopgcaaBase
namespace Go.Proofs.Ytffgjjhopopgcaa
set_option linter.unusedVariables false
set_option linter.unusedSimpArgs false
open Go.RowKit

theorem info129 : (Try.prog.info? 129).map (fun i => (i.zero, i.size)) = some (some (.agg (Array.replicate 256 (.int .u32 0))), 256) := by kernel_rfl

set_option maxRecDepth 100000
set_option maxHeartbeats 400000

theorem blocks_any (n : Int) (w : World) (h0 : -9223372036854775808 ≤ n) (h : n ≤ 9223372036854775807) :
    Calls Try.prog 48 #[.int .i64 n] w (Same w (.int .i64 (blocksOf n))) := by
  by_cases hn : n < 1
  · have HF := Lib.hid (show blocksOf n = 0 by simp [blocksOf, hn])
    go_enter Try.func48, Try.ntmps48
    go_wp2
    go_ret
    exact ⟨by rw [HF.out]; rfl, rfl⟩
  · have HF := Lib.hid (show blocksOf n = (n - 1) / 512 + 1 by simp [blocksOf, hn])
    go_enter Try.func48, Try.ntmps48
    go_wp2
    go_ret
    exact ⟨by rw [HF.out]; rfl, rfl⟩

theorem blocksOf_alt (n : Int) (h : ¬ n < 1) : blocksOf n = if n % 512 > 0 then n / 512 + 1 else n / 512 := by
  unfold blocksOf
  rw [if_neg h]
  split <;> omega

theorem refBlocks_any (n : Int) (w : World) (h0 : -9223372036854775808 ≤ n) (h : n ≤ 9223372036854775807) :
    Calls Try.prog 53 #[.int .i64 n] w (Same w (.int .i64 (blocksOf n))) := by
  by_cases hn : n < 1
  · have HF := Lib.hid (show blocksOf n = 0 by simp [blocksOf, hn])
    go_enter Try.func53, Try.ntmps53
    go_wp2
    go_ret
    exact ⟨by rw [HF.out]; rfl, rfl⟩
  · by_cases hm : n % 512 > 0
    all_goals
      have HF := Lib.hid (blocksOf_alt n hn)
      go_enter Try.func53, Try.ntmps53
      go_wp2
      go_ret
      exact ⟨by rw [HF.out]; first | (rw [if_pos (by omega)]; rfl) | (rw [if_neg (by omega)]; rfl), rfl⟩

/-! ### crc -/
def tabRow (k : Nat) : Array Value := ((List.range 256).map fun i => if i < k then .int .u32 (crcSteps 8 i : Nat) else .int .u32 0).toArray
theorem tabRow_size (k : Nat) : (tabRow k).size = 256 := by simp [tabRow]
theorem tabRow_zero : tabRow 0 = Array.replicate 256 (.int .u32 0) := by
  apply Array.ext_getElem?
  intro i
  by_cases h : i < 256
  · simp [tabRow, h]
  · simp [tabRow, h]
theorem tabRow_get (k i : Nat) (h : i < 256) : (tabRow k)[i]? = some (if i < k then .int .u32 (crcSteps 8 i : Nat) else .int .u32 0) := by
  simp [tabRow, h]
theorem tabRow_set (k : Nat) (h : k < 256) : (tabRow k).setIfInBounds k (.int .u32 (crcSteps 8 k : Nat)) = tabRow (k + 1) := by
  apply Array.ext_getElem?
  intro i
  by_cases hi : i < 256
  · rw [tabRow_get (k + 1) i hi, Array.getElem?_setIfInBounds]
    by_cases hk : k = i
    · subst hk
      simp [tabRow_size, hi]
    · rw [if_neg hk, tabRow_get k i hi]
      by_cases hlt : i < k
      · rw [if_pos hlt, if_pos (by omega)]
      · rw [if_neg hlt, if_neg (by omega)]
  · rw [Array.getElem?_eq_none (by simp [tabRow_size]; omega), Array.getElem?_eq_none (by simp [tabRow_size]; omega)]
theorem tabRow_one (k : Nat) : (tabRow k).all (·.oneCell') = true := by
  unfold tabRow
  rw [List.all_toArray, List.all_map, List.all_eq_true]
  intro i _
  simp only [Function.comp]
  split <;> rfl

theorem crcStep_int (x : Nat) (h : x < 2 ^ 32) : bits BinOp.xor IntKind.u32 ((x : Int) / 2) (3988292384 * bits BinOp.and IntKind.u32 (x : Int) 1 % 4294967296) = (crcStep x : Nat) := by
  rw [and1_u32 x h]
  have e : (3988292384 * ((x % 2 : Nat) : Int) % 4294967296) = ((crcPoly * (x % 2) : Nat) : Int) := by
    unfold crcPoly
    omega
  rw [e, show ((x : Int) / 2) = ((x / 2 : Nat) : Int) from by omega, xor_u32]
  · rfl
  · omega
  · unfold crcPoly; omega

def crcTable : Array Value := tabRow 256

theorem steps_any (w : World) : Calls Try.prog 100 #[] w (Ret w (.agg crcTable)) := by
  have hz : ∀ w : World, (zeroValue 129).run Try.prog w = .ok (.agg (tabRow 0)) w := fun w => by
    rw [tabRow_zero]
    exact (zero_of_info info129).1 w
  have hz0 : (tabRow 0).size = 256 := tabRow_size 0
  generalize hT : tabRow 0 = T0 at hz hz0
  have HT := Lib.hid hT
  clear hT
  go_enter Try.func100, Try.ntmps100
  go_wp2
  go_loopw [2, 3] (fun c i wr => ∃ k : Nat, k ≤ 256 ∧ i = .int .i64 k ∧ wr.heap[w.heap.size]? = some (.cells (tabRow k) 129 (0,0)) ∧ Below w.heap.size w wr) (fun _ i _ => 256 - (intOf i).toNat)
  case atStart =>
    refine ⟨0, by omega, rfl, ?_, (Below.refl _ _).alloc (Nat.le_refl _) _⟩
    rw [HT.out]
    exact heap_alloc_last w _
  case round =>
    obtain ⟨k, hk, rfl, hh, hb⟩ := hrel
    by_cases hlt : k < 256
    · go_wp2
      go_loop [2, 8] (fun c j => ∃ m : Nat, m ≤ 8 ∧ j = .int .i64 m ∧ c = .int .u32 (crcSteps m k : Nat)) (fun _ j => 8 - (intOf j).toNat)
      case atStart => exact ⟨0, by omega, rfl, rfl⟩
      case round =>
        obtain ⟨m, hm, rfl, rfl⟩ := hrel
        by_cases hlm : m < 8
        · have hc : crcSteps m k < 4294967296 := crcSteps_lt m (by omega)
          have Hs := Lib.hid (show crcSteps (m + 1) k = crcStep (crcSteps m k) from rfl)
          generalize hx : crcSteps m k = x at *
          have Hx := Lib.hid hx
          clear hx
          go_wp2
          go_round
          case rel => exact ⟨m + 1, by omega, by go_num, by rw [Hs.out, crcStep_int x hc]⟩
          case measure => simp [intOf]; omega
        · obtain rfl : m = 8 := by omega
          have hcell := cell_of_row wr w.heap.size k (tabRow k) 129 (0, 0) hh
          rw [tabRow_get k k hlt] at hcell
          have hfz := frozen_of_row wr w.heap.size k (tabRow k) 129 hh
          have hc : crcSteps 8 k < 4294967296 := crcSteps_lt 8 (by omega)
          have H1 := Lib.hid (heap_setCell_same wr w.heap.size k (tabRow k) 129 (.int .u32 (crcSteps 8 k : Nat)) hh)
          have H2 := Lib.hid (tabRow_set k hlt)
          generalize crcSteps 8 k = x at *
          clear hh hz hz0
          go_wp2
          go_roundw
          case rel => exact ⟨k + 1, by omega, by go_num, by rw [H1.out, H2.out], hb.setCell (Nat.le_refl _) _⟩
          case measure => simp [intOf]; omega
    · obtain rfl : k = 256 := by omega
      have hsz : (Try.prog.info? 129).map (·.size) = some (tabRow 256).size := by rw [tabRow_size]; exact (zero_of_info info129).2
      have hone := tabRow_one 256
      have H3 := Lib.hid (setRow_heap wr w.heap.size (tabRow 256) (tabRow 256) 129 (0, 0) hh)
      have HR := Lib.hid hh
      have Hsz := Lib.hid hsz
      have Hone := Lib.hid hone
      clear hh hsz hone hz hz0 hlt
      go_wp2_with (first | (refine wpList_load_row rfl 129 _ rfl w.heap.size rfl _ _ _ _ HR.out Try.underlying129 rfl Hsz.out ?_) | (refine wpList_store_row rfl 129 _ _ rfl w.heap.size _ rfl rfl _ _ HR.out Hsz.out rfl Hone.out ?_))
      refine bodyPost_ret (v := .agg (tabRow 256)) (results_cell_row rfl _ _ w.heap.size _ _ _ _ rfl H3.out Try.underlying129 rfl Hsz.out) rfl ⟨rfl, ?_⟩
      exact below_setRow hb (Nat.le_refl _) _

theorem table_any (w : World) : Calls Try.prog 91 #[] w (Ret w (.agg crcTable)) := by
  have hz : ∀ w : World, (zeroValue 129).run Try.prog w = .ok (.agg (tabRow 0)) w := fun w => by
    rw [tabRow_zero]
    exact (zero_of_info info129).1 w
  have hz0 : (tabRow 0).size = 256 := tabRow_size 0
  generalize tabRow 0 = T0 at hz hz0
  have Hone := Lib.hid (show crcTable.all (·.oneCell') = true from tabRow_one 256)
  have Hsz := Lib.hid (show (Try.prog.info? 129).map (·.size) = some crcTable.size by unfold crcTable; rw [tabRow_size]; exact (zero_of_info info129).2)
  have Hz := Lib.hid (show T0.size = crcTable.size by unfold crcTable; rw [hz0, tabRow_size])
  clear hz0
  go_enter Try.func91, Try.ntmps91
  go_wp2_with fail
  refine (steps_any _).mono ?_
  rintro e w1 ⟨rfl, hb⟩
  have hh : w1.heap[w.heap.size]? = some (.cells T0 129 (0, 0)) := by
    rw [hb.block _ (by simp)]
    exact heap_alloc_last w _
  have H3 := Lib.hid (setRow_heap w1 w.heap.size T0 crcTable 129 (0, 0) hh)
  have HH := Lib.hid hh
  clear hh
  go_wp2_with (refine wpList_store_row rfl 129 _ _ rfl w.heap.size _ rfl rfl _ _ HH.out Hsz.out Hz.out Hone.out ?_)
  refine bodyPost_end (v := .agg crcTable) (results_cell_row rfl _ _ w.heap.size _ _ _ _ rfl H3.out Try.underlying129 rfl Hsz.out) rfl ⟨rfl, ?_⟩
  exact below_setRow (((Below.refl _ _).alloc (Nat.le_refl _) _).trans (hb.mono (by simp))) (Nat.le_refl _) _

theorem ret_eq {v v' : Value} (h : v = v') : Ending.returned v = .returned v' := by rw [h]
theorem below_of_grown {w w' : World} {row : Option Nat} (h : w.grownBy w' row) {B : Nat} (hB : B ≤ w.heap.size) (hr : ∀ k, row = some k → B ≤ k) : Below B w w' := (Below.refl B w).grown h hB hr

theorem not_u32 (c : Nat) (h : c < 4294967296) : bits BinOp.xor IntKind.u32 IntKind.u32.max (c : Int) = ((4294967295 - c : Nat) : Int) := by
  rw [show IntKind.u32.max = ((4294967295 : Nat) : Int) from by decide, xor_u32 _ _ (by decide) h]
  congr 1
  apply Nat.eq_of_testBit_eq
  intro i
  rw [Nat.testBit_xor, show (4294967295 : Nat) - c = 2 ^ 32 - (c + 1) from by omega, Nat.testBit_two_pow_sub_succ h, show (4294967295 : Nat) = 2 ^ 32 - 1 from rfl, Nat.testBit_two_pow_sub_one]
  by_cases hi : i < 32
  · simp [hi]
  · have : c.testBit i = false := Nat.testBit_lt_two_pow (Nat.lt_of_lt_of_le h (Nat.pow_le_pow_right (by decide) (Nat.le_of_not_lt hi) : 2 ^ 32 ≤ 2 ^ i))
    simp [hi, this]

theorem refPut_any (n : Nat) (hn : n < 2 ^ 64) (k : Nat) (z : Int) (hz : z = k) (h8 : k ≤ 8) (w : World) :
    Calls Try.prog 51 #[.int .u64 n, .int .i64 z] w (Ret w (.string ⟨(putB k n).toArray⟩)) := by
  subst hz
  obtain ⟨i0, hi, hz0, hz1, hz2⟩ := info_parts info_u8
  have hz1 := Lib.hid hz1
  have hz2 := Lib.hid hz2
  have hz0 := Lib.hid hz0
  go_enter Try.func51, Try.ntmps51
  go_wp2
  go_loopw [0, 5, 6] (fun x b i wr => ∃ j : Nat, j ≤ k ∧ i = .int .i64 j ∧ x = .int .u64 (n / 256 ^ j : Nat) ∧ wr.ownsRow w.heap.size 5 1 b j (bytesV (putB j n)) ∧ Below w.heap.size w wr) (fun _ _ i _ => k - (intOf i).toNat)
  case atStart => exact ⟨0, by omega, rfl, by simp, World.ownsRow_nil _ _ _ _, Below.refl _ _⟩
  case round =>
    obtain ⟨j, hj, rfl, rfl, hrow, hb⟩ := hrel
    by_cases hlt : j < k
    · have hx : n / 256 ^ j < 2 ^ 64 := Nat.lt_of_le_of_lt (Nat.div_le_self _ _) hn
      have HP := Lib.hid (show bytesV (putB (j + 1) n) = bytesV (putB j n) ++ [.int .u8 ((n / 256 ^ j % 256 : Nat) : Int)] by
        rw [putB_succ, bytesV_append]
        simp only [bytesV, List.map_cons, List.map_nil, toNat_ofNat_lt (Nat.mod_lt _ (by decide : 0 < 256))])
      have HD := Lib.hid (show n / 256 ^ (j + 1) = n / 256 ^ j / 256 by rw [Nat.div_div_eq_div_mul, Nat.pow_succ])
      generalize n / 256 ^ j = x at *
      have hs := hb.size
      go_wp2_with (at_builtin; refine wpList_append_own _ rfl _ _ 23 rfl w.heap.size 5 i0 _ 1 1 Try.underlying23 hi hz0.out hz1.out hz2.out rfl (by decide) _ _ _ rfl (hrow.alloc _) ⟨wr.heap.size, 0, none⟩ 1 1 [.int .u8 ((x : Int) % 256)] rfl rfl (cell_one_new _ _ _) (by simp [Value.oneCell']) (by unfold maxLen; omega) (by omega) (by simp; omega) ?_; intro v' w1 hown' hgrow' _)
      go_roundw
      case rel =>
        refine ⟨j + 1, by omega, by go_num, by rw [HD.out]; simp, ?_, hb.trans (((Below.refl _ _).alloc hs _).trans (below_of_grown hgrow' (by simp; omega) fun r hr => (hrow.lt r hr).1))⟩
        rw [HP.out]
        exact hown'
      case measure => simp [intOf]; omega
    · obtain rfl : j = k := by omega
      have hst := run_string_own hrow
      clear hi
      go_wp2
      go_ret
      exact ⟨rfl, hb⟩

theorem zeros_any (n : Nat) (z : Int) (hz : z = n) (hn : n ≤ 1000000) (w : World) :
    Calls Try.prog 45 #[.int .i64 z] w (Ret w (.string ⟨(zeros n).toArray⟩)) := by
  subst hz
  obtain ⟨i0, hi, hz0, hz1, hz2⟩ := info_parts info_u8
  obtain ⟨wm, hrun, hown, hgrow⟩ := run_makeSlice_full (P := Try.prog) w w.heap.size 23 5 i0 _ 1 Try.underlying23 hi hz0 hz1 .i64 .i64 n (by omega) (by rw [hz2]; omega) (by unfold maxLen; omega) (Nat.le_refl _)
  have hb0 := below_of_grown hgrow (Nat.le_refl _) (fun k h => by cases h)
  have hz : (madeCells (Value.int IntKind.u8 0).cells (n * 1)).toList = bytesV (zeros n) := by
    rw [Nat.mul_one]
    show (madeCells #[Value.int .u8 0] n).toList = _
    rw [toList_madeCells_one]
    simp [bytesV, zeros]
  rw [hz] at hown
  have hst := run_string_own hown
  clear hi hz0 hz1 hz2 hz
  go_enter Try.func45, Try.ntmps45
  go_wp2
  go_ret
  exact ⟨rfl, hb0⟩

theorem repeatL_zero (c : Nat) : Lib.repeatL [0] c = zeros c := by
  induction c with
  | zero => rfl
  | succ c ih => simp only [Lib.repeatL, ih, zeros, List.replicate_succ]; rfl

theorem padded_any (s : ByteArray) (n : Nat) (z : Int) (hz : z = n) (hsn : s.size ≤ n) (hn : n ≤ 1000000) (w : World) :
    Calls Try.prog 43 #[.string s, .int .i64 z] w (Ret w (.string ⟨(padTo n s.data.toList).toArray⟩)) := by
  subst hz
  have hc := Try.strings_Repeat ⟨#[0]⟩ (n - s.size) w (by omega) (by show 1 * _ ≤ _; omega)
  rw [show ((n - s.size : Nat) : Int) = (n : Int) - s.size from by omega, show (⟨#[0]⟩ : ByteArray).data.toList = [0] from rfl, repeatL_zero] at hc
  have HC := Lib.hid hc
  clear hc
  go_enter Try.func43, Try.ntmps43
  go_wp2_with fail
  refine (HC.out).mono ?_
  rintro e w1 ⟨rfl, hb⟩
  have hov : ¬ 9223372036854775807 < s.size + (zeros (n - s.size)).length := by rw [length_zeros]; omega
  go_wp2
  go_ret
  refine ⟨ret_eq (congrArg Value.string ?_), hb⟩
  unfold padTo
  rw [show s.data.toList.length = s.size from by simp]
  apply ByteArray.ext
  rw [ByteArray.data_append]
  simp

theorem wraps_u64 (n : Int) (h₀ : 0 ≤ n) (h₁ : n < 2 ^ 64) : IntKind.u64.wrap n = n := by
  simp only [IntKind.wrap, IntKind.bits, IntKind.signed]
  simp only [Bool.false_and, Bool.false_eq_true, if_false]
  exact Int.emod_eq_of_lt h₀ h₁

theorem wrap_u64 (n : Int) : IntKind.u64.wrap n = n % 18446744073709551616 := by simp [IntKind.wrap, IntKind.bits, IntKind.signed]

theorem or_shl8 (x c : Nat) (hx : x < 2 ^ 56) (hc : c < 256) : bits BinOp.or IntKind.u64 ((x : Int) * 256) (IntKind.u64.wrap (c : Int)) = ((256 * x + c : Nat) : Int) := by
  rw [wraps_u64 _ (by omega) (by omega)]
  have := (bits_nat .u64 64 (by decide) wraps_u64 (2 ^ 8 * x) c (by omega) (by omega)).2
  rw [← Nat.two_pow_add_eq_or_of_lt (by omega : c < 2 ^ 8)] at this
  rw [show ((x : Int) * 256) = ((2 ^ 8 * x : Nat) : Int) from by omega]
  exact this

theorem get_any (s : ByteArray) (hs : s.size ≤ maxLen) (w : World) :
    Calls Try.prog 70 #[.string s] w (Same w (.int .u64 (getB (s.data.toList.take 8) : Nat))) := by
  unfold maxLen at hs
  obtain ⟨m, hm⟩ : ∃ m : Nat, min s.size 8 = m := ⟨_, rfl⟩
  have hm2 : min (s.size : Int) 8 = (m : Int) := by omega
  have Hm := Lib.hid hm
  have hm8 : m ≤ 8 := by omega
  have hms : m ≤ s.size := by omega
  clear hm
  go_enter Try.func70, Try.ntmps70
  go_wp2
  go_loop [3, 4] (fun x i => ∃ j : Nat, j ≤ m ∧ i = .int .i64 ((j : Int) - 1) ∧ x = .int .u64 (getB ((s.data.toList.take m).drop j) : Nat)) (fun _ i => ((intOf i) + 1).toNat)
  case atStart => exact ⟨m, by omega, rfl, by simp [getB]⟩
  case round =>
    obtain ⟨j, hj, rfl, rfl⟩ := hrel
    by_cases h0 : 0 < j
    · have hlen : ((s.data.toList.take m).drop j).length ≤ 7 := by simp; omega
      have hx := getB_lt ((s.data.toList.take m).drop j)
      have hx2 : getB ((s.data.toList.take m).drop j) < 2 ^ 56 := Nat.lt_of_lt_of_le hx (by
        calc 256 ^ ((s.data.toList.take m).drop j).length ≤ 256 ^ 7 := Nat.pow_le_pow_right (by decide) hlen
          _ = 2 ^ 56 := by decide)
      have HN := Lib.hid (show getB ((s.data.toList.take m).drop (j - 1)) = 256 * getB ((s.data.toList.take m).drop j) + (s[j - 1]'(by omega)).toNat by
        have hj1 : j - 1 < (s.data.toList.take m).length := by simp; omega
        rw [List.drop_eq_getElem_cons hj1, show j - 1 + 1 = j from by omega, getB]
        rw [List.getElem_take]
        rw [Nat.add_comm]
        rfl)
      clear hx
      generalize getB ((s.data.toList.take m).drop j) = x at *
      go_wp2
      go_round
      case rel => exact ⟨j - 1, by omega, by go_num, by rw [HN.out, or_shl8 _ _ hx2 (byte_lt _)]⟩
      case measure => simp [intOf]; omega
    · obtain rfl : j = 0 := by omega
      have HF := Lib.hid (show getB ((s.data.toList.take m).drop 0) = getB (s.data.toList.take 8) by
        rw [List.drop_zero]
        congr 1
        rcases Nat.le_total s.size 8 with h | h
        · rw [← Hm.out, Nat.min_eq_left h, List.take_of_length_le (by simp), List.take_of_length_le (by simpa using h)]
        · rw [← Hm.out, Nat.min_eq_right h])
      go_wp2
      go_ret
      exact ⟨by rw [← HF.out]; rfl, rfl⟩

theorem put_any (n : Nat) (hn : n < 2 ^ 64) (k : Nat) (z : Int) (hz : z = k) (h1 : 1 ≤ k) (h8 : k ≤ 8) (w : World) :
    Calls Try.prog 49 #[.int .u64 n, .int .i64 z] w (Ret w (.string ⟨(putB k n).toArray⟩)) := by
  subst hz
  obtain ⟨i0, hi, hz0, hz1, hz2⟩ := info_parts info_u8
  obtain ⟨wm, hrun, hown, hgrow⟩ := run_makeSlice_owned (P := Try.prog) w w.heap.size 23 5 i0 _ 1 Try.underlying23 hi hz0 hz1 .i64 .i64 k (by omega) (by rw [hz2]; omega) (by unfold maxLen; omega) (Nat.le_refl _)
  have hb0 := below_of_grown hgrow (Nat.le_refl _) (fun k h => by cases h)
  have hz1 := Lib.hid hz1
  have hz2 := Lib.hid hz2
  have hz0 := Lib.hid hz0
  go_enter Try.func49, Try.ntmps49
  go_wp2
  go_loopw [0, 5, 15] (fun x b i wr => ∃ j : Nat, j ≤ k ∧ i = .int .i64 j ∧ x = .int .u64 (n / 256 ^ j : Nat) ∧ wr.ownsRow w.heap.size 5 1 b j (bytesV (putB j n)) ∧ Below w.heap.size w wr) (fun _ _ i _ => k - (intOf i).toNat)
  case atStart => exact ⟨0, by omega, rfl, by simp, hown, hb0⟩
  case round =>
    obtain ⟨j, hj, rfl, rfl, hrow, hb⟩ := hrel
    by_cases hlt : j < k
    · have hx : n / 256 ^ j < 2 ^ 64 := Nat.lt_of_le_of_lt (Nat.div_le_self _ _) hn
      have HP := Lib.hid (show bytesV (putB (j + 1) n) = bytesV (putB j n) ++ [.int .u8 ((n / 256 ^ j % 256 : Nat) : Int)] by
        rw [putB_succ, bytesV_append]
        simp only [bytesV, List.map_cons, List.map_nil, toNat_ofNat_lt (Nat.mod_lt _ (by decide : 0 < 256))])
      have HD := Lib.hid (show n / 256 ^ (j + 1) = n / 256 ^ j / 256 by rw [Nat.div_div_eq_div_mul, Nat.pow_succ])
      generalize n / 256 ^ j = x at *
      have hs := hb.size
      go_wp2_with (at_builtin; refine wpList_append_own _ rfl _ _ 23 rfl w.heap.size 5 i0 _ 1 1 Try.underlying23 hi hz0.out hz1.out hz2.out rfl (by decide) _ _ _ rfl (hrow.alloc _) ⟨wr.heap.size, 0, none⟩ 1 1 [.int .u8 ((x : Int) % 256)] rfl rfl (cell_one_new _ _ _) (by simp [Value.oneCell']) (by unfold maxLen; omega) (by omega) (by simp; omega) ?_; intro v' w1 hown' hgrow' _)
      go_roundw
      case rel =>
        refine ⟨j + 1, by omega, by go_num, by rw [HD.out]; simp, ?_, hb.trans (((Below.refl _ _).alloc hs _).trans (below_of_grown hgrow' (by simp; omega) fun r hr => (hrow.lt r hr).1))⟩
        rw [HP.out]
        exact hown'
      case measure => simp [intOf]; omega
    · obtain rfl : j = k := by omega
      have hst := run_string_own hrow
      clear hi hrun
      go_wp2
      go_ret
      exact ⟨rfl, hb⟩

theorem take_snoc (s : ByteArray) (k : Nat) (h : k < s.size) : s.data.toList.take (k + 1) = s.data.toList.take k ++ [s[k]] := by
  rw [List.take_succ_eq_append_getElem (by simpa using h)]; rfl

theorem run_index_table (k : IntKind) (j : Nat) (h : j < 256) (w : World) : (Instr.index 129 (.agg crcTable) (.int k (j : Int))).run Try.prog w = .ok (.int .u32 (crcSteps 8 j : Nat)) w := by
  have hg : crcTable[j]? = some (.int .u32 (crcSteps 8 j : Nat)) := by
    unfold crcTable
    rw [tabRow_get 256 j h, if_pos h]
  simp [Instr.index, asIntOf, run_underlying Try.underlying129, part, Try.sizeOf93, Try.isAgg93, hg, h]


theorem more_any (c0 : Nat) (hc0 : c0 < 4294967296) (z : Int) (hz : z = c0) (s : ByteArray) (hs : s.size ≤ maxLen) (w : World) :
    Calls Try.prog 78 #[.int .u32 z, .string s] w (Ret w (.int .u32 (crcMore c0 s.data.toList : Nat))) := by
  subst hz
  unfold maxLen at hs
  have hnot := not_u32 c0 hc0
  go_enter Try.func78, Try.ntmps78
  go_wp2
  go_loopw [0, 10] (fun c i wr => ∃ k : Nat, k ≤ s.size ∧ i = .int .i64 k ∧ c = .int .u32 (crcFold (4294967295 - c0) (s.data.toList.take k) : Nat) ∧ Below w.heap.size w wr) (fun _ i _ => s.size - (intOf i).toNat)
  case atStart => exact ⟨0, by omega, rfl, rfl, Below.refl _ _⟩
  case round =>
    obtain ⟨k, hk, rfl, rfl, hb⟩ := hrel
    by_cases hlt : k < s.size
    · have hc : crcFold (4294967295 - c0) (s.data.toList.take k) < 4294967296 := crcFold_lt (by omega) _
      have hix : ∀ w : World, (Instr.index 129 (.agg crcTable) (.int .u8 (bits BinOp.xor IntKind.u8 ((crcFold (4294967295 - c0) (s.data.toList.take k) : Nat) % 256 : Int) (s[k].toNat : Int)))).run Try.prog w = .ok (.int .u32 (crcSteps 8 (crcFold (4294967295 - c0) (s.data.toList.take k) % 256 ^^^ s[k].toNat) : Nat)) w := fun w => by
        have hl : crcFold (4294967295 - c0) (s.data.toList.take k) % 256 ^^^ s[k].toNat < 2 ^ 8 := Nat.xor_lt_two_pow (by omega) (byte_lt _)
        rw [show ((crcFold (4294967295 - c0) (s.data.toList.take k) : Nat) % 256 : Int) = ((crcFold (4294967295 - c0) (s.data.toList.take k) % 256 : Nat) : Int) from by omega, xor_u8 _ _ (by omega) (byte_lt _)]
        exact run_index_table _ _ hl w
      have HN := Lib.hid (show crcFold (4294967295 - c0) (s.data.toList.take (k + 1)) = crcUpd (crcFold (4294967295 - c0) (s.data.toList.take k)) s[k] by
        rw [take_snoc s k hlt, crcFold_append]; rfl)
      generalize crcFold (4294967295 - c0) (s.data.toList.take k) = x at *
      go_wp2
      refine wp_region_rr 12 (fun w' => Below wr.heap.size wr w') (by kernel_rfl) (by kernel_rfl) (Below.refl _ _).drew ?_
      repeat
        apply RR_run
        focus rfl
        focus
          intro w2 hS
          go_wp2_with (go_at_call 91; refine (table_any _).mono ?_; rintro e w3 ⟨rfl, h3⟩)
          exact ⟨rfl, by first | exact hS | exact hS.trans (Below.mono (by assumption) hS.size)⟩
        focus exact ⟨_, rfl⟩
      refine RR_end fun w2 hS => ?_
      go_wp2
      go_roundw
      case rel =>
        refine ⟨k + 1, by omega, by go_num, ?_, hb.trans (hS.mono hb.size)⟩
        rw [HN.out, crcUpd_table, show ((x : Int) / 256) = ((x / 256 : Nat) : Int) from by omega, xor_u32]
        · omega
        · exact crcSteps_lt 8 (Nat.lt_of_lt_of_le (Nat.xor_lt_two_pow (n := 8) (by omega) (byte_lt _)) (by decide))
      case measure => simp [intOf]; omega
    · obtain rfl : k = s.size := by omega
      have HF := Lib.hid (show s.data.toList.take s.size = s.data.toList from List.take_of_length_le (by simp))
      rw [HF.out]
      have hc : crcFold (4294967295 - c0) s.data.toList < 4294967296 := crcFold_lt (by omega) _
      have hnot2 := not_u32 _ hc
      have HM := Lib.hid (show crcMore c0 s.data.toList = 4294967295 - crcFold (4294967295 - c0) s.data.toList from rfl)
      generalize crcFold (4294967295 - c0) s.data.toList = x at *
      go_wp2
      go_ret
      exact ⟨by rw [HM.out]; rfl, hb⟩

theorem sum_any (s : ByteArray) (hs : s.size ≤ maxLen) (w : World) :
    Calls Try.prog 50 #[.string s] w (Ret w (.int .u32 (crc s.data.toList : Nat))) := by
  go_enter Try.func50, Try.ntmps50
  go_wp2_with fail
  refine (more_any 0 (by decide) 0 rfl s hs _).mono ?_
  rintro e w1 ⟨rfl, hb⟩
  go_wp2
  go_ret
  exact ⟨rfl, hb⟩

theorem refStep_any (n bit : Nat) (hn : n < 4294967296) (hb : bit < 2) (zb : Int) (hz : zb = bit) (w : World) :
    Calls Try.prog 92 #[.int .u32 n, .int .u32 zb] w (Same w (.int .u32 (refStep n bit : Nat))) := by
  subst hz
  by_cases h : n % 2 = bit
  · have HF := Lib.hid (show refStep n bit = n / 2 by simp [refStep, h])
    have ht : ((n : Int) % 2 == (bit : Int)) = true := by simp; omega
    have ht2 : ((n : Int) % 2 != (bit : Int)) = false := by simp; omega
    go_enter Try.func92, Try.ntmps92
    go_wp2
    go_ret
    exact ⟨by rw [HF.out]; rfl, rfl⟩
  · have HF := Lib.hid (show refStep n bit = n / 2 ^^^ crcPoly by simp [refStep, h])
    have ht : ((n : Int) % 2 == (bit : Int)) = false := by simp; omega
    have ht2 : ((n : Int) % 2 != (bit : Int)) = true := by simp; omega
    have hx := xor_u32 (n / 2) crcPoly (by omega) crcPoly_lt
    have hx2 : bits BinOp.xor IntKind.u32 ((n : Int) / 2) 3988292384 = ((n / 2 ^^^ crcPoly : Nat) : Int) := hx
    clear hx
    go_enter Try.func92, Try.ntmps92
    go_wp2
    go_ret
    exact ⟨by rw [HF.out]; rfl, rfl⟩

def refFold (c : Nat) (l : List UInt8) : Nat := crcFold c l

theorem refSteps_any (c0 : Nat) (hc0 : c0 < 4294967296) (z : Int) (hz : z = c0) (s : ByteArray) (hs : s.size ≤ maxLen) (w : World) :
    Calls Try.prog 79 #[.int .u32 z, .string s] w (Same w (.int .u32 (crcFold c0 s.data.toList : Nat))) := by
  subst hz
  unfold maxLen at hs
  go_enter Try.func79, Try.ntmps79
  go_wp2
  go_loop [0, 5] (fun c i => ∃ k : Nat, k ≤ s.size ∧ i = .int .i64 k ∧ c = .int .u32 (crcFold c0 (s.data.toList.take k) : Nat)) (fun _ i => s.size - (intOf i).toNat)
  case atStart => exact ⟨0, by omega, rfl, rfl⟩
  case round =>
    obtain ⟨k, hk, rfl, rfl⟩ := hrel
    by_cases hlt : k < s.size
    · have hc : crcFold c0 (s.data.toList.take k) < 4294967296 := crcFold_lt hc0 _
      have HN := Lib.hid (show crcFold c0 (s.data.toList.take (k + 1)) = refBits 8 (crcFold c0 (s.data.toList.take k)) s[k].toNat by
        rw [take_snoc s k hlt, crcFold_append, refBits_byte]; rfl)
      generalize crcFold c0 (s.data.toList.take k) = x at *
      go_wp2
      have hcb : s[k].toNat < 256 := byte_lt _
      go_loop [0, 6, 7] (fun n c j => ∃ m : Nat, m ≤ 8 ∧ j = .int .i64 m ∧ n = .int .u32 (refBits m x s[k].toNat : Nat) ∧ c = .int .u32 (s[k].toNat / 2 ^ m : Nat)) (fun _ _ j => 8 - (intOf j).toNat)
      case atStart => exact ⟨0, by omega, rfl, rfl, by simp; omega⟩
      case round =>
        obtain ⟨m, hm, rfl, rfl, rfl⟩ := hrel
        by_cases hlm : m < 8
        · have hn2 : refBits m x s[k].toNat < 4294967296 := refBits_lt m _ hc
          have hq : s[k].toNat / 2 ^ m < 256 := Nat.lt_of_le_of_lt (Nat.div_le_self _ _) hcb
          have HD := Lib.hid (show s[k].toNat / 2 ^ (m + 1) = s[k].toNat / 2 ^ m / 2 by rw [Nat.div_div_eq_div_mul, Nat.pow_succ])
          have HR := Lib.hid (show refBits (m + 1) x s[k].toNat = refStep (refBits m x s[k].toNat) (s[k].toNat / 2 ^ m % 2) from rfl)
          generalize s[k].toNat / 2 ^ m = q at *
          generalize refBits m x s[k].toNat = y at *
          go_wp2_with fail
          refine (refStep_any y (q % 2) hn2 (by omega) _ (by omega) _).mono ?_
          rintro e w1 ⟨rfl, rfl⟩
          go_wp2
          go_round
          case rel => exact ⟨m + 1, by omega, by go_num, by rw [HR.out], by rw [HD.out]; simp⟩
          case measure => simp [intOf]; omega
        · obtain rfl : m = 8 := by omega
          go_wp2
          go_round
          case rel => exact ⟨k + 1, by omega, by go_num, by rw [HN.out]⟩
          case measure => simp [intOf]; omega
    · obtain rfl : k = s.size := by omega
      have HF := Lib.hid (show s.data.toList.take s.size = s.data.toList from List.take_of_length_le (by simp))
      rw [HF.out]
      generalize crcFold c0 s.data.toList = x at *
      go_wp2
      go_ret
      exact ⟨rfl, rfl⟩

theorem refSum_any (s : ByteArray) (hs : s.size ≤ maxLen) (w : World) :
    Calls Try.prog 52 #[.string s] w (Same w (.int .u32 (crc s.data.toList : Nat))) := by
  have hc : crcFold 4294967295 s.data.toList < 4294967296 := crcFold_lt (by decide) _
  have HF := Lib.hid (show crc s.data.toList = 4294967295 - crcFold 4294967295 s.data.toList from rfl)
  go_enter Try.func52, Try.ntmps52
  go_wp2_with fail
  refine (refSteps_any 4294967295 (by decide) _ rfl s hs _).mono ?_
  rintro e w1 ⟨rfl, rfl⟩
  generalize crcFold 4294967295 s.data.toList = x at *
  go_wp2
  go_ret
  refine ⟨ret_eq ?_, rfl⟩
  rw [HF.out]
  show Value.int .u32 _ = _
  congr 1
  omega

theorem refGet_any (s : ByteArray) (hs : s.size ≤ maxLen) (w : World) :
    Calls Try.prog 46 #[.string s] w (Same w (.int .u64 (getB (s.data.toList.take 8) : Nat))) := by
  unfold maxLen at hs
  go_enter Try.func46, Try.ntmps46
  go_wp2
  go_loop [3, 4, 5] (fun x y i => ∃ j : Nat, j ≤ s.size ∧ j ≤ 8 ∧ i = .int .i64 j ∧ x = .int .u64 (getB (s.data.toList.take j) : Nat) ∧ y = .int .u64 (256 ^ j % 2 ^ 64 : Nat)) (fun _ _ i => 8 - (intOf i).toNat)
  case atStart => exact ⟨0, by omega, by omega, rfl, rfl, rfl⟩
  case round =>
    obtain ⟨j, hj, hj8, rfl, rfl, rfl⟩ := hrel
    by_cases h0 : j < s.size
    · by_cases h8 : j < 8
      · have hx := getB_lt (s.data.toList.take j)
        rw [show (s.data.toList.take j).length = j from by simp; omega] at hx
        have hp : 256 ^ j ≤ 2 ^ 56 := by
          calc 256 ^ j ≤ 256 ^ 7 := Nat.pow_le_pow_right (by decide) (by omega)
            _ = 2 ^ 56 := by decide
        have HN := Lib.hid (show getB (s.data.toList.take (j + 1)) = getB (s.data.toList.take j) + 256 ^ j * (s[j]).toNat by
          rw [take_snoc s j h0, getB_append, show (s.data.toList.take j).length = j from by simp; omega]
          simp [getB])
        have HP := Lib.hid (show 256 ^ (j + 1) = 256 ^ j * 256 from Nat.pow_succ ..)
        have hpm : 256 ^ j % 2 ^ 64 = 256 ^ j := Nat.mod_eq_of_lt (by omega)
        rw [hpm]
        clear hpm
        have hb := byte_lt s[j]
        have hmul : 256 ^ j * s[j].toNat ≤ 256 ^ j * 255 := Nat.mul_le_mul_left _ (by omega)
        generalize getB (s.data.toList.take j) = x at *
        generalize 256 ^ j = p at *
        go_wp2
        go_round
        case rel => exact ⟨j + 1, by omega, by omega, by go_num, by rw [HN.out]; simp, by rw [HP.out, wrap_u64]; simp⟩
        case measure => simp [intOf]; omega
      · obtain rfl : j = 8 := by omega
        generalize getB (s.data.toList.take 8) = x at *
        go_wp2
        go_ret
        exact ⟨rfl, rfl⟩
    · obtain rfl : j = s.size := by omega
      have HF := Lib.hid (show getB (s.data.toList.take 8) = getB (s.data.toList.take s.size) by
        rw [List.take_of_length_le (by simpa using hj8), List.take_of_length_le (by simp)])
      generalize getB (s.data.toList.take s.size) = x at *
      go_wp2
      go_ret
      exact ⟨by rw [HF.out]; rfl, rfl⟩
end Go.Proofs.Ytffgjjhopopgcaa
