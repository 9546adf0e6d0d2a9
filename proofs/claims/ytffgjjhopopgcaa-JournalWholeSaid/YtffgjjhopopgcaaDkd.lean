/-
  The walks of slices.Repeat at texts, and of New.
-/
import Derived.Test.YtffgjjhopopgcaaDkc
import Derived.Test.YtffgjjhopopgcaaRrc
import Derived.Laws.CopyOwn
namespace Go.Proofs.Ytffgjjhopopgcaa
set_option linter.unusedVariables false
set_option linter.unusedSimpArgs false
open Go.RowKit
set_option maxRecDepth 100000
set_option maxHeartbeats 2000000

theorem info_str : (Try.prog.info? 9).map (fun i => (i.zero, i.size, i.bytes)) = some (some (.string ⟨#[]⟩), 1, 16) := by kernel_rfl

/-- m texts s, and then empty ones: n in all. -/
def rowS (n m : Nat) (s : ByteArray) : List Value := List.replicate m (.string s) ++ List.replicate (n - m) (.string ⟨#[]⟩)
theorem rowS_length (n m : Nat) (s : ByteArray) (h : m ≤ n) : (rowS n m s).length = n := by simp [rowS]; omega
theorem rowS_get (n m : Nat) (s : ByteArray) (j : Nat) (h : j < m) : (rowS n m s)[j]? = some (.string s) := by
  unfold rowS
  rw [List.getElem?_append_left (by simpa using h), List.getElem?_replicate, if_pos h]
theorem rowS_copy (n m k : Nat) (s : ByteArray) (h : m + k ≤ n) : (rowS n m s).take m ++ (List.replicate k (.string s) ++ (rowS n m s).drop (m + k)) = rowS n (m + k) s := by
  unfold rowS
  rw [List.take_append_of_le_length (by simp), List.take_of_length_le (by simp), List.drop_append, List.drop_eq_nil_of_le (by simp), List.nil_append, List.length_replicate, List.drop_replicate, ← List.append_assoc, List.replicate_append_replicate]
  congr 2
  omega

theorem repeat_any (w : World) (b c : Nat) (s : ByteArray) (n : Nat) (h1 : 1 ≤ n) (h2 : n ≤ 4096) (hc : w.cell? ⟨b, 0, none⟩ = some (.string s)) :
    Calls Try.prog 74 #[.slice (some ⟨b, 0, none⟩) 1 c, .int .i64 n] w (fun e w' => ∃ g, e = .returned (.slice (some ⟨g, 0, none⟩) n n) ∧ w'.ownsRow w.heap.size 9 1 (.slice (some ⟨g, 0, none⟩) n n) n (List.replicate n (.string s)) ∧ Below w.heap.size w w') := by
  obtain ⟨i0, hi, hz0, hz1, hz2⟩ := info_parts info_str
  obtain ⟨wm, hrun, hown, hgrow⟩ := run_makeSlice_full (P := Try.prog) w w.heap.size 101 9 i0 _ 1 Try.underlying101 hi hz0 hz1 .i64 .i64 n (by omega) (by rw [hz2]; omega) (by unfold maxLen; omega) (Nat.le_refl _)
  have hb0 := below_of_grown hgrow (Nat.le_refl _) (fun k h => by cases h)
  have hz : (madeCells (Value.string ⟨#[]⟩).cells (n * 1)).toList = rowS n 0 s := by
    rw [Nat.mul_one]
    show (madeCells #[Value.string ⟨#[]⟩] n).toList = _
    rw [toList_madeCells_one]
    simp [rowS]
  rw [hz] at hown
  have hsz : (Try.prog.info? 9).map (·.size) = some 1 := by rw [hi]; simp [hz1]
  have HSZ := Lib.hid hsz
  have HM := Lib.hid (Try.bits_Mul 1 n (by decide) (by omega) w)
  have e1 : 1 * n / 18446744073709551616 = 0 := by omega
  have e2 : 1 * n % 18446744073709551616 = n := by omega
  rw [e1, e2] at HM
  have hd1 : decide ((n : Int) < 0) = false := by simp
  have hd2 : decide ((9223372036854775807 : Int) < (n : Int)) = false := by simp; omega
  clear hz hi hz0 hz1 hz2 hgrow e1 e2
  have hg0 : wm.heap[w.heap.size]? = some (.cells (rowS n 0 s).toArray 9 (0, 0)) := by
    rcases hown.2 with ⟨h, _⟩ | ⟨g, cap, cur, hv, hb, hh, hnc, hcm, hcs, htake⟩
    · cases h
    · cases hv
      rw [List.take_of_length_le (by rw [Array.length_toList, hcs]; exact Nat.le_refl _)] at htake
      rw [hh, ← htake]
  have hcm : wm.cell? ⟨b, 0, none⟩ = some (.string s) := (hb0.cell (p := ⟨b, 0, none⟩) (World.block_lt_of_cell? w _ hc)).trans hc
  have hsrc : ∀ (j : Nat) (v : Value), [Value.string s][j]? = some v → wm.cell? ((⟨b, 0, none⟩ : Addr).add j) = some v := fun j v hj => by
    rcases j with _ | j
    · simp at hj
      subst hj
      rw [Go.WideShapes.add_plain]
      exact hcm
    · simp at hj
  obtain ⟨W, hcopy, hr1, hb1⟩ : ∃ W, (Builtin.copy_ #[101, 101] 3 #[.slice (some ⟨w.heap.size, 0, none⟩) n n, .slice (some ⟨b, 0, none⟩) 1 c]).run Try.prog wm = .ok (.int .i64 1) W ∧ W.heap[w.heap.size]? = some (.cells (rowS n 1 s).toArray 9 (0, 0)) ∧ Below w.heap.size w W := by
    refine ⟨_, run_copy_row (P := Try.prog) wm 101 101 3 9 w.heap.size 0 n n ⟨b, 0, none⟩ 1 c (rowS n 0 s).toArray 9 [.string s] Try.underlying101 hsz hg0 (by simp [Nat.min_def]; omega) hsrc (by simp [rowS]; omega) (by simp [Value.oneCell']), ?_, below_setRow hb0 (Nat.le_refl _) _⟩
    rw [setRow_heap _ _ _ _ _ _ hg0]
    have := rowS_copy n 0 1 s (by omega)
    simp only [List.replicate_one, Nat.zero_add] at this
    rw [List.toList_toArray, List.length_singleton, Nat.zero_add, List.append_assoc, this]
  have HR1 := Lib.hid hr1
  have HB1 := Lib.hid hb1
  clear hown hg0 hcm hb0 hc hsrc hr1 hb1
  go_enter Try.func74, Try.ntmps74
  go_wp2_with (go_at_call 85; refine HM.out.mono ?_; rintro e w1 ⟨rfl, rfl⟩)
  go_loopw [8] (fun i wr => ∃ m : Nat, 1 ≤ m ∧ m ≤ n ∧ i = .int .i64 m ∧ wr.heap[w1.heap.size]? = some (.cells (rowS n m s).toArray 9 (0, 0)) ∧ Below w1.heap.size w1 wr) (fun i _ => n - (intOf i).toNat)
  case atStart => exact ⟨1, by omega, by omega, rfl, HR1.out, HB1.out⟩
  case round =>
    obtain ⟨m, hm1, hm2, rfl, hr, hb⟩ := hrel
    by_cases hlt : m < n
    · have HR := Lib.hid hr
      have HB := Lib.hid hb
      clear hr hb
      go_wp2
      obtain ⟨k, hk⟩ : ∃ k, min m (n - m) = k := ⟨_, rfl⟩
      have hk1 : 1 ≤ k ∧ k ≤ m ∧ k ≤ n - m := by omega
      have HCOPY : ∀ w', w'.heap[w1.heap.size]? = some (.cells (rowS n m s).toArray 9 (0, 0)) → Below w1.heap.size w1 w' → ∃ W', (Builtin.copy_ #[101, 101] 3 #[.slice (some ⟨w1.heap.size, m, none⟩) (n - m) (n - m), .slice (some ⟨w1.heap.size, 0, none⟩) m n]).run Try.prog w' = .ok (.int .i64 k) W' ∧ W'.heap[w1.heap.size]? = some (.cells (rowS n (m + k) s).toArray 9 (0, 0)) ∧ Below w1.heap.size w1 W' := fun w' hr' hb' => by
        have := run_copy_row (P := Try.prog) w' 101 101 3 9 w1.heap.size m (n - m) (n - m) ⟨w1.heap.size, 0, none⟩ m n (rowS n m s).toArray 9 (List.replicate k (.string s)) Try.underlying101 HSZ.out hr' (by rw [List.length_replicate]; exact hk.symm)
          (fun j v hj => by
            obtain ⟨hj1, hj2⟩ := List.getElem?_eq_some_iff.1 hj
            simp at hj1 hj2
            subst hj2
            rw [Go.WideShapes.add_plain, Nat.zero_add, cell_of_row _ _ _ _ _ _ hr', List.getElem?_toArray, rowS_get n m s j (by omega)]) (by rw [List.length_replicate, List.size_toArray, rowS_length _ _ _ (by omega)]; omega) (by intro v hv; rw [List.mem_replicate] at hv; rw [hv.2]; rfl)
        refine ⟨_, by rw [this, List.length_replicate]; rfl, ?_, below_setRow hb' (Nat.le_refl _) _⟩
        rw [setRow_heap _ _ _ _ _ _ hr', List.append_assoc, rowS_copy n m k s (by omega)]
      obtain ⟨S, hS0⟩ : ∃ S : Nat → World → Prop, ∀ j w', S j w' ↔ (w'.heap[w1.heap.size]? = some (.cells (rowS n (if j = 0 then m else m + k) s).toArray 9 (0, 0)) ∧ Below w1.heap.size w1 w') := ⟨_, fun _ _ => Iff.rfl⟩
      have HS0 := Lib.hid hS0
      have HCP := Lib.hid HCOPY
      clear HCOPY
      clear hS0
      refine wp_region_rr3 9 S [7] (by kernel_rfl) (by kernel_rfl) (by kernel_rfl) ((HS0.out 0 _).2 ⟨HR.out, HB.out.drew⟩) ?_
      iterate 7
        (apply RR3_run
         focus (simp)
         focus rfl
         focus
           intro j w3 hS
           have HS := Lib.hid hS
           clear hS
           go_wp2
           exact ⟨rfl, HS.out⟩
         focus exact ⟨_, rfl⟩)
      (apply RR3_turn 0
       focus (simp)
       focus rfl
       focus rfl
       focus
         intro w3 hS
         obtain ⟨W', hc, hr', hb'⟩ := HCP.out w3 ((HS0.out 0 _).1 hS).1 ((HS0.out 0 _).1 hS).2
         have HS := Lib.hid ((HS0.out 1 W').2 ⟨hr', hb'⟩)
         clear hr' hb' hS
         go_wp2
         exact ⟨rfl, HS.out⟩
       focus exact ⟨_, rfl⟩)
      (apply RR3_run
       focus (simp)
       focus rfl
       focus
         intro j w3 hS
         have HS := Lib.hid hS
         clear hS
         go_wp2
         exact ⟨rfl, HS.out⟩
       focus exact ⟨_, rfl⟩)
      refine RR3_end fun w3 hS => ?_
      have HS := Lib.hid ((HS0.out 1 _).1 hS)
      clear hS
      go_wp2
      go_roundw
      case rel => exact ⟨m + k, by omega, by omega, by go_num, HS.out.1, HS.out.2⟩
      case measure => simp [intOf]; omega
    · obtain rfl : n = m := by omega
      go_wp2
      go_ret
      refine ⟨w1.heap.size, rfl, ⟨by simp, .inr ⟨w1.heap.size, _, _, rfl, Nat.le_refl _, hr, Nat.le_refl _, by unfold maxLen; omega, ?_, ?_⟩⟩, hb⟩
      · simp [rowS]
      · simp [rowS]
/-- A sector of zeros. -/
def zeroS : ByteArray := ⟨(zeros 512).toArray⟩
theorem zeroS_size : zeroS.size = 512 := by show (zeros 512).toArray.size = 512; simp [zeros]
def Dk.new (n : Nat) : Dk := ⟨List.replicate n zeroS, [], false, 0, false, 0, []⟩
theorem Dk.new_ok (n : Nat) (h1 : 8 ≤ n) (h2 : n ≤ 4096) : (Dk.new n).Ok :=
  ⟨⟨by simpa [Dk.new] using ⟨h1, h2⟩, fun s hs => by simp [Dk.new] at hs; rw [hs.2]; exact zeroS_size, by simp [Dk.new], by simp [Dk.new], by simp [Dk.new], by simp [Dk.new], by simp [Dk.new]⟩, by simp [Dk.new]⟩

theorem new_any (w : World) (n : Nat) (h1 : 8 ≤ n) (h2 : n ≤ 4096) :
    Calls Try.prog 37 #[.int .i64 n] w (fun e w' => ∃ p, e = .returned (.tuple #[.pointer (some ⟨p, 0, none⟩), .int .i64 0]) ∧ DiskAt w' (fun b => b < w.heap.size) p (Dk.new n) ∧ Below w.heap.size w w') := by
  have hc := Try.strings_Repeat ⟨#[0]⟩ 512 w (by decide) (by decide)
  rw [show (⟨#[0]⟩ : ByteArray).data.toList = [0] from rfl, repeatL_zero, show (⟨(zeros 512).toArray⟩ : ByteArray) = zeroS from rfl] at hc
  have HC := Lib.hid hc
  clear hc
  have hd1 : decide ((n : Int) < 8) = false := by simp; omega
  have hd2 : decide (4096 < (n : Int)) = false := by simp; omega
  go_enter Try.func37, Try.ntmps37
  go_wp2_with (first | (go_at_call 75; refine HC.out.mono ?_; rintro e w1 ⟨rfl, hb1⟩; have hal := (Below.refl w1.heap.size w1).alloc (Nat.le_refl _) (.cells #[.string zeroS] 9); have HB1 := Lib.hid (hb1.trans (hal.mono hb1.size)); have HR := Lib.hid (repeat_any (w1.alloc (.cells #[.string zeroS] 9)) w1.heap.size 1 zeroS n (by omega) h2 (by rw [cell_of_row _ _ _ _ _ _ (heap_alloc_last _ _)]; rfl)); clear hb1 hal) | (go_at_call 74; refine HR.out.mono ?_; rintro e w2 ⟨g, rfl, hown, hb2⟩; have HO := Lib.hid hown; have HB2 := Lib.hid hb2; clear hown hb2))
  refine bodyPost_ret (v := .tuple #[.pointer (some ⟨w2.heap.size, 0, none⟩), .int .i64 0]) (by simp [results, Try.results37, go_sem]) rfl ?_
  have hb2 : Below w.heap.size w w2 := HB1.out.trans (HB2.out.mono HB1.out.size)
  have hal := (Below.refl w2.heap.size w2).alloc (Nat.le_refl _) (.cells #[.slice (some ⟨g, 0, none⟩) n n, .slice none 0 0, .bool false, .int .i64 0, .bool false, .int .i64 0, .slice none 0 0] 103)
  have hg := (HO.out.lt g rfl)
  have hs := hb2.size
  have hs1 := HB1.out.size
  refine ⟨w2.heap.size, rfl, ⟨Dk.new_ok n h1 h2, g, n, .slice none 0 0, none, 0, ⟨fun b hb => ?_, ?_, ?_, World.ownsRow_nil _ _ _ _, fun k hk => by simp [Dk.new] at hk, by omega, by omega, fun g e => (by cases e), by omega, fun a e => (by cases e)⟩⟩, hb2.trans (hal.mono hb2.size)⟩
  · have := hal.size
    omega
  · rw [heap_alloc_last]
    simp [Dk.new]
  · have := row_below HO.out hal
    obtain ⟨h1, h2⟩ := this
    refine ⟨by simp [Dk.new], ?_⟩
    rcases h2 with ⟨h2, _⟩ | ⟨g', cap', cur, hv, hb, r⟩
    · cases h2
    · refine .inr ⟨g', cap', cur, ?_, Nat.zero_le _, ?_⟩
      · simpa [Dk.new] using hv
      · simpa [Dk.new, List.map_replicate] using r

theorem new_bad (w : World) (n : Int) (h : n < 8 ∨ 4096 < n) :
    Calls Try.prog 37 #[.int .i64 n] w (Same w (.tuple #[.pointer none, .int .i64 2])) := by
  by_cases h1 : n < 8
  · have hd1 : decide (n < 8) = true := by simp [h1]
    clear h
    go_enter Try.func37, Try.ntmps37
    go_wp2
    refine bodyPost_ret (v := .tuple #[.pointer none, .int .i64 2]) (by simp [results, Try.results37, go_sem]) rfl ?_
    exact ⟨rfl, rfl⟩
  · have hd1 : decide (n < 8) = false := by simp; omega
    have hd2 : decide (4096 < n) = true := by simp; omega
    clear h
    go_enter Try.func37, Try.ntmps37
    go_wp2
    refine bodyPost_ret (v := .tuple #[.pointer none, .int .i64 2]) (by simp [results, Try.results37, go_sem]) rfl ?_
    exact ⟨rfl, rfl⟩
end Go.Proofs.Ytffgjjhopopgcaa
