/-
  The walk that makes a transaction's head.
-/
import Derived.Test.YtffgjjhopopgcaaJa
namespace Go.Proofs.Ytffgjjhopopgcaa
set_option linter.unusedVariables false
set_option linter.unusedSimpArgs false
open Go.RowKit
set_option maxRecDepth 100000
set_option maxHeartbeats 2000000

theorem headRow_length (x : Wr) (h : x.data.size = 512) : (headRow x).length = 8 := by
  simp [headRow, length_putB, bOf_size, h]
theorem headRows_length (l : List Wr) (h : ∀ x ∈ l, x.data.size = 512) : (l.flatMap headRow).length = 8 * l.length := by
  induction l with
  | nil => rfl
  | cons x l ih =>
    rw [List.flatMap_cons, List.length_append, headRow_length x (h x (by simp)), ih fun y hy => h y (List.mem_cons_of_mem _ hy), List.length_cons]
    omega
def headS0 (number : Nat) (l : List Wr) : List UInt8 := [76, 84, 48, 49] ++ putB 8 number ++ putB 1 l.length
theorem headS0_length (number : Nat) (l : List Wr) : (headS0 number l).length = 13 := by simp [headS0, length_putB]
theorem extract_bytes (s : ByteArray) (a b : Nat) : s.extract a b = ⟨(((bOf s).take b).drop a).toArray⟩ := by
  apply ByteArray.ext
  apply Array.ext'
  rw [ByteArray.data_extract]
  simp [bOf, List.extract_eq_take_drop]
  try rw [List.drop_take]

theorem head_any (number : Nat) (hn : number < 2 ^ 64) (a : Option Addr) (c : Nat) (l : List Wr) (hl : l.length ≤ 24) (hw : ∀ x ∈ l, 0 ≤ x.sec ∧ x.sec < 4294967296 ∧ x.data.size = 512) (w : World) (hs : SlW w a l) :
    Calls Try.prog 61 #[.int .u64 number, .slice a l.length c] w (Ret w (.string ⟨(headL number l).toArray⟩)) := by
  have H8 := Lib.hid (fun w => put_any number hn 8 8 rfl (by decide) (by decide) w)
  have H1 := Lib.hid (fun w => put_any l.length (by omega) 1 1 rfl (by decide) (by decide) w)
  have e1 : (⟨#[76, 84, 48, 49]⟩ : ByteArray) ++ ⟨(putB 8 number).toArray⟩ = ⟨([76, 84, 48, 49] ++ putB 8 number).toArray⟩ := mk_append _ _
  have e2 : (⟨([76, 84, 48, 49] ++ putB 8 number).toArray⟩ : ByteArray) ++ ⟨(putB 1 l.length).toArray⟩ = ⟨(headS0 number l).toArray⟩ := mk_append _ _
  have z8 : (⟨(putB 8 number).toArray⟩ : ByteArray).size = 8 := by rw [mk_size, length_putB]
  have z1 : (⟨(putB 1 l.length).toArray⟩ : ByteArray).size = 1 := by rw [mk_size, length_putB]
  have y1 : (⟨([76, 84, 48, 49] ++ putB 8 number).toArray⟩ : ByteArray).size = 12 := by rw [mk_size]; simp [length_putB]
  generalize (⟨([76, 84, 48, 49] ++ putB 8 number).toArray⟩ : ByteArray) = s1 at *
  generalize (⟨(putB 8 number).toArray⟩ : ByteArray) = p8 at *
  generalize (⟨(putB 1 l.length).toArray⟩ : ByteArray) = p1 at *
  have HSL := Lib.hid hs
  have HW := Lib.hid hw
  clear hs hw
  have HB := Lib.hid (Below.refl w.heap.size w)
  go_enter Try.func61, Try.ntmps61
  go_wp2_with (go_at_call 49; first | ((with_reducible refine (H8.out _).mono ?_); rintro e w1 ⟨rfl, hb⟩; have HB := Lib.hid (HB.out.trans (hb.mono HB.out.size)); clear hb) | ((with_reducible refine (H1.out _).mono ?_); rintro e w1 ⟨rfl, hb⟩; have HB := Lib.hid (HB.out.trans (hb.mono HB.out.size)); clear hb))
  clear e1 e2 z8 z1 y1 H8 H1
  go_loopw [5, 21] (fun s i wr => ∃ k : Nat, k ≤ l.length ∧ i = .int .i64 k ∧ s = .string ⟨(headS0 number l ++ (l.take k).flatMap headRow).toArray⟩ ∧ Below w.heap.size w wr) (fun _ i _ => l.length - (intOf i).toNat)
  case atStart => exact ⟨0, by omega, rfl, by simp, HB.out⟩
  case round =>
    obtain ⟨k, hk, rfl, rfl, hbr⟩ := hrel
    by_cases hlt : k < l.length
    · obtain ⟨b, off, rfl, g1', g2'⟩ := HSL.out k hlt
      have g1 := (hbr.cell (p := ⟨b, off + k * 2, none⟩) (World.block_lt_of_cell? w _ g1')).trans g1'
      have g2 := (hbr.cell (p := ⟨b, off + k * 2 + 1, none⟩) (World.block_lt_of_cell? w _ g2')).trans g2'
      clear g1' g2'
      have hx := HW.out l[k] (List.getElem_mem _)
      have htk : (l.take (k + 1)).flatMap headRow = (l.take k).flatMap headRow ++ headRow l[k] := by rw [List.take_succ_eq_append_getElem hlt, List.flatMap_append, List.flatMap_singleton]
      have hlen : (headS0 number l ++ (l.take k).flatMap headRow).length ≤ 1000 := by
        rw [List.length_append, headS0_length, headRows_length _ fun x hx => (HW.out x (List.mem_of_mem_take hx)).2.2, List.length_take]
        omega
      generalize l[k] = x at *
      obtain ⟨sec, data⟩ := x
      simp only at hx g1 g2 htk
      obtain ⟨m, rfl⟩ : ∃ m : Nat, sec = m := ⟨sec.toNat, by omega⟩
      have HTK := Lib.hid htk
      clear htk
      obtain ⟨S, hSd⟩ : ∃ S, headS0 number l ++ (l.take k).flatMap headRow = S := ⟨_, rfl⟩
      rw [hSd] at hlen ⊢
      have HSD := Lib.hid hSd
      clear hSd
      have hal := (Below.refl wr.heap.size wr).alloc (Nat.le_refl _) (.cells #[.int .i64 (m : Int), .string data] 59)
      have hnew := heap_alloc_last wr (.cells #[.int .i64 (m : Int), .string data] 59)
      have HN := Lib.hid (cells2' hnew)
      have hws : (wr.alloc (.cells #[.int .i64 (m : Int), .string data] 59)).heap.size = wr.heap.size + 1 := by simp
      have HB1 := Lib.hid (hbr.trans (hal.mono hbr.size))
      clear hal hnew hbr
      have HP4 := Lib.hid (fun w => put_any m (by omega) 4 4 rfl (by decide) (by decide) w)
      have E5 : (⟨S.toArray⟩ : ByteArray) ++ ((⟨(putB 4 m).toArray⟩ : ByteArray) ++ data.extract 0 4) = ⟨(S ++ headRow ⟨m, data⟩).toArray⟩ := by
        rw [extract_bytes, mk_append, mk_append]
        simp [headRow]
      have z5 : (⟨(putB 4 m).toArray⟩ : ByteArray).size = 4 := by rw [mk_size, length_putB]
      have z6 : (data.extract 0 4).size = 4 := by rw [ByteArray.size_extract]; omega
      have z8 : (⟨S.toArray⟩ : ByteArray).size = S.length := mk_size _
      generalize (⟨(putB 4 m).toArray⟩ : ByteArray) = p4 at *
      have E5 := Lib.hid E5
      go_wp2
      generalize wr.alloc (.cells #[.int .i64 (m : Int), .string data] 59) = W1 at *
      refine wp_region_rr 10 (fun w' => Below W1.heap.size W1 w') (by kernel_rfl) (by kernel_rfl) (Below.refl _ _).drew ?_
      iterate 10
        (apply RR_run
         focus rfl
         focus
           intro w3 hS
           have x0 := (hS.cell (p := ⟨wr.heap.size, 0, none⟩) (by simp only; omega)).trans HN.out.1
           have x1 := (hS.cell (p := ⟨wr.heap.size, 1, none⟩) (by simp only; omega)).trans HN.out.2
           have HS3 := Lib.hid hS
           clear hS
           go_wp2_with (go_at_call 49; refine (HP4.out _).mono ?_; rintro e w4 ⟨rfl, h4⟩)
           exact ⟨rfl, by first | exact HS3.out | exact HS3.out.trans (Below.mono (by assumption) HS3.out.size)⟩
         focus exact ⟨_, rfl⟩)
      refine RR_end fun w3 hS => ?_
      have HB3 := Lib.hid (HB1.out.trans (hS.mono HB1.out.size))
      clear hS
      go_wp2
      go_roundw
      case rel => exact ⟨k + 1, by omega, by go_num, by rw [HTK.out, ← List.append_assoc, HSD.out], HB3.out⟩
      case measure => simp [intOf]; omega
    · obtain rfl : k = l.length := by omega
      rw [List.take_length]
      have hSl : (headS0 number l ++ l.flatMap headRow) = headS number l := rfl
      rw [hSl]
      have hlen : (headS number l).length = 13 + 8 * l.length := by rw [← hSl, List.length_append, headS0_length, headRows_length _ fun x hx => (HW.out x hx).2.2]
      have hsum := fun w => sum_any ⟨(headS number l).toArray⟩ (by rw [mk_size, hlen]; unfold maxLen; omega) w
      simp only [show (⟨(headS number l).toArray⟩ : ByteArray).data.toList = headS number l from bOf_mk _] at hsum
      have HSUM := Lib.hid hsum
      have HBR := Lib.hid hbr
      clear hsum hbr hSl
      go_wp2_with (go_at_call 50; refine (HSUM.out _).mono ?_; rintro e w2 ⟨rfl, hb2⟩; have HB2 := Lib.hid (HBR.out.trans (hb2.mono HBR.out.size)); clear hb2)
      clear HB HBR
      go_loopw [8, 40] (fun s i wr => ∃ k : Nat, k ≤ l.length ∧ i = .int .i64 k ∧ s = .int .u32 (crcMore (crc (headS number l)) ((l.take k).flatMap fun x => bOf x.data) : Nat) ∧ Below w.heap.size w wr) (fun _ i _ => l.length - (intOf i).toNat)
      case atStart => exact ⟨0, by omega, rfl, by simp [crcMore, crcFold]; have := crc_lt (headS number l); omega, HB2.out⟩
      case round =>
        obtain ⟨k, hk, rfl, rfl, hbr⟩ := hrel
        by_cases hlt : k < l.length
        · obtain ⟨b, off, rfl, g1', g2'⟩ := HSL.out k hlt
          have g1 := (hbr.cell (p := ⟨b, off + k * 2, none⟩) (World.block_lt_of_cell? w _ g1')).trans g1'
          have g2 := (hbr.cell (p := ⟨b, off + k * 2 + 1, none⟩) (World.block_lt_of_cell? w _ g2')).trans g2'
          clear g1' g2'
          have hx := HW.out l[k] (List.getElem_mem _)
          have htk : (l.take (k + 1)).flatMap (fun x => bOf x.data) = (l.take k).flatMap (fun x => bOf x.data) ++ bOf l[k].data := by rw [List.take_succ_eq_append_getElem hlt, List.flatMap_append, List.flatMap_singleton]
          have hcm := crcMore_append (crc (headS number l)) (crc_lt _) ((l.take k).flatMap fun x => bOf x.data) (bOf l[k].data)
          have hlt2 := crcMore_lt (crc (headS number l)) ((l.take k).flatMap fun x => bOf x.data)
          generalize l[k] = x at *
          obtain ⟨sec, data⟩ := x
          simp only at hx g1 g2 htk hcm
          rw [← htk] at hcm
          have HCM := Lib.hid hcm
          have HMO := Lib.hid (fun w => more_any (crcMore (crc (headS number l)) ((l.take k).flatMap fun x => bOf x.data)) hlt2 _ rfl data (by unfold maxLen; omega) w)
          clear htk hcm
          generalize crcMore (crc (headS number l)) ((l.take k).flatMap fun x => bOf x.data) = C at *
          have hal := (Below.refl wr.heap.size wr).alloc (Nat.le_refl _) (.cells #[.int .i64 sec, .string data] 59)
          have hnew := heap_alloc_last wr (.cells #[.int .i64 sec, .string data] 59)
          obtain ⟨x0, x1⟩ := cells2' hnew
          have HB1 := Lib.hid (hbr.trans (hal.mono hbr.size))
          clear hal hnew hbr
          go_wp2_with (go_at_call 78; refine (HMO.out _).mono ?_; rintro e w3 ⟨rfl, hb3⟩; have HB3 := Lib.hid (HB1.out.trans (hb3.mono HB1.out.size)); clear hb3 x0 x1)
          go_roundw
          case rel => exact ⟨k + 1, by omega, by go_num, by rw [HCM.out]; rfl, HB3.out⟩
          case measure => simp [intOf]; omega
        · obtain rfl : k = l.length := by omega
          rw [List.take_length]
          have hc := crc_lt (headS number l)
          have hcm := crcMore_append 0 (by decide) (headS number l) (l.flatMap fun x => bOf x.data)
          have hcm : crcMore (crc (headS number l)) (l.flatMap fun x => bOf x.data) = crc (headS number l ++ l.flatMap fun x => bOf x.data) := hcm.symm
          rw [hcm]
          have hc2 := crc_lt (headS number l ++ l.flatMap fun x => bOf x.data)
          have hf := fun w => full_any (headS number l ++ putB 4 (crc (headS number l ++ l.flatMap fun x => bOf x.data))) (by rw [List.length_append, hlen, length_putB]; omega) w
          have hm : (⟨(headL number l).toArray⟩ : ByteArray) = ⟨(padTo 512 (headS number l ++ putB 4 (crc (headS number l ++ l.flatMap fun x => bOf x.data)))).toArray⟩ := rfl
          generalize crc (headS number l ++ l.flatMap fun x => bOf x.data) = cr at *
          have e7 : (⟨(headS number l).toArray⟩ : ByteArray) ++ ⟨(putB 4 cr).toArray⟩ = ⟨(headS number l ++ putB 4 cr).toArray⟩ := mk_append _ _
          have y7 : (⟨(headS number l).toArray⟩ : ByteArray).size = 13 + 8 * l.length := by rw [mk_size, hlen]
          have y8 : (⟨(putB 4 cr).toArray⟩ : ByteArray).size = 4 := by rw [mk_size, length_putB]
          have HP := Lib.hid (fun w => put_any cr (by omega) 4 4 rfl (by decide) (by decide) w)
          generalize (⟨(headS number l ++ putB 4 cr).toArray⟩ : ByteArray) = s3 at *
          generalize (⟨(padTo 512 (headS number l ++ putB 4 cr)).toArray⟩ : ByteArray) = s4 at *
          generalize (⟨(headS number l).toArray⟩ : ByteArray) = s2 at *
          generalize (⟨(putB 4 cr).toArray⟩ : ByteArray) = p4 at *
          have HF := Lib.hid hf
          have HB := Lib.hid hbr
          have HM := Lib.hid hm
          clear hf hbr hm hcm
          go_wp2_with (first | (go_at_call 76; refine (HF.out _).mono ?_; rintro e w1 ⟨rfl, hb⟩; have HB := Lib.hid (HB.out.trans (hb.mono HB.out.size)); clear hb) | (go_at_call 49; refine (HP.out _).mono ?_; rintro e w1 ⟨rfl, hb⟩; have HB := Lib.hid (HB.out.trans (hb.mono HB.out.size)); clear hb))
          go_ret
          exact ⟨by rw [HM.out]; rfl, HB.out⟩
end Go.Proofs.Ytffgjjhopopgcaa
