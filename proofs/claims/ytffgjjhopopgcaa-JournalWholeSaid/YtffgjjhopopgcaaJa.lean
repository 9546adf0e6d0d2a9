/-
  The journal's marks and heads: their bytes, and the walks that make them.
-/
import Derived.Test.YtffgjjhopopgcaaDkf
namespace Go.Proofs.Ytffgjjhopopgcaa
set_option linter.unusedVariables false
set_option linter.unusedSimpArgs false
open Go.RowKit
set_option maxRecDepth 100000
set_option maxHeartbeats 2000000

def bOf (s : ByteArray) : List UInt8 := s.data.toList
theorem bOf_size (s : ByteArray) : (bOf s).length = s.size := Array.length_toList
theorem bOf_mk (l : List UInt8) : bOf ⟨l.toArray⟩ = l := by simp [bOf]
theorem mk_bOf (s : ByteArray) : (⟨(bOf s).toArray⟩ : ByteArray) = s := by simp [bOf]
theorem mk_append (l m : List UInt8) : (⟨l.toArray⟩ : ByteArray) ++ ⟨m.toArray⟩ = ⟨(l ++ m).toArray⟩ := by
  apply ByteArray.ext
  rw [ByteArray.data_append]
  simp
theorem mk_size (l : List UInt8) : (⟨l.toArray⟩ : ByteArray).size = l.length := by show l.toArray.size = _; simp
theorem mk_inj {l m : List UInt8} (h : (⟨l.toArray⟩ : ByteArray) = ⟨m.toArray⟩) : l = m := by
  have := congrArg bOf h
  rwa [bOf_mk, bOf_mk] at this

def markS (number place : Nat) : List UInt8 := [76, 74, 48, 49] ++ putB 8 number ++ putB 1 place
def markL (number place : Nat) : List UInt8 := padTo 512 (markS number place ++ putB 4 (crc (markS number place)))
def headRow (x : Wr) : List UInt8 := putB 4 x.sec.toNat ++ (bOf x.data).take 4
def headS (number : Nat) (l : List Wr) : List UInt8 := [76, 84, 48, 49] ++ putB 8 number ++ putB 1 l.length ++ l.flatMap headRow
def headL (number : Nat) (l : List Wr) : List UInt8 := padTo 512 (headS number l ++ putB 4 (crc (headS number l ++ l.flatMap fun x => bOf x.data)))

theorem full_any (l : List UInt8) (hl : l.length ≤ 512) (w : World) : Calls Try.prog 76 #[.string ⟨l.toArray⟩] w (Ret w (.string ⟨(padTo 512 l).toArray⟩)) := by
  have hc := Try.strings_Repeat ⟨#[0]⟩ (512 - l.length) w (by omega) (by show 1 * _ ≤ _; omega)
  rw [show ((512 - l.length : Nat) : Int) = (512 : Int) - l.length from by omega, show (⟨#[0]⟩ : ByteArray).data.toList = [0] from rfl, repeatL_zero] at hc
  have HC := Lib.hid hc
  have hsz : (⟨l.toArray⟩ : ByteArray).size = l.length := mk_size l
  have hov : ¬ 9223372036854775807 < l.length + (zeros (512 - l.length)).length := by rw [length_zeros]; omega
  clear hc
  go_enter Try.func76, Try.ntmps76
  go_wp2_with fail
  refine (HC.out).mono ?_
  rintro e w1 ⟨rfl, hb⟩
  go_wp2
  go_ret
  refine ⟨ret_eq (congrArg Value.string ?_), hb⟩
  rw [mk_append]
  rfl

theorem mark_any (number place : Nat) (hn : number < 2 ^ 64) (hp : place < 256) (w : World) :
    Calls Try.prog 71 #[.int .u64 number, .int .i64 place] w (Ret w (.string ⟨(markL number place).toArray⟩)) := by
  have H8 := Lib.hid (fun w => put_any number hn 8 8 rfl (by decide) (by decide) w)
  have H1 := Lib.hid (fun w => put_any place (by omega) 1 1 rfl (by decide) (by decide) w)
  have hs := fun w => sum_any ⟨(markS number place).toArray⟩ (by rw [mk_size]; simp [markS, length_putB, maxLen]) w
  have hf := fun w => full_any (markS number place ++ putB 4 (crc (markS number place))) (by simp [markS, length_putB]) w
  have H4 := Lib.hid (fun w => put_any (crc (markS number place)) (by have := crc_lt (markS number place); omega) 4 4 rfl (by decide) (by decide) w)
  have e1 : (⟨#[76, 74, 48, 49]⟩ : ByteArray) ++ ⟨(putB 8 number).toArray⟩ = ⟨([76, 74, 48, 49] ++ putB 8 number).toArray⟩ := mk_append _ _
  have e2 : (⟨([76, 74, 48, 49] ++ putB 8 number).toArray⟩ : ByteArray) ++ ⟨(putB 1 place).toArray⟩ = ⟨(markS number place).toArray⟩ := mk_append _ _
  have e3 : (⟨(markS number place).toArray⟩ : ByteArray) ++ ⟨(putB 4 (crc (markS number place))).toArray⟩ = ⟨(markS number place ++ putB 4 (crc (markS number place))).toArray⟩ := mk_append _ _
  have z8 : (⟨(putB 8 number).toArray⟩ : ByteArray).size = 8 := by rw [mk_size, length_putB]
  have z1 : (⟨(putB 1 place).toArray⟩ : ByteArray).size = 1 := by rw [mk_size, length_putB]
  have z4 : (⟨(putB 4 (crc (markS number place))).toArray⟩ : ByteArray).size = 4 := by rw [mk_size, length_putB]
  have y1 : (⟨([76, 74, 48, 49] ++ putB 8 number).toArray⟩ : ByteArray).size = 12 := by rw [mk_size]; simp [length_putB]
  have y2 : (⟨(markS number place).toArray⟩ : ByteArray).size = 13 := by rw [mk_size]; simp [length_putB, markS]
  have hc := crc_lt (markS number place)
  have hm : markL number place = padTo 512 (markS number place ++ putB 4 (crc (markS number place))) := rfl
  rw [hm]
  rw [show (markS number place).toArray = (markS number place).toArray from rfl] at hs
  simp only [bOf_mk, show (⟨(markS number place).toArray⟩ : ByteArray).data.toList = markS number place from bOf_mk _] at hs
  generalize (⟨(markS number place ++ putB 4 (crc (markS number place))).toArray⟩ : ByteArray) = s3 at *
  generalize (⟨(padTo 512 (markS number place ++ putB 4 (crc (markS number place)))).toArray⟩ : ByteArray) = s4 at *
  generalize crc (markS number place) = cr at *
  generalize (⟨(markS number place).toArray⟩ : ByteArray) = s2 at *
  generalize (⟨([76, 74, 48, 49] ++ putB 8 number).toArray⟩ : ByteArray) = s1 at *
  generalize (⟨(putB 8 number).toArray⟩ : ByteArray) = p8 at *
  generalize (⟨(putB 1 place).toArray⟩ : ByteArray) = p1 at *
  generalize (⟨(putB 4 cr).toArray⟩ : ByteArray) = p4 at *
  have HS := Lib.hid hs
  have HF := Lib.hid hf
  clear hs hf hm
  have HB := Lib.hid (Below.refl w.heap.size w)
  go_enter Try.func71, Try.ntmps71
  go_wp2_with (first | (go_at_call 50; refine (HS.out _).mono ?_; rintro e w1 ⟨rfl, hb⟩; have HB := Lib.hid (HB.out.trans (hb.mono HB.out.size)); clear hb) | (go_at_call 76; refine (HF.out _).mono ?_; rintro e w1 ⟨rfl, hb⟩; have HB := Lib.hid (HB.out.trans (hb.mono HB.out.size)); clear hb) | (go_at_call 49; first | ((with_reducible refine (H8.out _).mono ?_); rintro e w1 ⟨rfl, hb⟩; have HB := Lib.hid (HB.out.trans (hb.mono HB.out.size)); clear hb) | ((with_reducible refine (H1.out _).mono ?_); rintro e w1 ⟨rfl, hb⟩; have HB := Lib.hid (HB.out.trans (hb.mono HB.out.size)); clear hb) | ((with_reducible refine (H4.out _).mono ?_); rintro e w1 ⟨rfl, hb⟩; have HB := Lib.hid (HB.out.trans (hb.mono HB.out.size)); clear hb)))
  go_ret
  exact ⟨rfl, HB.out⟩

theorem at_any (n : Nat) (hn : n < 1000000) (w : World) : Calls Try.prog 59 #[.int .i64 n] w (Same w (.int .i64 ((1 + n % 64 : Nat) : Int))) := by
  go_enter Try.func59, Try.ntmps59
  go_wp2
  go_ret
  exact ⟨ret_eq (congrArg (Value.int .i64) (by omega)), rfl⟩

end Go.Proofs.Ytffgjjhopopgcaa
