/-
  InodesTell answers true for every two inodes, in every world.
-/
import Derived.Test.YtffgjjhopopgcaaLGet
namespace Go.Proofs.Ytffgjjhopopgcaa
set_option linter.unusedVariables false
set_option linter.unusedSimpArgs false
open Go.RowKit
set_option maxRecDepth 100000
set_option maxHeartbeats 2000000

theorem great2_any (i : Ino) (a : Option Addr) (c : Nat) (hn : i.name.size ≤ 9223372036854775807) (hl : i.exts.length ≤ 9223372036854775807) (w : World) :
    Calls Try.prog 17 #[.agg #[.string i.name, .int .i64 i.size, .slice a i.exts.length c]] w (Ret w (.bool (decide (200 < i.name.size) || decide (20 < i.exts.length)))) := by
  obtain ⟨nm, sz, ex⟩ := i
  simp only at *
  by_cases h1 : 200 < nm.size
  · have HF := Lib.hid (show (decide (200 < nm.size) || decide (20 < ex.length)) = true by simp [h1])
    go_enter Try.func17, Try.ntmps17
    go_wp2
    go_ret
    exact ⟨by first | rfl | (rw [HF.out]; rfl), (Below.refl _ _).alloc (Nat.le_refl _) _⟩
  · have hd0 : decide (200 < (nm.size : Int)) = false := by simp; omega
    by_cases h2 : 20 < ex.length
    · have HF := Lib.hid (show (decide (200 < nm.size) || decide (20 < ex.length)) = true by simp [h2])
      have hd : decide (20 < (ex.length : Int)) = true := by simp; omega
      go_enter Try.func17, Try.ntmps17
      go_wp2
      go_ret
      exact ⟨by first | rfl | (rw [HF.out]; rfl), (Below.refl _ _).alloc (Nat.le_refl _) _⟩
    · have HF := Lib.hid (show (decide (200 < nm.size) || decide (20 < ex.length)) = false by simp; omega)
      have hd : decide (20 < (ex.length : Int)) = false := by simp; omega
      go_enter Try.func17, Try.ntmps17
      go_wp2
      go_ret
      exact ⟨by first | rfl | (rw [HF.out]; rfl), (Below.refl _ _).alloc (Nat.le_refl _) _⟩

def isGreat (i : Ino) : Bool := decide (200 < i.name.size) || decide (20 < i.exts.length)

/-- An inode as it comes in. -/
structure InArg (w : World) (i : Ino) (a : Option Addr) : Prop where
  sl : SlE w a i.exts
  ei : ExtsI64 i.exts
  sz : inI64 i.size
  nm : i.name.size ≤ 9223372036854775807
  ex : i.exts.length ≤ 9223372036854775807

theorem tell_law (i j : Ino) (a b : Option Addr) (c d : Nat) (w : World) (hi : InArg w i a) (hj : InArg w j b) :
    Calls Try.prog 5 #[.agg #[.string i.name, .int .i64 i.size, .slice a i.exts.length c], .agg #[.string j.name, .int .i64 j.size, .slice b j.exts.length d]] w (Ret w (.bool true)) := by
  have HG1 : Hid (∀ w, Calls Try.prog 17 #[.agg #[.string i.name, .int .i64 i.size, .slice a i.exts.length c]] w (Ret w (.bool (isGreat i)))) := Lib.hid (fun w => great2_any i a c hi.nm hi.ex w)
  have HG2 : Hid (∀ w, Calls Try.prog 17 #[.agg #[.string j.name, .int .i64 j.size, .slice b j.exts.length d]] w (Ret w (.bool (isGreat j)))) := Lib.hid (fun w => great2_any j b d hj.nm hj.ex w)
  have HF := Lib.hid filed_any
  have hb0 : Below w.heap.size w ((w.alloc (.cells #[.string i.name, .int .i64 i.size, .slice a i.exts.length c] 27)).alloc (.cells #[.string j.name, .int .i64 j.size, .slice b j.exts.length d] 27)) :=
    ((Below.refl _ _).alloc (Nat.le_refl _) _).alloc (by simp) _
  have hA : ((w.alloc (.cells #[.string i.name, .int .i64 i.size, .slice a i.exts.length c] 27)).alloc (.cells #[.string j.name, .int .i64 j.size, .slice b j.exts.length d] 27)).heap[w.heap.size]? = some (.cells #[.string i.name, .int .i64 i.size, .slice a i.exts.length c] 27 (0, 0)) := by
    rw [heap_alloc_old _ _ (by simp)]
    exact heap_alloc_last w _
  have hB := heap_alloc_last (w.alloc (.cells #[.string i.name, .int .i64 i.size, .slice a i.exts.length c] 27)) (.cells #[.string j.name, .int .i64 j.size, .slice b j.exts.length d] 27)
  rw [show (w.alloc (.cells #[.string i.name, .int .i64 i.size, .slice a i.exts.length c] 27)).heap.size = w.heap.size + 1 from by simp] at hB
  have hW : ((w.alloc (.cells #[.string i.name, .int .i64 i.size, .slice a i.exts.length c] 27)).alloc (.cells #[.string j.name, .int .i64 j.size, .slice b j.exts.length d] 27)).heap.size = w.heap.size + 2 := by simp
  have hxi := hi.sl.below hb0
  have hxj := hj.sl.below hb0
  go_enter Try.func5, Try.ntmps5
  obtain ⟨⟨c0, c1, c2⟩, f0, f1, f2⟩ := cells3 hA
  go_wp2_with fail
  generalize ((w.alloc (.cells #[.string i.name, .int .i64 i.size, .slice a i.exts.length c] 27)).alloc (.cells #[.string j.name, .int .i64 j.size, .slice b j.exts.length d] 27)) = W at *
  refine (HG1.out _).mono ?_
  rintro e w1 ⟨rfl, hb1⟩
  clear c0 c1 c2 f0 f1 f2
  have rA := (hb1.block w.heap.size (by omega)).trans hA
  have rB := (hb1.block (w.heap.size + 1) (by omega)).trans hB
  have hxi := hxi.below hb1
  have hxj := hxj.below hb1
  have HB1 := Lib.hid (hb0.trans (hb1.mono hb0.size))
  have hw1 : w.heap.size + 2 ≤ w1.heap.size := by have := hb1.size; omega
  clear hb0 hA hB hW hb1 HG1
  cases gi : isGreat i with
  | true =>
    clear rA rB hxi hxj gi hi hj
    go_wp2_with fail
    refine (HF.out _).mono ?_
    rintro e w2 ⟨rfl, hb2⟩
    have HB2 := Lib.hid (HB1.out.trans (hb2.mono HB1.out.size))
    clear hb2
    go_wp2
    go_ret
    exact ⟨rfl, HB2.out⟩
  | false =>
    obtain ⟨⟨c0, c1, c2⟩, f0, f1, f2⟩ := cells3 rB
    have RA := Lib.hid rA
    have RB := Lib.hid rB
    have HI := Lib.hid hi
    have HJ := Lib.hid hj
    have HXI := Lib.hid hxi
    have HXJ := Lib.hid hxj
    have GI := Lib.hid gi
    clear rA rB hxi hxj gi hi hj
    go_wp2_with fail
    refine (HG2.out _).mono ?_
    rintro e w2 ⟨rfl, hb2⟩
    clear c0 c1 c2 f0 f1 f2
    cases gj : isGreat j with
    | true =>
      have HB2 := Lib.hid (HB1.out.trans (hb2.mono HB1.out.size))
      clear hb2 gj
      go_wp2_with fail
      refine (HF.out _).mono ?_
      rintro e w3 ⟨rfl, hb3⟩
      have HB3 := Lib.hid (HB2.out.trans (hb3.mono HB2.out.size))
      clear hb3
      go_wp2
      go_ret
      exact ⟨rfl, HB3.out⟩
    | false =>
      have hi := HI.out
      have hj := HJ.out
      have gi := GI.out
      simp only [isGreat, Bool.or_eq_false_iff, decide_eq_false_iff_not] at gi gj
      have HP := Lib.hid (fun w hx => inoPut_any i.name i.size a i.exts c hi.nm hi.sz.1 hi.sz.2 (by omega) hi.ei w hx)
      have HC := Lib.hid (fun w hx => inoCheck_any i.name i.size a i.exts c hi.nm hi.sz.1 hi.sz.2 (by omega) hi.ei w hx)
      have hnm : (⟨i.name.data.toList.toArray⟩ : ByteArray) = i.name := by simp
      have hnl : i.name.data.toList.length = i.name.size := Array.length_toList
      have HRP0 := fun w hx => refPut2_any i.name.data.toList i.size a i.exts c (by have := hi.nm; omega) (by omega) hi.ei w hx
      rw [hnm] at HRP0
      have HRP := Lib.hid HRP0
      have HRC := Lib.hid (fun w hx => refCheck_any i.name i.size a i.exts c hi.nm (by omega) hi.ei w hx)
      have HS := Lib.hid (fun w hx hy => same_any i j a b c d hi.sz hj.sz (by omega) (by omega) w hx hy)
      have HRS := Lib.hid (fun w hx hy => refSame_any i j a b c d hi.sz hj.sz (by omega) (by omega) w hx hy)
      have HS1 := fun w hx => same_any i i a a c c hi.sz hi.sz (by omega) (by omega) w hx hx
      rw [sameIno_self] at HS1
      have HSS := Lib.hid HS1
      have HB2 := Lib.hid (HB1.out.trans (hb2.mono HB1.out.size))
      have rA := (hb2.block w.heap.size (by omega)).trans RA.out
      have rB := (hb2.block (w.heap.size + 1) (by omega)).trans RB.out
      have hxi := HXI.out.below hb2
      have hxj := HXJ.out.below hb2
      have hw2 : w.heap.size + 2 ≤ w2.heap.size := by have := hb2.size; omega
      clear HRP0 HS1 hb2 HI HJ GI gi gj hi hj HXI HXJ RA RB hnm hnl HB1 hw1 HG2
      generalize inoPut ⟨i.name, i.size, i.exts⟩ = t at *
      generalize inoCheck ⟨i.name, i.size, i.exts⟩ = q at *
      generalize sameIno i j = sm at *
      obtain ⟨⟨c0, c1, c2⟩, f0, f1, f2⟩ := cells3 rA
      have RA := Lib.hid rA
      have RB := Lib.hid rB
      have HXI := Lib.hid hxi
      have HXJ := Lib.hid hxj
      clear rA rB hxi hxj
      go_wp2_with fail
      refine (HP.out _ HXI.out).mono ?_
      rintro e w3 ⟨rfl, hb3⟩
      have RA3 := Lib.hid ((hb3.block w.heap.size (by omega)).trans RA.out)
      have RB3 := Lib.hid ((hb3.block (w.heap.size + 1) (by omega)).trans RB.out)
      have HXI3 := Lib.hid (HXI.out.below hb3)
      have HXJ3 := Lib.hid (HXJ.out.below hb3)
      have HB3 := Lib.hid (HB2.out.trans (hb3.mono HB2.out.size))
      have hw3 : w.heap.size + 2 ≤ w3.heap.size := by have := hb3.size; omega
      clear hb3 c0 c1 c2 f0 f1 f2 RA RB HXI HXJ HB2 hw2 HP
      obtain ⟨⟨c0, c1, c2⟩, f0, f1, f2⟩ := cells3 RA3.out
      go_wp2_with fail
      refine (HRP.out _ HXI3.out).mono ?_
      rintro e w4 ⟨rfl, hb4⟩
      have RA4 := Lib.hid ((hb4.block w.heap.size (by omega)).trans RA3.out)
      have RB4 := Lib.hid ((hb4.block (w.heap.size + 1) (by omega)).trans RB3.out)
      have HXI4 := Lib.hid (HXI3.out.below hb4)
      have HXJ4 := Lib.hid (HXJ3.out.below hb4)
      have HB4 := Lib.hid (HB3.out.trans (hb4.mono HB3.out.size))
      have hw4 : w.heap.size + 2 ≤ w4.heap.size := by have := hb4.size; omega
      clear hb4 c0 c1 c2 f0 f1 f2 RA3 RB3 HXI3 HXJ3 HB3 hw3 HRP
      have CA := Lib.hid (cells3 RA4.out).1
      have CB := Lib.hid (cells3 RB4.out).1
      have htt : (t == t) = true := by simp
      have hqq : (q == q) = true := by simp
      have hss : (sm == sm) = true := by simp
      go_wp2
      refine wp_region_rr 32 (fun w' => Below w4.heap.size w4 w') (by kernel_rfl) (by kernel_rfl) (Below.refl _ _).drew ?_
      repeat
        apply RR_run
        focus rfl
        focus
          intro w5 hS
          have e0 := (hS.cell (p := ⟨w.heap.size, 0, none⟩) (by simp only; omega)).trans CA.out.1
          have e1 := (hS.cell (p := ⟨w.heap.size, 1, none⟩) (by simp only; omega)).trans CA.out.2.1
          have e2 := (hS.cell (p := ⟨w.heap.size, 2, none⟩) (by simp only; omega)).trans CA.out.2.2
          have e3 := (hS.cell (p := ⟨w.heap.size + 1, 0, none⟩) (by simp only; omega)).trans CB.out.1
          have e4 := (hS.cell (p := ⟨w.heap.size + 1, 1, none⟩) (by simp only; omega)).trans CB.out.2.1
          have e5 := (hS.cell (p := ⟨w.heap.size + 1, 2, none⟩) (by simp only; omega)).trans CB.out.2.2
          have SI := Lib.hid (HXI4.out.below hS)
          have SJ := Lib.hid (HXJ4.out.below hS)
          go_wp2_with (first | ((with_reducible refine (HC.out _ SI.out).mono ?_); rintro e w6 ⟨rfl, h6⟩) | ((with_reducible refine (HRC.out _ SI.out).mono ?_); rintro e w6 ⟨rfl, h6⟩) | ((with_reducible refine (HSS.out _ SI.out).mono ?_); rintro e w6 ⟨rfl, h6⟩) | ((with_reducible refine (HS.out _ SI.out SJ.out).mono ?_); rintro e w6 ⟨rfl, h6⟩) | ((with_reducible refine (HRS.out _ SI.out SJ.out).mono ?_); rintro e w6 ⟨rfl, h6⟩) | ((with_reducible refine (HF.out _).mono ?_); rintro e w6 ⟨rfl, h6⟩))
          exact ⟨rfl, by first | exact hS | exact hS.trans (Below.mono (by assumption) hS.size)⟩
        focus exact ⟨_, rfl⟩
      refine RR_end fun w5 hS => ?_
      have HB5 := Lib.hid (HB4.out.trans (hS.mono HB4.out.size))
      clear hS
      go_wp2
      go_ret
      exact ⟨rfl, HB5.out⟩
end Go.Proofs.Ytffgjjhopopgcaa
