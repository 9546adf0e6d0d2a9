/-
  The document's Check and Put compute what the plain laws say, for every inode.
-/
import Derived.Test.YtffgjjhopopgcaaInoC
namespace Go.Proofs.Ytffgjjhopopgcaa
set_option linter.unusedVariables false
set_option linter.unusedSimpArgs false
open Go.RowKit
set_option maxRecDepth 100000
set_option maxHeartbeats 2000000

theorem refCheck_any (name : ByteArray) (size : Int) (a : Option Addr) (l : List Ext) (c : Nat) (hn : name.size ≤ 9223372036854775807)
    (hl : l.length * 16 ≤ 140737488351232) (hi : ExtsI64 l) (w : World) (hx : SlE w a l) :
    Calls Try.prog 20 #[.agg #[.string name, .int .i64 size, .slice a l.length c]] w (Ret w (.int .i64 (inoCheck ⟨name, size, l⟩))) := by
  by_cases h : 1 ≤ name.size ∧ name.size ≤ 96 ∧ 0 ≤ size ∧ size ≤ 65536 ∧ l.length ≤ 8
  · exact refCheck_late name size a l c h.1 h.2.1 h.2.2.1 h.2.2.2.1 h.2.2.2.2 hi w hx
  · rw [inoCheck_if, if_neg (fun h' => h ⟨h'.1, h'.2.1, h'.2.2.1, h'.2.2.2.1, h'.2.2.2.2.1⟩)]
    exact refCheck_early name size a l c hn hl w (by omega)

theorem refPutBad_any (name : ByteArray) (size : Int) (a : Option Addr) (l : List Ext) (c : Nat) (hn : name.size ≤ 9223372036854775807)
    (hl : l.length * 16 ≤ 140737488351232) (hi : ExtsI64 l) (w : World) (hx : SlE w a l) (hbad : inoOk ⟨name, size, l⟩ = false) :
    Calls Try.prog 19 #[.agg #[.string name, .int .i64 size, .slice a l.length c]] w (Ret w (.tuple #[.string ⟨#[]⟩, .int .i64 2])) := by
  have hb0 : Below w.heap.size w (w.alloc (.cells #[.string name, .int .i64 size, .slice a l.length c] 31)) := (Below.refl _ _).alloc (Nat.le_refl _) _
  have hc := refCheck_any name size a l c hn hl hi _ (hx.below hb0)
  rw [show inoCheck ⟨name, size, l⟩ = 2 from by simp [inoCheck, hbad]] at hc
  have HC := Lib.hid hc
  have HB0 := Lib.hid hb0
  clear hc hb0 hx hi
  go_enter Try.func19, Try.ntmps19
  go_wp2_with fail
  refine HC.out.mono ?_
  rintro e w1 ⟨rfl, hb1⟩
  have HB1 := Lib.hid hb1
  clear hb1
  go_wp2
  go_ret2
  exact ⟨rfl, HB0.out.trans (HB1.out.mono (by simp))⟩

attribute [local go_sem] mkS_append length_putB List.length_append length_zeros

theorem refPutOk_any (nl : List UInt8) (z : Nat) (a : Option Addr) (l : List Ext) (c : Nat) (hi : ExtsI64 l) (w : World) (hx : SlE w a l) (hok : inoOk ⟨⟨nl.toArray⟩, z, l⟩ = true) :
    Calls Try.prog 19 #[.agg #[.string ⟨nl.toArray⟩, .int .i64 (z : Int), .slice a l.length c]] w (Ret w (.tuple #[.string ⟨(inoBytes ⟨⟨nl.toArray⟩, z, l⟩).toArray⟩, .int .i64 0])) := by
  have hext := inoOk_ext hok
  simp only at hext
  obtain ⟨h1, h2, h3, h4, h5, h6⟩ := (inoOk_iff _).1 hok
  simp only [show (⟨nl.toArray⟩ : ByteArray).size = nl.length from List.size_toArray ..] at h1 h2 h3 h4 h5
  clear h6
  have hb0 : Below w.heap.size w (w.alloc (.cells #[.string ⟨nl.toArray⟩, .int .i64 (z : Int), .slice a l.length c] 31)) := (Below.refl _ _).alloc (Nat.le_refl _) _
  have hc := refCheck_any ⟨nl.toArray⟩ z a l c (by show nl.toArray.size ≤ _; simp; omega) (by omega) hi _ (hx.below hb0)
  rw [show inoCheck ⟨⟨nl.toArray⟩, z, l⟩ = 0 from by simp [inoCheck, hok]] at hc
  have HC := Lib.hid hc
  have HB0 := Lib.hid hb0
  have HX := Lib.hid hx
  have HE := Lib.hid hext
  have HO := Lib.hid hok
  clear hc hb0 hx hi hext hok
  go_enter Try.func19, Try.ntmps19
  go_wp2_with fail
  refine HC.out.mono ?_
  rintro e w1 ⟨rfl, hb1⟩
  obtain ⟨⟨c0, c1, c2⟩, _, _, _⟩ := cells3 ((hb1.block w.heap.size (by simp)).trans (heap_alloc_last w _))
  have hlt : w.heap.size < w1.heap.size := by have := hb1.size; simp at this; omega
  have HB1 := Lib.hid (HB0.out.trans (hb1.mono (by simp)))
  have C0 := Lib.hid c0
  have C1 := Lib.hid c1
  have C2 := Lib.hid c2
  clear hb1 c0 c1 c2
  have HP1 := Lib.hid (fun w : World => refPut_any nl.length (by omega) 1 1 rfl (by omega) w)
  have HP2 := Lib.hid (fun w : World => zeros_any (96 - nl.length) (96 - (nl.length : Int)) (by omega) (by omega) w)
  have HP3 := Lib.hid (fun w : World => refPut_any z (by omega) 4 4 rfl (by omega) w)
  have HP4 := Lib.hid (fun w : World => refPut_any l.length (by omega) 1 1 rfl (by omega) w)
  go_wp2
  refine wp_region_rr 26 (fun w' => Below w1.heap.size w1 w') (by kernel_rfl) (by kernel_rfl) (Below.refl _ _).drew ?_
  repeat
    apply RR_run
    focus rfl
    focus
      intro w2 hS
      have e0 := (hS.cell (p := ⟨w.heap.size, 0, none⟩) hlt).trans C0.out
      have e1 := (hS.cell (p := ⟨w.heap.size, 1, none⟩) hlt).trans C1.out
      have e2 := (hS.cell (p := ⟨w.heap.size, 2, none⟩) hlt).trans C2.out
      go_wp2_with (first | ((with_reducible refine (HP1.out _).mono ?_); rintro e w3 ⟨rfl, h3⟩) | ((with_reducible refine (HP2.out _).mono ?_); rintro e w3 ⟨rfl, h3⟩) | ((with_reducible refine (HP3.out _).mono ?_); rintro e w3 ⟨rfl, h3⟩) | ((with_reducible refine (HP4.out _).mono ?_); rintro e w3 ⟨rfl, h3⟩))
      exact ⟨rfl, by first | exact hS | exact hS.trans (Below.mono (by assumption) hS.size)⟩
    focus exact ⟨_, rfl⟩
  refine RR_end fun w2 hS => ?_
  refine wpList_nil ?_
  have HZ118 := Lib.hid (fun w : World => zeros_any 118 118 rfl (by omega) w)
  have HP4 := Lib.hid (fun (q : Nat) (hq : q < 2 ^ 64) (w : World) => refPut_any q hq 4 4 rfl (by omega) w)
  obtain ⟨P, hP⟩ : ∃ P, putB 1 nl.length ++ (nl ++ (zeros (96 - nl.length) ++ (putB 4 z ++ putB 1 l.length))) = P := ⟨_, rfl⟩
  have hPl : P.length = 102 := by rw [← hP]; simp [length_putB, length_zeros]; omega
  rw [hP]
  have HP := Lib.hid hP
  clear hP
  have HBA := Lib.hid (HB1.out.trans (hS.mono (by omega)))
  have hlt2 : w.heap.size < w2.heap.size := by have := hS.size; omega
  have D2 := Lib.hid ((hS.cell (p := ⟨w.heap.size, 2, none⟩) hlt).trans C2.out)
  clear hS HP1 HP2 HP3
  go_wp2
  obtain ⟨w0, rfl⟩ : ∃ w0 : World, w0 = w2 := ⟨_, rfl⟩
  go_loopw [4, 5] (fun x i wr => ∃ k : Nat, k ≤ l.length ∧ i = .int .i64 k ∧ x = .string ⟨(P ++ extsB (l.take k)).toArray⟩ ∧ Below w0.heap.size w0 wr) (fun _ i _ => l.length - (intOf i).toNat)
  case atStart => exact ⟨0, by omega, rfl, by simp [extsB], Below.refl _ _⟩
  case round =>
    obtain ⟨k, hk, rfl, rfl, hb⟩ := hrel
    have d2 := (hb.cell (p := ⟨w.heap.size, 2, none⟩) hlt2).trans D2.out
    have hlt3 : w.heap.size < wr.heap.size := by have := hb.size; omega
    have hls : (extsB (l.take k)).length ≤ 32 := by rw [length_extsB]; simp; omega
    by_cases hlk : k < l.length
    · have hcc := HX.out.below (HBA.out.trans (hb.mono (by omega)))
      obtain ⟨b, off, rfl, g1, g2⟩ := hcc k hlk
      have hok := (extOk_iff _).1 (HE.out l[k] (List.getElem_mem hlk))
      have HN := Lib.hid (show extsB (l.take (k + 1)) = extsB (l.take k) ++ (putB 2 l[k].first.toNat ++ putB 2 l[k].count.toNat) by
        rw [List.take_succ_eq_append_getElem hlk]
        simp only [extsB, List.flatMap_append, List.flatMap_cons, List.flatMap_nil, List.append_nil, extB])
      generalize extsB (l.take k) = s at *
      generalize l[k] = x at *
      obtain ⟨f, n⟩ := x
      simp only at g1 g2 hok
      obtain ⟨q1, q2, q3, q4⟩ := hok
      obtain ⟨f, rfl⟩ := Int.eq_ofNat_of_zero_le q1
      obtain ⟨n, rfl⟩ := Int.eq_ofNat_of_zero_le (show (0 : Int) ≤ n by omega)
      have HP1 := Lib.hid (fun w : World => refPut_any f (by omega) 2 2 rfl (by omega) w)
      have HP2 := Lib.hid (fun w : World => refPut_any n (by omega) 2 2 rfl (by omega) w)
      have l1 := World.block_lt_of_cell? wr _ g1
      simp only at l1
      go_wp2
      refine wp_region_rr 20 (fun w' => Below wr.heap.size wr w') (by kernel_rfl) (by kernel_rfl) (Below.refl _ _).drew ?_
      repeat
        apply RR_run
        focus rfl
        focus
          intro w2 hS
          have e2 := (hS.cell (p := ⟨w.heap.size, 2, none⟩) hlt3).trans d2
          have e3 := (hS.cell (p := ⟨b, off + k * 2, none⟩) l1).trans g1
          have e4 := (hS.cell (p := ⟨b, off + k * 2 + 1, none⟩) l1).trans g2
          go_wp2_with (first | ((with_reducible refine (HP1.out _).mono ?_); rintro e w3 ⟨rfl, h3⟩) | ((with_reducible refine (HP2.out _).mono ?_); rintro e w3 ⟨rfl, h3⟩))
          exact ⟨rfl, by first | exact hS | exact hS.trans (Below.mono (by assumption) hS.size)⟩
        focus exact ⟨_, rfl⟩
      refine RR_end fun w2 hS => ?_
      go_wp2
      go_roundw
      case rel => exact ⟨k + 1, by omega, by go_num, by rw [HN.out]; simp, hb.trans (hS.mono hb.size)⟩
      case measure => simp [intOf]; omega
    · obtain rfl : k = l.length := by omega
      rw [List.take_length]
      rw [List.take_length] at hls
      have hxl := length_extsB l
      have hBd : P ++ extsB l ++ zeros (134 - (P ++ extsB l).length) = inoBody ⟨⟨nl.toArray⟩, z, l⟩ := by
        rw [List.length_append, hPl, ← HP.out]
        unfold inoBody padTo
        rw [show 134 - (102 + (extsB l).length) = 32 - (extsB l).length from by omega]
        simp [putB]
        rfl
      have HBd := Lib.hid hBd
      have HLen := length_inoBody HO.out
      have HY := Lib.hid (show inoBytes ⟨⟨nl.toArray⟩, z, l⟩ = (inoBody ⟨⟨nl.toArray⟩, z, l⟩ ++ putB 4 (crc (inoBody ⟨⟨nl.toArray⟩, z, l⟩))) ++ zeros 118 by
        show padTo 256 _ = _
        unfold padTo
        rw [List.length_append, HLen, length_putB])
      have hsl : (P ++ extsB l).length ≤ 134 := by rw [List.length_append]; omega
      clear hBd
      generalize inoBody ⟨⟨nl.toArray⟩, z, l⟩ = B at *
      have hq : P ++ extsB l = P ++ extsB l := rfl
      generalize hqs : P ++ extsB l = s at *
      clear hq hqs
      have HB3 := Lib.hid (HBA.out.trans (hb.mono (by omega)))
      clear hb
      go_wp2_with fail
      refine (zeros_any (134 - s.length) (134 - (s.length : Int)) (by omega) (by omega) _).mono ?_
      rintro e w3 ⟨rfl, h3⟩
      have HB4 := Lib.hid (HB3.out.trans (h3.mono (by have := HB3.out.size; omega)))
      clear h3
      go_wp2_with fail
      rw [show (s ++ zeros (134 - s.length)) = B from HBd.out]
      refine (refSum_any ⟨B.toArray⟩ (by show B.toArray.size ≤ _; simp [HLen, maxLen]) _).mono ?_
      rintro e w4 ⟨rfl, rfl⟩
      simp only [List.toList_toArray]
      go_wp2_with fail
      have hcl : crc B < 4294967296 := crc_lt B
      generalize crc B = q at *
      rw [wraps_u64 _ (by omega) (by omega)]
      refine (HP4.out q (by omega) _).mono ?_
      rintro e w5 ⟨rfl, h5⟩
      have HB5 := Lib.hid (HB4.out.trans (h5.mono (by have := HB4.out.size; omega)))
      clear h5
      go_wp2_with fail
      refine (HZ118.out _).mono ?_
      rintro e w6 ⟨rfl, h6⟩
      have HB6 := Lib.hid (HB5.out.trans (h6.mono (by have := HB5.out.size; omega)))
      clear h6
      go_wp2
      go_ret2
      exact ⟨by rw [HY.out]; first | rfl | (rw [List.append_assoc]; rfl), HB6.out⟩

theorem refPut2_any (nl : List UInt8) (size : Int) (a : Option Addr) (l : List Ext) (c : Nat) (hn : nl.length ≤ 9223372036854775807)
    (hl : l.length * 16 ≤ 140737488351232) (hi : ExtsI64 l) (w : World) (hx : SlE w a l) :
    Calls Try.prog 19 #[.agg #[.string ⟨nl.toArray⟩, .int .i64 size, .slice a l.length c]] w (Ret w (.tuple #[.string ⟨(inoPut ⟨⟨nl.toArray⟩, size, l⟩).toArray⟩, .int .i64 (inoCheck ⟨⟨nl.toArray⟩, size, l⟩)])) := by
  cases h : inoOk ⟨⟨nl.toArray⟩, size, l⟩ with
  | false =>
    have := refPutBad_any ⟨nl.toArray⟩ size a l c (by show nl.toArray.size ≤ _; simpa using hn) hl hi w hx h
    simpa [inoPut, inoCheck, h] using this
  | true =>
    have h3 := ((inoOk_iff _).1 h).2.2.1
    obtain ⟨z, rfl⟩ := Int.eq_ofNat_of_zero_le h3
    have := refPutOk_any nl z a l c hi w hx h
    simpa [inoPut, inoCheck, h] using this
end Go.Proofs.Ytffgjjhopopgcaa
