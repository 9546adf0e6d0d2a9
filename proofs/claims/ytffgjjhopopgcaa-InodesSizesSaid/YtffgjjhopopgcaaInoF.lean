/-
  The chapter's inodes (filed) answer true in every world.
-/
import Derived.Test.YtffgjjhopopgcaaInoS
import Derived.Deep.RegionHeld3
namespace Go.Proofs.Ytffgjjhopopgcaa
set_option linter.unusedVariables false
set_option linter.unusedSimpArgs false
open Go.RowKit
set_option maxRecDepth 100000
set_option maxHeartbeats 2000000

def inoA : Ino := ⟨⟨#[97]⟩, 600, [⟨7, 2⟩]⟩
theorem inoA_ok : inoOk inoA = true := by decide +kernel
theorem inoA_len : (inoPut inoA).length = 256 := by
  rw [inoPut, if_pos inoA_ok]
  exact length_inoBytes inoA_ok
theorem inoA_take : (inoPut inoA).take 3 = [1, 97, 0] := by
  rw [inoPut, if_pos inoA_ok, inoBytes_parts]
  rfl
theorem inoA_put (a : Option Addr) (w : World) (h : SlE w a [⟨7, 2⟩]) :
    Calls Try.prog 18 #[.agg #[.string ⟨#[97]⟩, .int .i64 600, .slice a 1 1]] w (Ret w (.tuple #[.string ⟨(inoPut inoA).toArray⟩, .int .i64 0])) := by
  have := inoPut_any ⟨#[97]⟩ 600 a [⟨7, 2⟩] 1 (by decide) (by decide) (by decide) (by decide) (by intro x hx; simp at hx; subst hx; simp [inI64]) w h
  rwa [show inoCheck ⟨⟨#[97]⟩, 600, [⟨7, 2⟩]⟩ = 0 from if_pos inoA_ok] at this

/-- What stands after the two copies. -/
def Copies (a : Act) (w : World) (row : Array Value) (t : TypeId) (d1 d2 s1 s2 : Nat) : Exit → Act → World → Prop
  | .normal, a', w' => ∃ g4 g5, a' = ((((a.put (some s1) (.agg row)).put (some s2) (.agg row)).put (some d1) (.pointer (some ⟨g4, 0, none⟩))).put (some d2) (.pointer (some ⟨g5, 0, none⟩))) ∧ g4 ≠ g5 ∧ w.heap.size ≤ g4 ∧ w.heap.size ≤ g5 ∧
      w'.heap[g4]? = some (.cells row t (0, 0)) ∧ w'.heap[g5]? = some (.cells row t (0, 0)) ∧ Below w.heap.size w w'
  | _, _, _ => False

theorem wp_copies {P : Program} {c : Code} {a : Act} {w : World} {Q : Exit → Act → World → Prop} (row : Array Value) (t : TypeId) (d1 d2 s1 s2 : Nat) (h : c.wp P (Copies a w row t d1 d2 s1 s2) a w)
    (k : ∀ g4 g5 w', g4 ≠ g5 → w.heap.size ≤ g4 → w.heap.size ≤ g5 → w'.heap[g4]? = some (.cells row t (0, 0)) → w'.heap[g5]? = some (.cells row t (0, 0)) → Below w.heap.size w w' →
      Q .normal ((((a.put (some s1) (.agg row)).put (some s2) (.agg row)).put (some d1) (.pointer (some ⟨g4, 0, none⟩))).put (some d2) (.pointer (some ⟨g5, 0, none⟩))) w') : c.wp P Q a w :=
  wp_mono h fun e a' w' hq => by
    cases e
    case normal =>
      obtain ⟨g4, g5, rfl, h1, h2, h3, h4, h5, h6⟩ := hq
      exact k g4 g5 w' h1 h2 h3 h4 h5 h6
    all_goals exact hq.elim

/-- A walk that stands behind the first of two. -/
def Stop (A : Act) (W : World) : Exit → Act → World → Prop
  | .normal, a, w => a = A ∧ w = W
  | _, _, _ => False
theorem wp_stop {P : Program} {x y : Code} {a : Act} {w : World} {Q : Exit → Act → World → Prop} {A : Act} {W : World} (h1 : x.wp P (Stop A W) a w) (h2 : y.wp P Q A W) : (Code.seq x y).wp P Q a w :=
  wp_seq (wp_mono h1 fun e a' w' h => by
    cases e
    case normal => obtain ⟨rfl, rfl⟩ := h; exact h2
    all_goals exact h.elim)

theorem slE_one {w : World} {b : Nat} {f n : Int} {t : TypeId} (h : w.heap[b]? = some (.cells #[.int .i64 f, .int .i64 n] t (0, 0))) : SlE w (some ⟨b, 0, none⟩) [⟨f, n⟩] := by
  intro k hk
  obtain rfl : k = 0 := by simpa using hk
  refine ⟨b, 0, rfl, ?_, ?_⟩ <;> rw [cell_of_row _ _ _ _ _ _ h] <;> rfl

/-- A text of so many zeros, made of a slice. -/
theorem madeZeros (n : Nat) (hn : n ≤ 1000000) (z : Int) (hz : z = n) (w : World) : ∃ wm, (Instr.makeSlice 23 (.int .i64 z) (.int .i64 z)).run Try.prog w = .ok (.slice (some ⟨w.heap.size, 0, none⟩) n n) wm ∧
    (convert 23 9 (.slice (some ⟨w.heap.size, 0, none⟩) n n)).run Try.prog wm = .ok (.string ⟨(zeros n).toArray⟩) wm ∧ Below w.heap.size w wm := by
  subst hz
  obtain ⟨i0, hi, hz0, hz1, hz2⟩ := info_parts info_u8
  obtain ⟨wm, hrun, hown, hgrow⟩ := run_makeSlice_full (P := Try.prog) w w.heap.size 23 5 i0 _ 1 Try.underlying23 hi hz0 hz1 .i64 .i64 n (by omega) (by rw [hz2]; omega) (by unfold maxLen; omega) (Nat.le_refl _)
  have hb0 := below_of_grown hgrow (Nat.le_refl _) (fun k h => by cases h)
  have hz : (madeCells (Value.int IntKind.u8 0).cells (n * 1)).toList = bytesV (zeros n) := by
    rw [Nat.mul_one]
    show (madeCells #[Value.int .u8 0] n).toList = _
    rw [toList_madeCells_one]
    simp [bytesV, zeros]
  rw [hz] at hown
  exact ⟨wm, hrun, run_string_own hown, hb0⟩

theorem slE_two {w : World} {b : Nat} {f n f2 n2 : Int} {t : TypeId} (h : w.heap[b]? = some (.cells #[.int .i64 f, .int .i64 n, .int .i64 f2, .int .i64 n2] t (0, 0))) : SlE w (some ⟨b, 0, none⟩) [⟨f, n⟩, ⟨f2, n2⟩] := by
  intro k hk
  have hk : k < 2 := hk
  refine ⟨b, 0, rfl, ?_, ?_⟩ <;> rw [cell_of_row _ _ _ _ _ _ h] <;> (obtain rfl | rfl : k = 0 ∨ k = 1 := by omega) <;> rfl

attribute [local go_sem] mkS_extract

theorem filed_any (w : World) : Calls Try.prog 12 #[] w (Ret w (.bool true)) := by
  have h0 := (heap_alloc_old (w.alloc (.cells #[.int .i64 7, .int .i64 2] 38)) (.cells #[.string ⟨#[97]⟩, .int .i64 600, .slice (some ⟨w.heap.size, 0, none⟩) 1 1] 27) (by simp)).trans (heap_alloc_last w (.cells #[.int .i64 7, .int .i64 2] 38))
  have h1 := heap_alloc_last (w.alloc (.cells #[.int .i64 7, .int .i64 2] 38)) (.cells #[.string ⟨#[97]⟩, .int .i64 600, .slice (some ⟨w.heap.size, 0, none⟩) 1 1] 27)
  rw [show (w.alloc (.cells #[.int .i64 7, .int .i64 2] 38)).heap.size = w.heap.size + 1 from by simp] at h1
  have hbb : Below w.heap.size w ((w.alloc (.cells #[.int .i64 7, .int .i64 2] 38)).alloc (.cells #[.string ⟨#[97]⟩, .int .i64 600, .slice (some ⟨w.heap.size, 0, none⟩) 1 1] 27)) := ((Below.refl _ _).alloc (Nat.le_refl _) _).alloc (by simp) _
  have hs : ((w.alloc (.cells #[.int .i64 7, .int .i64 2] 38)).alloc (.cells #[.string ⟨#[97]⟩, .int .i64 600, .slice (some ⟨w.heap.size, 0, none⟩) 1 1] 27)).heap.size = w.heap.size + 2 := by simp
  have HC := Lib.hid (inoA_put _ _ (slE_one h0))
  have hl := inoA_len
  have ht := inoA_take
  generalize inoPut inoA = t at *
  have H0 := Lib.hid h0
  have H1 := Lib.hid h1
  have HBB := Lib.hid hbb
  have HSZ := Lib.hid hs
  clear h0 h1 hbb hs
  go_enter Try.func12, Try.ntmps12
  go_wp2_with fail
  refine HC.out.mono ?_
  rintro e w1 ⟨rfl, hb1⟩
  have HH0 := Lib.hid ((hb1.block _ (by rw [HSZ.out]; omega)).trans H0.out)
  have HH1 := Lib.hid ((hb1.block _ (by rw [HSZ.out]; omega)).trans H1.out)
  have HB1 := Lib.hid (HBB.out.trans (hb1.mono (by rw [HSZ.out]; omega)))
  have HS1 := Lib.hid (show w.heap.size + 2 ≤ w1.heap.size by have := hb1.size; rw [HSZ.out] at this; exact this)
  obtain ⟨⟨c0, c1, c2⟩, f0, f1, f2⟩ := cells3 HH1.out
  clear HC H0 H1 HBB HSZ hb1
  go_wp2_with fail
  refine wp_copies #[.string ⟨#[97]⟩, .int .i64 600, .slice (some ⟨w.heap.size, 0, none⟩) 1 1] 27 4 5 20 21 ?_ ?_
  · go_region_held3 (fun w' => w'.cell? ⟨w.heap.size + 1, 0, none⟩ = some (.string ⟨#[97]⟩) ∧ w'.cell? ⟨w.heap.size + 1, 1, none⟩ = some (.int .i64 600) ∧ w'.cell? ⟨w.heap.size + 1, 2, none⟩ = some (.slice (some ⟨w.heap.size, 0, none⟩) 1 1)) (go_keep) (fail)
    all_goals
      have e1 := heap_alloc_old (w1.alloc (.cells #[.string ⟨#[97]⟩, .int .i64 600, .slice (some ⟨w.heap.size, 0, none⟩) 1 1] 27)) (.cells #[.string ⟨#[97]⟩, .int .i64 600, .slice (some ⟨w.heap.size, 0, none⟩) 1 1] 27) (r := w1.heap.size) (by simp)
      rw [heap_alloc_last] at e1
      have e2 := heap_alloc_last (w1.alloc (.cells #[.string ⟨#[97]⟩, .int .i64 600, .slice (some ⟨w.heap.size, 0, none⟩) 1 1] 27)) (.cells #[.string ⟨#[97]⟩, .int .i64 600, .slice (some ⟨w.heap.size, 0, none⟩) 1 1] 27)
      rw [show (w1.alloc (.cells #[.string ⟨#[97]⟩, .int .i64 600, .slice (some ⟨w.heap.size, 0, none⟩) 1 1] 27)).heap.size = w1.heap.size + 1 from by simp] at e2
      have e3 : Below w1.heap.size w1 _ := ((((Below.refl _ _).alloc (Nat.le_refl _) (.cells #[.string ⟨#[97]⟩, .int .i64 600, .slice (some ⟨w.heap.size, 0, none⟩) 1 1] 27))).alloc (by simp) (.cells #[.string ⟨#[97]⟩, .int .i64 600, .slice (some ⟨w.heap.size, 0, none⟩) 1 1] 27)).drew
      first
      | exact ⟨w1.heap.size, w1.heap.size + 1, rfl, by omega, by omega, by omega, e1, e2, e3⟩
      | exact ⟨w1.heap.size + 1, w1.heap.size, rfl, by omega, by omega, by omega, e2, e1, e3⟩
  · intro g4 g5 w2 hne hg4 hg5 k4 k5 hb2
    obtain ⟨⟨c0, c1, c2⟩, f0, f1, f2⟩ := cells3 k4
    obtain ⟨⟨d0, d1, d2⟩, n0, n1, n2⟩ := cells3 k5
    rename_i K hK
    refine hK _ _ ?_
    refine wp_stop (by go_wp2; exact ⟨rfl, rfl⟩) ?_
    have k4' := heap_setCell_same w2 g4 1 _ 27 (.int .i64 2000) k4
    have k5' := (heap_setCell_other w2 ⟨g4, 1, none⟩ g5 (.int .i64 2000) (Ne.symm hne)).trans k5
    have hb3 := hb2.setCell (p := ⟨g4, 1, none⟩) hg4 (.int .i64 2000)
    generalize w2.setCell ⟨g4, 1, none⟩ (.int .i64 2000) = w3 at *
    have l4 : g4 < w3.heap.size := (Array.getElem?_eq_some_iff.1 k4').1
    have l5 : g5 < w3.heap.size := (Array.getElem?_eq_some_iff.1 k5').1
    clear c0 c1 c2 f0 f1 f2 d0 d1 d2 n0 n1 n2 k4 k5
    have kk5 := (heap_alloc_old w3 (.cells #[.int .i64 7, .int .i64 1, .int .i64 7, .int .i64 1] 38) l5).trans k5'
    obtain ⟨⟨d0, d1, d2⟩, n0, n1, n2⟩ := cells3 kk5
    refine wp_stop (by go_wp2; exact ⟨rfl, rfl⟩) ?_
    have k5 := heap_setCell_same _ g5 2 _ 27 (.slice (some ⟨w3.heap.size, 0, none⟩) 2 2) k5'
    have k4 := (heap_setCell_other w3 ⟨g5, 2, none⟩ g4 (.slice (some ⟨w3.heap.size, 0, none⟩) 2 2) hne).trans k4'
    have hb4 := hb3.setCell (p := ⟨g5, 2, none⟩) hg5 (.slice (some ⟨w3.heap.size, 0, none⟩) 2 2)
    have hs4 : (w3.setCell ⟨g5, 2, none⟩ (.slice (some ⟨w3.heap.size, 0, none⟩) 2 2)).heap.size = w3.heap.size := by simp
    generalize w3.setCell ⟨g5, 2, none⟩ (.slice (some ⟨w3.heap.size, 0, none⟩) 2 2) = w3' at *
    clear d0 d1 d2 n0 n1 n2 kk5 k4' k5'
    have kx := heap_alloc_last w3' (.cells #[.int .i64 7, .int .i64 1, .int .i64 7, .int .i64 1] 38)
    have k4 := (heap_alloc_old w3' (.cells #[.int .i64 7, .int .i64 1, .int .i64 7, .int .i64 1] 38) (by omega)).trans k4
    have k5 := (heap_alloc_old w3' (.cells #[.int .i64 7, .int .i64 1, .int .i64 7, .int .i64 1] 38) (by omega)).trans k5
    have hb4 := hb4.alloc hb4.size (.cells #[.int .i64 7, .int .i64 1, .int .i64 7, .int .i64 1] 38)
    generalize w3'.alloc (.cells #[.int .i64 7, .int .i64 1, .int .i64 7, .int .i64 1] 38) = w4 at *
    rw [hs4] at kx
    generalize w3.heap.size = gx at *
    obtain ⟨M, hM⟩ := Classical.axiomOfChoice (madeZeros 256 (by omega) 256 rfl)
    obtain ⟨N, hN⟩ := Classical.axiomOfChoice (madeZeros 255 (by omega) 255 rfl)
    have m1 := fun w => (hM w).1
    have m2 : ∀ (w : World) (h : Nat), w.heap.size = h → (convert 23 9 (.slice (some ⟨h, 0, none⟩) 256 256)).run Try.prog (M w) = .ok (.string ⟨(zeros 256).toArray⟩) (M w) := fun w h e => e ▸ (hM w).2.1
    have n1 := fun w => (hN w).1
    have n2 : ∀ (w : World) (h : Nat), w.heap.size = h → (convert 23 9 (.slice (some ⟨h, 0, none⟩) 255 255)).run Try.prog (N w) = .ok (.string ⟨(zeros 255).toArray⟩) (N w) := fun w h e => e ▸ (hN w).2.1
    have HM := Lib.hid (fun w => (hM w).2.2)
    have HN := Lib.hid (fun w => (hN w).2.2)
    have K4 := Lib.hid k4
    have K5 := Lib.hid k5
    have KX := Lib.hid kx
    have K0 := Lib.hid ((hb4.block w.heap.size (by have := HS1.out; omega)).trans HH0.out)
    have HB4 := Lib.hid hb4
    clear hM hN k4 k5 kx hb4 hs4 hb3 hb2 HH1
    have q4 : g4 < w4.heap.size := (Array.getElem?_eq_some_iff.1 K4.out).1
    have q5 : g5 < w4.heap.size := (Array.getElem?_eq_some_iff.1 K5.out).1
    have qx : gx < w4.heap.size := (Array.getElem?_eq_some_iff.1 KX.out).1
    have q0 : w.heap.size < w4.heap.size := (Array.getElem?_eq_some_iff.1 K0.out).1
    go_wp2_with fail
    refine (inoGet_zero _).mono ?_
    rintro e w5 ⟨a5, s5, rfl, -, hb5⟩
    have HB5 := Lib.hid ((HM.out w4).trans (hb5.mono (HM.out w4).size))
    have z5 := HB5.out.size
    clear hb5
    go_wp2_with fail
    refine (inoGet_len (zeros 255) (by rw [length_zeros]; omega) (by rw [length_zeros]; omega) _).mono ?_
    rintro e w6 ⟨a6, s6, rfl, -, hb6⟩
    have HB6 := Lib.hid ((HB5.out.trans (((Below.refl _ _).alloc (Nat.le_refl _) (.cells #[.string noIno.name, .int .i64 noIno.size, .slice a5 noIno.exts.length s5] 27)).mono z5)).trans (((HN.out (w5.alloc (.cells #[.string noIno.name, .int .i64 noIno.size, .slice a5 noIno.exts.length s5] 27))).mono (by simp; omega)).trans (hb6.mono (by have := (HN.out (w5.alloc (.cells #[.string noIno.name, .int .i64 noIno.size, .slice a5 noIno.exts.length s5] 27))).size; simp at this; omega))))
    have z6 := HB6.out.size
    have HB7 := Lib.hid (HB6.out.alloc z6 (.cells #[.string noIno.name, .int .i64 noIno.size, .slice a6 noIno.exts.length s6] 27))
    clear hb6 HB5 z5 m1 m2 n1 n2 HM HN
    have z7 : (w6.alloc (.cells #[.string noIno.name, .int .i64 noIno.size, .slice a6 noIno.exts.length s6] 27)).heap.size = w6.heap.size + 1 := by simp
    have r4 := (HB7.out.block g4 q4).trans K4.out
    have r5 := (HB7.out.block g5 q5).trans K5.out
    have rx := (HB7.out.block gx qx).trans KX.out
    have r0 := (HB7.out.block w.heap.size q0).trans K0.out
    obtain ⟨⟨c0, c1, c2⟩, f0, f1, f2⟩ := cells3 r4
    have HC1 := Lib.hid (inoCheck_any ⟨#[97]⟩ 2000 _ [⟨7, 2⟩] 1 (by decide) (by decide) (by decide) (by decide) (by intro x hx; simp at hx; subst hx; simp [inI64]) _ (slE_one r0))
    have R5 := Lib.hid r5
    have RX := Lib.hid rx
    clear r4 r5 rx r0 HB6
    go_wp2_with fail
    refine HC1.out.mono ?_
    rintro e w8 ⟨rfl, hb8⟩
    have r5 := (hb8.block g5 (by rw [z7]; omega)).trans R5.out
    have rx := (hb8.block gx (by rw [z7]; omega)).trans RX.out
    have HB8 := Lib.hid (HB7.out.trans (hb8.mono (by rw [z7]; omega)))
    obtain ⟨⟨d0, d1, d2⟩, p0, p1, p2⟩ := cells3 r5
    have HC2 := Lib.hid (inoCheck_any ⟨#[97]⟩ 600 _ [⟨7, 1⟩, ⟨7, 1⟩] 2 (by decide) (by decide) (by decide) (by decide) (by intro x hx; simp at hx; subst hx; simp [inI64]) _ (slE_two rx))
    have hi1 : inoCheck ⟨⟨#[97]⟩, 2000, [⟨7, 2⟩]⟩ = 2 := by decide +kernel
    have hi2 : inoCheck ⟨⟨#[97]⟩, 600, [⟨7, 1⟩, ⟨7, 1⟩]⟩ = 2 := by decide +kernel
    rw [hi1]
    rw [hi2] at HC2
    clear hi1 hi2 c0 c1 c2 f0 f1 f2 r5 rx hb8 HC1
    go_wp2_with fail
    refine HC2.out.mono ?_
    rintro e w9 ⟨rfl, hb9⟩
    have HB9 := Lib.hid (HB8.out.trans (hb9.mono (by have := HB8.out.size; omega)))
    clear hb9 HC2 HB8 HB7
    go_wp2
    go_ret
    exact ⟨rfl, HB1.out.trans ((HB4.out.trans (HB9.out.mono (by have := HB4.out.size; omega))).mono (by have := HB1.out.size; omega))⟩
end Go.Proofs.Ytffgjjhopopgcaa
