/-
  The walks of a journal that is none, and of opened.
-/
import Derived.Test.YtffgjjhopopgcaaJt
namespace Go.Proofs.Ytffgjjhopopgcaa
set_option linter.unusedVariables false
set_option linter.unusedSimpArgs false
open Go.RowKit
set_option maxRecDepth 100000
set_option maxHeartbeats 8000000

/-! ### a journal that is none -/
/-- It is nil, or it has no disk. -/
def NoJ (w : World) (v : Value) : Prop := v = .pointer none ∨ ∃ jp, v = .pointer (some ⟨jp, 0, none⟩) ∧ w.heap[jp]? = some (.cells #[.pointer none, .int .i64 0, .int .u64 0, .int .i64 0, .int .i64 0, .map none] 74 (0, 0))
theorem NoJ.below {w w' : World} {v : Value} (h : NoJ w v) (hb : Below w.heap.size w w') : NoJ w' v := by
  rcases h with h | ⟨jp, h1, h2⟩
  · exact .inl h
  · exact .inr ⟨jp, h1, (hb.block jp (Array.getElem?_eq_some_iff.1 h2).1).trans h2⟩

theorem jover_none {w : World} {v : Value} (h : NoJ w v) : Calls Try.prog 55 #[v] w (Ret w (.int .i64 1)) := by
  rcases h with rfl | ⟨jp, rfl, h⟩
  · go_enter Try.func55, Try.ntmps55
    go_wp2
    go_ret
    exact ⟨rfl, Below.refl _ _⟩
  · obtain ⟨⟨c0, c1, c2, c3, c4, c5⟩, f0, f1, f2, f3, f4, f5⟩ := cells6 h
    go_enter Try.func55, Try.ntmps55
    go_wp2
    go_ret
    exact ⟨rfl, Below.refl _ _⟩
theorem jsize_none {w : World} {v : Value} (h : NoJ w v) : Calls Try.prog 35 #[v] w (Ret w (.int .i64 0)) := by
  rcases h with rfl | ⟨jp, rfl, h⟩
  · go_enter Try.func35, Try.ntmps35
    go_wp2
    go_ret
    exact ⟨rfl, Below.refl _ _⟩
  · obtain ⟨⟨c0, c1, c2, c3, c4, c5⟩, f0, f1, f2, f3, f4, f5⟩ := cells6 h
    go_enter Try.func35, Try.ntmps35
    go_wp2
    go_ret
    exact ⟨rfl, Below.refl _ _⟩
theorem room_none {w : World} {v : Value} (h : NoJ w v) : Calls Try.prog 36 #[v] w (Ret w (.int .i64 0)) := by
  rcases h with rfl | ⟨jp, rfl, h⟩
  · go_enter Try.func36, Try.ntmps36
    go_wp2
    go_ret
    exact ⟨rfl, Below.refl _ _⟩
  · obtain ⟨⟨c0, c1, c2, c3, c4, c5⟩, f0, f1, f2, f3, f4, f5⟩ := cells6 h
    go_enter Try.func36, Try.ntmps36
    go_wp2
    go_ret
    exact ⟨rfl, Below.refl _ _⟩
theorem jread_none {w : World} {v : Value} (h : NoJ w v) (n : Int) : Calls Try.prog 32 #[v, .int .i64 n] w (Ret w (.tuple #[.string ⟨#[]⟩, .int .i64 1])) := by
  have HO := Lib.hid (jover_none h)
  clear h
  go_enter Try.func32, Try.ntmps32
  go_wp2_with (go_at_call 55; refine HO.out.mono ?_; rintro e w1 ⟨rfl, hb1⟩; have HB1 := Lib.hid hb1; clear hb1)
  refine bodyPost_ret (v := .tuple #[.string ⟨#[]⟩, .int .i64 1]) (by simp [results, Try.results32, go_sem]) rfl ?_
  exact ⟨rfl, HB1.out⟩
theorem commit_none {w : World} {v : Value} (h : NoJ w v) (s : Value) : Calls Try.prog 25 #[v, s] w (Ret w (.int .i64 1)) := by
  have HO := Lib.hid (jover_none h)
  clear h
  go_enter Try.func25, Try.ntmps25
  go_wp2_with (go_at_call 55; refine HO.out.mono ?_; rintro e w1 ⟨rfl, hb1⟩; have HB1 := Lib.hid hb1; clear hb1)
  go_ret
  exact ⟨rfl, HB1.out⟩
theorem direct_none {w : World} {v : Value} (h : NoJ w v) (s : Value) : Calls Try.prog 26 #[v, s] w (Ret w (.int .i64 1)) := by
  have HO := Lib.hid (jover_none h)
  clear h
  go_enter Try.func26, Try.ntmps26
  go_wp2_with (go_at_call 55; refine HO.out.mono ?_; rintro e w1 ⟨rfl, hb1⟩; have HB1 := Lib.hid hb1; clear hb1)
  go_ret
  exact ⟨rfl, HB1.out⟩
theorem checkpointed_none {w : World} {v : Value} (h : NoJ w v) : Calls Try.prog 34 #[v] w (Ret w (.int .i64 1)) := by
  have HO := Lib.hid (jover_none h)
  clear h
  go_enter Try.func34, Try.ntmps34
  go_wp2_with (go_at_call 55; refine HO.out.mono ?_; rintro e w1 ⟨rfl, hb1⟩; have HB1 := Lib.hid hb1; clear hb1)
  go_ret
  exact ⟨rfl, HB1.out⟩

/-! ### a disk that is none -/
theorem dread_nil (n : Int) (w : World) : Calls Try.prog 68 #[.pointer none, .int .i64 n] w (Ret w (.tuple #[.string ⟨#[]⟩, .int .i64 1])) := by
  obtain ⟨hb, hsz, b3, b4, b5⟩ := rdW_facts w n
  have HCH := Lib.hid (fun w => dcheck_nil w)
  clear b3
  go_enter Try.func68, Try.ntmps68
  go_wp2_with fail
  change Calls _ _ _ (rdW w n) _
  generalize rdW w n = W1 at *
  refine (HCH.out _).mono ?_
  rintro e w1 ⟨rfl, rfl⟩
  have c4 := b4.cell
  have f4 := b4.frozen
  have c5 := b5.cell
  have f5 := b5.frozen
  go_wp2
  have r4 := ((b4.set (.string ⟨#[]⟩)).other (B' := w.heap.size + 1 + 1) (by omega) (.int .i64 1)).cell
  have r5 := ((b5.other (B' := w.heap.size + 1) (by omega) (.string ⟨#[]⟩)).set (.int .i64 1)).cell
  refine bodyPost_ret (v := .tuple #[.string ⟨#[]⟩, .int .i64 1]) (by simp [results, Try.results68, go_sem, r4, r5]) rfl ⟨rfl, (hb.setCell (p := ⟨w.heap.size + 1, 0, none⟩) (by simp) _).setCell (p := ⟨w.heap.size + 1 + 1, 0, none⟩) (by simp; omega) _⟩
theorem jdcheck_nil (w : World) : Calls Try.prog 67 #[.pointer none] w (Ret w (.int .i64 1)) := by
  have HC := Lib.hid (fun n w => dread_nil n w)
  go_enter Try.func67, Try.ntmps67
  go_wp2_with (go_at_call 68; refine (HC.out _ _).mono ?_; rintro e w1 ⟨rfl, hb1⟩; have HB1 := Lib.hid hb1; clear hb1)
  go_ret
  exact ⟨rfl, HB1.out⟩
theorem open_nil (w : World) : Calls Try.prog 30 #[.pointer none] w (Ret w (.tuple #[.pointer none, .int .i64 1])) := by
  have HC := Lib.hid (fun w => jdcheck_nil w)
  go_enter Try.func30, Try.ntmps30
  go_wp2_with (go_at_call 67; refine (HC.out _).mono ?_; rintro e w1 ⟨rfl, hb1⟩; have HB1 := Lib.hid hb1; clear hb1)
  refine bodyPost_ret (v := .tuple #[.pointer none, .int .i64 1]) (by simp [results, Try.results30, go_sem]) rfl ?_
  exact ⟨rfl, HB1.out⟩
theorem format_nil (w : World) : Calls Try.prog 38 #[.pointer none] w (Ret w (.int .i64 1)) := by
  have HC := Lib.hid (fun w => jdcheck_nil w)
  go_enter Try.func38, Try.ntmps38
  go_wp2_with (go_at_call 67; refine (HC.out _).mono ?_; rintro e w1 ⟨rfl, hb1⟩; have HB1 := Lib.hid hb1; clear hb1)
  go_ret
  exact ⟨rfl, HB1.out⟩

/-! ### opened -/
/-- A new journal of a new disk. -/
structure New (J : Jn) (D : Dk) (n : Nat) : Prop where
  live : Live J D J.number J.place [] (fun _ => zeroS)
  number : J.number = 2
  used : J.used = 0
  loose : D.loose = []
  fails : D.fails = false
  size : D.sure.length = n
  starts : D.starts = 0
theorem opened_any (w : World) (n : Nat) (h1 : 73 ≤ n) (h2 : n ≤ 4096) : Calls Try.prog 23 #[.int .i64 n] w
    (fun e w' => ∃ p jp J D, e = .returned (.tuple #[.pointer (some ⟨p, 0, none⟩), .pointer (some ⟨jp, 0, none⟩), .bool true]) ∧ JUp w' (fun b => b < w.heap.size) jp p J D ∧ New J D n ∧ Below w.heap.size w w') := by
  obtain ⟨a1, a2, a3, a4, a5, a6, a7, a8⟩ := format_law n h1 h2
  have HN := Lib.hid (new_any w n (by omega) h2)
  have hf := fun (w1 : World) (p : Nat) (h : DiskAt w1 (fun b => b < w.heap.size) p (Dk.new n)) => format_any h (by simp [Dk.new])
  simp only [a1] at hf
  rcases openD_law a2 a3 a4 a8 (by decide) with ⟨J, D', e, b1, b2, b3, b4, b5, b6, b7⟩ | ⟨D', _, hf⟩
  · have ho := fun (w1 : World) (p : Nat) (h : DiskAt w1 (fun b => b < w.heap.size) p (formatD (Dk.new n)).1) => open_any h (by rw [a4]; decide) (by
      intro _ _
      have g0 : (formatD (Dk.new n)).1.get 0 = ⟨(markL 1 0).toArray⟩ := by
        rw [get_low (by rw [a4]; intro x hx; cases hx) 0 (by omega) (by omega)]
        exact a8.lg.mark
      rw [g0, numOf_mark _ _ (by omega)]
      decide)
    simp only [e] at ho
    have HF := Lib.hid hf
    have HO := Lib.hid ho
    have hN : New J D' n := ⟨b1, by rw [b3]; rfl, b4, b2, b5.trans a5, b6.trans a7, b7.trans a6⟩
    generalize (formatD (Dk.new n)).1 = D1 at *
    generalize hR : (fun (e : Ending) (w' : World) => ∃ p jp J D, e = .returned (.tuple #[.pointer (some ⟨p, 0, none⟩), .pointer (some ⟨jp, 0, none⟩), .bool true]) ∧ JUp w' (fun b => b < w.heap.size) jp p J D ∧ New J D n ∧ Below w.heap.size w w') = R
    have HR := Lib.hid hR
    have HNW := Lib.hid hN
    clear a1 a2 a3 a4 a5 a6 a7 a8 b1 b2 b3 b4 b5 b6 b7 e hf ho hR hN
    go_enter Try.func23, Try.ntmps23
    go_wp2_with (first | (go_at_call 37; refine HN.out.mono ?_; rintro e w1 ⟨p, rfl, hd1, hb1⟩; have HD1 := Lib.hid hd1; have HB1 := Lib.hid hb1; clear hd1 hb1) | (go_at_call 38; refine (HF.out _ _ HD1.out).mono ?_; rintro e w2 ⟨rfl, hd2, hk2⟩; have HD2 := Lib.hid hd2; have HK2 := Lib.hid hk2; clear hd2 hk2) | (go_at_call 30; refine (HO.out _ _ HD2.out).mono ?_; rintro e w3 ⟨⟨jp, rfl, hj3, -⟩, hk3⟩; have HJ3 := Lib.hid hj3; have HK3 := Lib.hid hk3; clear hj3 hk3))
    refine bodyPost_ret (v := .tuple #[.pointer (some ⟨p, 0, none⟩), .pointer (some ⟨jp, 0, none⟩), .bool true]) (by simp [results, Try.results23, go_sem]) rfl ?_
    rw [← HR.out]
    exact ⟨p, jp, J, D', rfl, HJ3.out, HNW.out, HB1.out.trans (HK2.out.trans HK3.out).below⟩
  · have := hf.failing
    rw [a5] at this
    cases this
end Go.Proofs.Ytffgjjhopopgcaa
