/-
  JournalNone answers true for every act, in every world.
-/
import Derived.Test.YtffgjjhopopgcaaWd
namespace Go.Proofs.Ytffgjjhopopgcaa
set_option linter.unusedVariables false
set_option linter.unusedSimpArgs false
open Go.RowKit
set_option maxRecDepth 100000
set_option maxHeartbeats 8000000

theorem open_wrong {w : World} {K : Nat → Prop} {p : Nat} {D : Dk} (h : DiskAt w K p D) (hd : D.wrong ≠ 0) : Calls Try.prog 30 #[.pointer (some ⟨p, 0, none⟩)] w (Ret w (.tuple #[.pointer none, .int .i64 D.wrong])) := by
  have HC := Lib.hid (jdcheck_any h)
  have hz : (D.wrong == 0) = false := by simpa using hd
  clear h hd
  generalize D.wrong = e0 at *
  go_enter Try.func30, Try.ntmps30
  go_wp2_with (go_at_call 67; refine HC.out.mono ?_; rintro e w1 ⟨rfl, hb⟩; have HB := Lib.hid hb; clear hb)
  refine bodyPost_ret (v := .tuple #[.pointer none, .int .i64 e0]) (by simp [results, Try.results30, go_sem]) rfl ?_
  exact ⟨rfl, HB.out⟩
theorem format_wrong {w : World} {K : Nat → Prop} {p : Nat} {D : Dk} (h : DiskAt w K p D) (hd : D.wrong ≠ 0) : Calls Try.prog 38 #[.pointer (some ⟨p, 0, none⟩)] w (Ret w (.int .i64 D.wrong)) := by
  have HC := Lib.hid (jdcheck_any h)
  have hz : (D.wrong == 0) = false := by simpa using hd
  clear h hd
  generalize D.wrong = e0 at *
  go_enter Try.func38, Try.ntmps38
  go_wp2_with (go_at_call 67; refine HC.out.mono ?_; rintro e w1 ⟨rfl, hb⟩; have HB := Lib.hid hb; clear hb)
  go_ret
  exact ⟨rfl, HB.out⟩
theorem zero_mark : manyOf zeroS = 0 ∧ zeroS ≠ ⟨(markL (numOf zeroS) 0).toArray⟩ := by
  refine ⟨by unfold manyOf zeroS; rw [bOf_mk]; rfl, fun e => ?_⟩
  have := congrArg (fun s => (bOf s).take 1) e
  simp only [bOf_mk] at this
  unfold zeroS markL padTo markS at this
  rw [bOf_mk] at this
  simp [zeros] at this
theorem open_plain : openD (Dk.new 80) = (none, Dk.new 80, 62) := by
  have g0 : (Dk.new 80).get 0 = zeroS := by
    rw [get_low (by intro x hx; cases hx) 0 (by omega) (by simp [Dk.new])]
    exact new_get 80 0 (by decide)
  have hw : (Dk.new 80).wrong = 0 := by
    unfold Dk.wrong
    rw [if_neg (by simp [Dk.new]), if_neg (by simp [Dk.new])]
  unfold openD
  rw [if_neg (by rw [hw]; decide), g0, zero_mark.1, if_neg (by decide), if_pos zero_mark.2]
theorem sla_one {w : World} {g : Nat} {x : ActL} {y : Lies} {t : TypeId} {fr : Nat × Nat} (h : w.heap[g]? = some (.cells (actV x y) t fr)) (ha : ActAt w x y) : SlA w (some ⟨g, 0, none⟩) [x] [y] := ⟨rfl, fun k hk h2 => by
  have : k = 0 := by simp at hk; omega
  subst this
  refine ⟨⟨g, 0, rfl, fun j hj => ?_⟩, ha⟩
  rw [Nat.zero_mul, Nat.add_zero, Nat.zero_add, cell_of_row _ _ _ _ _ _ h, Array.getElem?_eq_getElem]
  rfl⟩

theorem none_law (x : ActL) (y : Lies) (w : World) (hf : x.Fine) (ha : ActAt w x y) : Calls Try.prog 9 #[.agg (actV x y)] w (Ret w (.bool true)) := by
  have HLG := Lib.hid (fun w => logged_any w)
  have HG := Lib.hid (fun (w' : World) (hb : Below w.heap.size w w') (g : Nat) (h : w'.heap[g]? = some (.cells (actV x y) 55 (0, 0))) => great_any [x] [y] (some ⟨g, 0, none⟩) 1 1 (by simp) w' (sla_one h (ha.below hb)) (fun z hz => by rw [List.mem_singleton.1 hz]; exact hf))
  have hb0 := (Below.refl w.heap.size w).alloc (Nat.le_refl _) (.cells (actV x y) 55)
  have hr0 := heap_alloc_last w (.cells (actV x y) 55)
  have hs0 : (w.alloc (.cells (actV x y) 55)).heap.size = w.heap.size + 1 := by simp
  have HF := Lib.hid hf
  clear hf ha
  obtain ⟨⟨c0, c1, c2, c3, c4, c5⟩, f0, f1, f2, f3, f4, f5⟩ := cells6 (show (w.alloc (.cells (actV x y) 55)).heap[w.heap.size]? = some (.cells #[.int .u8 x.kind.toNat, .int .u8 x.c.toNat, .slice y.an x.n.length y.cn, .int .i64 x.pos, .slice y.ar x.raw.length y.cr, .slice y.ak x.keep.length y.ck] 55 (0, 0)) from hr0)
  unfold actV at *
  go_enter Try.func9, Try.ntmps9
  go_wp2_with fail
  have hb1 := hb0.alloc hb0.size (.cells #[.int .u8 x.kind.toNat, .int .u8 x.c.toNat, .slice y.an x.n.length y.cn, .int .i64 x.pos, .slice y.ar x.raw.length y.cr, .slice y.ak x.keep.length y.ck] 55)
  have hr1 := heap_alloc_last (w.alloc (.cells #[.int .u8 x.kind.toNat, .int .u8 x.c.toNat, .slice y.an x.n.length y.cn, .int .i64 x.pos, .slice y.ar x.raw.length y.cr, .slice y.ak x.keep.length y.ck] 55)) (.cells #[.int .u8 x.kind.toNat, .int .u8 x.c.toNat, .slice y.an x.n.length y.cn, .int .i64 x.pos, .slice y.ar x.raw.length y.cr, .slice y.ak x.keep.length y.ck] 55)
  have hA := (heap_alloc_old (w.alloc (.cells #[.int .u8 x.kind.toNat, .int .u8 x.c.toNat, .slice y.an x.n.length y.cn, .int .i64 x.pos, .slice y.ar x.raw.length y.cr, .slice y.ak x.keep.length y.ck] 55)) (.cells #[.int .u8 x.kind.toNat, .int .u8 x.c.toNat, .slice y.an x.n.length y.cn, .int .i64 x.pos, .slice y.ar x.raw.length y.cr, .slice y.ak x.keep.length y.ck] 55) (by rw [hs0]; omega : w.heap.size < _)).trans hr0
  rw [hs0] at hr1
  generalize (w.alloc (.cells #[.int .u8 x.kind.toNat, .int .u8 x.c.toNat, .slice y.an x.n.length y.cn, .int .i64 x.pos, .slice y.ar x.raw.length y.cr, .slice y.ak x.keep.length y.ck] 55)).alloc (.cells #[.int .u8 x.kind.toNat, .int .u8 x.c.toNat, .slice y.an x.n.length y.cn, .int .i64 x.pos, .slice y.ar x.raw.length y.cr, .slice y.ak x.keep.length y.ck] 55) = w1 at *
  have hg := HG.out w1 hb1 _ hr1
  have HA := Lib.hid hA
  have HB1 := Lib.hid hb1
  clear hb0 hr0 hs0 c0 c1 c2 c3 c4 c5 f0 f1 f2 f3 f4 f5 hb1 hr1 hA HG
  refine hg.mono ?_
  rintro e w2 ⟨rfl, rfl⟩
  clear hg
  generalize greatA [x] 1 = gr at *
  cases gr with
  | true =>
    go_wp2_with fail
    refine (HLG.out _).mono ?_
    rintro e w3 ⟨rfl, hb3⟩
    have HB3 := Lib.hid (HB1.out.trans (hb3.mono HB1.out.size))
    clear hb3
    go_wp2
    go_ret
    exact ⟨rfl, HB3.out⟩
  | false =>
    go_wp2
    go_loopw [3, 4] (fun v i wr => ∃ k : Nat, k ≤ 2 ∧ i = .int .i64 k ∧ NoJ wr v ∧ Below w1.heap.size w1 wr) (fun _ i _ => 2 - (intOf i).toNat)
    case atStart => exact ⟨0, by omega, rfl, .inl rfl, Below.refl _ _⟩
    case round =>
      obtain ⟨k, hk, rfl, hv, hb⟩ := hrel
      by_cases hlk : k < 2
      · have HLT := Lib.hid (Array.getElem?_eq_some_iff.1 HA.out).1
        have HV := Lib.hid hv
        have HC := Lib.hid (Below.refl wr.heap.size wr)
        have HBW := Lib.hid hb
        have HCL := Lib.hid (fun (w' : World) (h : Below wr.heap.size wr w') => (cells6 (((hb.trans (h.mono hb.size)).block w.heap.size HLT.out).trans HA.out)).1)
        obtain ⟨-, -, -, c3, c4, -⟩ := HCL.out wr HC.out
        clear hv hb
        go_wp2_with fail
        refine (jread_none (HV.out.below HC.out) _).mono ?_
        rintro e w5 ⟨rfl, hb5⟩
        have HC := Lib.hid (HC.out.trans (hb5.mono HC.out.size))
        clear c3 c4 hb5
        obtain ⟨-, -, -, -, c4, -⟩ := HCL.out _ HC.out
        go_wp2_with fail
        refine (commit_none (HV.out.below HC.out) _).mono ?_
        rintro e w6 ⟨rfl, hb6⟩
        have HC := Lib.hid (HC.out.trans (hb6.mono HC.out.size))
        clear c4 hb6
        obtain ⟨-, -, -, -, c4, -⟩ := HCL.out _ HC.out
        go_wp2_with fail
        refine (direct_none (HV.out.below HC.out) _).mono ?_
        rintro e w7 ⟨rfl, hb7⟩
        have HC := Lib.hid (HC.out.trans (hb7.mono HC.out.size))
        clear c4 hb7
        go_wp2_with fail
        refine (checkpointed_none (HV.out.below HC.out)).mono ?_
        rintro e w8 ⟨rfl, hb8⟩
        have HC := Lib.hid (HC.out.trans (hb8.mono HC.out.size))
        clear hb8
        go_wp2_with fail
        refine (jsize_none (HV.out.below HC.out)).mono ?_
        rintro e w9 ⟨rfl, hb9⟩
        have HC := Lib.hid (HC.out.trans (hb9.mono HC.out.size))
        clear hb9
        go_wp2_with fail
        refine (room_none (HV.out.below HC.out)).mono ?_
        rintro e w10 ⟨rfl, hb10⟩
        have HC := Lib.hid (HC.out.trans (hb10.mono HC.out.size))
        clear hb10
        go_wp2
        go_roundw
        case rel =>
          refine ⟨k + 1, by omega, by go_num, .inr ⟨_, rfl, heap_alloc_last _ _⟩, ?_⟩
          exact HBW.out.trans ((HC.out.alloc HC.out.size _).mono HBW.out.size)
        case measure => simp [intOf]; omega
      · obtain rfl : k = 2 := by omega
        have HBW := Lib.hid (HB1.out.trans (hb.mono HB1.out.size))
        clear hv hb
        go_wp2_with fail
        refine (new_any _ 72 (by decide) (by decide)).mono ?_
        rintro e w2 ⟨p1, rfl, hd1, hb2⟩
        have HD1 := Lib.hid hd1
        have HB2 := Lib.hid (HBW.out.trans (hb2.mono HBW.out.size))
        clear hd1 hb2
        go_wp2_with fail
        refine (new_any _ 80 (by decide) (by decide)).mono ?_
        rintro e w3 ⟨p2, rfl, hd2, hb3⟩
        have HD2 := Lib.hid hd2
        have HC := Lib.hid hb3
        clear hd2 hb3
        go_wp2_with fail
        refine (open_nil _).mono ?_
        rintro e w4 ⟨rfl, hb4⟩
        have HD2 := Lib.hid (HD2.out.below hb4)
        have HC := Lib.hid (HC.out.trans (hb4.mono HC.out.size))
        have ho1 := open_wrong (HD1.out.below HC.out) (by decide)
        rw [show (Dk.new 72).wrong = 2 from rfl] at ho1
        clear hb4
        go_wp2_with fail
        refine ho1.mono ?_
        rintro e w5 ⟨rfl, hb5⟩
        have HD2 := Lib.hid (HD2.out.below hb5)
        have HC := Lib.hid (HC.out.trans (hb5.mono HC.out.size))
        have ho2 := open_any HD2.out (by decide) (by
          intro _ h
          exact absurd h (by
            have g0 : (Dk.new 80).get 0 = zeroS := by
              rw [get_low (by intro x hx; cases hx) 0 (by omega) (by simp [Dk.new])]
              exact new_get 80 0 (by decide)
            rw [g0, zero_mark.1]
            exact zero_mark.2))
        rw [open_plain] at ho2
        clear hb5 ho1
        go_wp2_with fail
        refine ho2.mono ?_
        rintro e w6 ⟨⟨rfl, hd6⟩, hk6⟩
        have HC := Lib.hid (HC.out.trans hk6.below)
        have hcr := crash_any hd6 none 0 [] (slO_nil _) (fun ad e => by cases e)
        rw [crash_up (show (Dk.new 80).down = false from rfl), show ([] : List Bool).length = 0 from rfl] at hcr
        clear ho2 hk6 hd6
        go_wp2_with fail
        refine hcr.mono ?_
        rintro e w7 ⟨rfl, hd7, hk7⟩
        have HC := Lib.hid (HC.out.trans hk7.below)
        have ho3 := open_wrong hd7 (by unfold Dk.wrong; rw [if_pos (show (Dk.crashed [] (Dk.new 80)).down = true from rfl)]; decide)
        rw [show (Dk.crashed [] (Dk.new 80)).wrong = 61 by unfold Dk.wrong; rw [if_pos (show (Dk.crashed [] (Dk.new 80)).down = true from rfl)]] at ho3
        have HD7 := Lib.hid hd7
        clear hcr hk7 hd7
        go_wp2_with fail
        refine ho3.mono ?_
        rintro e w8 ⟨rfl, hb8⟩
        have HD7 := Lib.hid (HD7.out.below hb8)
        have HC := Lib.hid (HC.out.trans (hb8.mono HC.out.size))
        clear ho3 hb8
        go_wp2_with fail
        refine (format_nil _).mono ?_
        rintro e w9 ⟨rfl, hb9⟩
        have HD7 := Lib.hid (HD7.out.below hb9)
        have HC := Lib.hid (HC.out.trans (hb9.mono HC.out.size))
        have hf1 := format_wrong (HD1.out.below HC.out) (by decide)
        rw [show (Dk.new 72).wrong = 2 from rfl] at hf1
        clear hb9
        go_wp2_with fail
        refine hf1.mono ?_
        rintro e w10 ⟨rfl, hb10⟩
        have HD7 := Lib.hid (HD7.out.below hb10)
        have HC := Lib.hid (HC.out.trans (hb10.mono HC.out.size))
        have hf2 := format_wrong HD7.out (by unfold Dk.wrong; rw [if_pos (show (Dk.crashed [] (Dk.new 80)).down = true from rfl)]; decide)
        rw [show (Dk.crashed [] (Dk.new 80)).wrong = 61 by unfold Dk.wrong; rw [if_pos (show (Dk.crashed [] (Dk.new 80)).down = true from rfl)]] at hf2
        clear hb10 hf1
        go_wp2_with fail
        refine hf2.mono ?_
        rintro e w11 ⟨rfl, hb11⟩
        have HC := Lib.hid (HC.out.trans (hb11.mono HC.out.size))
        clear hb11 hf2
        go_wp2_with fail
        refine (HLG.out _).mono ?_
        rintro e w12 ⟨rfl, hb12⟩
        have HC := Lib.hid (HC.out.trans (hb12.mono HC.out.size))
        clear hb12
        go_wp2
        go_ret
        exact ⟨rfl, HB2.out.trans (HC.out.mono HB2.out.size)⟩
end Go.Proofs.Ytffgjjhopopgcaa
