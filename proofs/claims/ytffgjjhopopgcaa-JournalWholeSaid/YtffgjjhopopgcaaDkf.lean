/-
  The walk of Read where there is a sector.
-/
import Derived.Test.YtffgjjhopopgcaaDke
import Derived.RangeFuncNested
import Derived.RangeFuncBound
import Derived.RangeFuncCalls
import Derived.RangeFuncLeaves
import Derived.Shelf.Abstract
import Derived.Shelf.RegionOpen
import Derived.WalkKit
import Derived.OwnWalkIn
import Derived.TacticsInMore
import Derived.LoopNIn
import Derived.LoopIn
namespace Go.Proofs.Ytffgjjhopopgcaa
set_option linter.unusedVariables false
set_option linter.unusedSimpArgs false
open Go.RowKit Go.Shelf
set_option maxRecDepth 100000
set_option maxHeartbeats 4000000
attribute [local go_sem] Oper.semAt_some

theorem read_good {w : World} {K : Nat → Prop} {p : Nat} {D : Dk} (h : DiskAt w K p D) (n : Nat) (hd : D.down = false) (hn : n < D.sure.length) :
    Calls Try.prog 68 #[.pointer (some ⟨p, 0, none⟩), .int .i64 n] w (Ret w (.tuple #[.string (D.get n), .int .i64 0])) := by
  obtain ⟨hb, hsz, b3, b4, b5⟩ := rdW_facts w n
  have hn1 : decide ((n : Int) < 0) = false := by simp
  have hn2 : decide (D.sure.length ≤ n) = false := by simp; omega
  have h1 := h.below hb
  have HCH := Lib.hid (dcheck_any h1.wide)
  simp only [Dk.errno, hd] at HCH
  obtain ⟨ok, gs, cs, vl, ak, ck, hr⟩ := h1
  obtain ⟨al, cl, rfl⟩ := row_slice hr.loose
  have C0 := Lib.hid (cells7 hr.row).1.1
  have HP := Lib.hid hr.p_lt
  have HR := Lib.hid hr
  have C3 := Lib.hid b3.cell
  have B3 := Lib.hid b3
  have B4 := Lib.hid b4
  have B5 := Lib.hid b5
  have HB := Lib.hid hb
  clear h b3 hr b4 b5 hb
  refine (callsIn_wide (n := 5)).1 ?_
  refine callsIn_of_wp_marks Try.func68 rfl trivial ?_ rfl
  refine (wpIn_wide (n := 5)).2 ?_
  simp only [Try.ntmps68, List.size_toArray, List.length_cons, List.length_nil, Nat.reduceAdd, Nat.reduceSub, Array.replicate_succ, Array.replicate_zero, List.push_toArray, List.append_toArray, List.nil_append, List.cons_append]
  go_wp2_with fail
  change Calls _ _ _ (rdW w n) _
  generalize rdW w n = W1 at *
  refine HCH.out.mono ?_
  rintro e w1 ⟨rfl, rfl⟩
  go_wp2
  refine wp_region_rr 11 (fun w' => Below W1.heap.size W1 w') (by kernel_rfl) (by kernel_rfl) (Below.refl _ _).drew ?_
  iterate 11
    (apply RR_run
     focus rfl
     focus
       intro w3 hS
       have c3 := (hS.cell (p := ⟨w.heap.size, 0, none⟩) (by simp only; omega)).trans C3.out
       have c0 := (hS.cell (p := ⟨p, 0, none⟩) HP.out).trans C0.out
       go_wp2
       exact ⟨rfl, hS⟩
     focus exact ⟨_, rfl⟩)
  refine RR_end fun w3 hS => ?_
  have hsz3 := hS.size
  have HR3 := Lib.hid (HR.out.below hS)
  have HB3 := Lib.hid (HB.out.trans (hS.mono (by omega)))
  have BX3 : Boxed w3 w.heap.size 3 (.int .i64 n) := (hS.block _ (by omega)).trans B3.out
  have BX4 : Boxed w3 (w.heap.size + 1) 9 (.string ⟨#[]⟩) := (hS.block _ (by omega)).trans B4.out
  have BX5 : Boxed w3 (w.heap.size + 1 + 1) 28 (.int .i64 0) := (hS.block _ (by omega)).trans B5.out
  have BX3 := Lib.hid BX3
  have BX4 := Lib.hid BX4
  have BX5 := Lib.hid BX5
  have c1 := (cells7 HR3.out.row).1.2.1
  clear hS C0 HP HR C3 B3 B4 B5 HB HCH
  go_wp2_with (go_at_call 83; refine (backward_any _ _ _ _).mono ?_; rintro e w4 ⟨rfl, rfl⟩)
  clear c1
  have hal := (Below.refl w3.heap.size w3).alloc (Nat.le_refl _) (.cells #[.slice al D.loose.length cl] 53)
  have hbx : (w3.alloc (.cells #[.slice al D.loose.length cl] 53)).cell? ⟨w3.heap.size, 0, none⟩ = some (.slice al D.loose.length cl) := by rw [cell_of_row _ _ _ _ _ _ (heap_alloc_last _ _)]; rfl
  have hsz2 : (w3.alloc (.cells #[.slice al D.loose.length cl] 53)).heap.size = w3.heap.size + 1 := by simp
  have HR2 := HR3.out.below hal
  have HB2 := HB3.out.trans (hal.mono (by omega))
  have b3 : Boxed (w3.alloc (.cells #[.slice al D.loose.length cl] 53)) w.heap.size 3 (.int .i64 n) := BX3.out.alloc _
  have b4 : Boxed (w3.alloc (.cells #[.slice al D.loose.length cl] 53)) (w.heap.size + 1) 9 (.string ⟨#[]⟩) := BX4.out.alloc _
  have b5 : Boxed (w3.alloc (.cells #[.slice al D.loose.length cl] 53)) (w.heap.size + 1 + 1) 28 (.int .i64 0) := BX5.out.alloc _
  generalize w3.alloc (.cells #[.slice al D.loose.length cl] 53) = W2 at *
  clear hal BX3 BX4 BX5 HR3 HB3
  have hsl : SlW W2 al D.loose := slW_of_owns HR2.loose
  have hla : ∀ ad, al = some ad → ad.block < W2.heap.size := fun ad e => (HR2.loose.lt ad.block (by rw [e]; rfl)).2
  have HSG := Lib.hid HR2
  have HSL := Lib.hid hsl
  have HB2 := Lib.hid HB2
  refine (wpIn_wide (n := 5)).1 ?_
  refine wpIn_rangeFunc_ownH (F := Fence.wide) (n := 5) rfl (by decide) (gf := 93) (lb := #[.pointer (some ⟨w3.heap.size, 0, none⟩)]) rfl trivial (enters_of Try.func93 (by kernel_rfl) rfl)
    (back_stops Fence.wide (5 - 1) trivial rfl (by decide) w3.heap.size al cl D.loose ok.many W2 (by omega) hla hbx hsl) belowK_t (belowK_b (Nat.le_refl _)) (Below.refl _ _) (fun _ => rfl)
    (fun pre W => (∀ j ∈ pre, (wrAt D.loose j).sec ≠ n) ∧ Below W2.heap.size W2 W)
    (fun c pre W => (c = .ret ∧ (∃ pre' x, pre = pre' ++ [x] ∧ (∀ j ∈ pre', (wrAt D.loose j).sec ≠ n) ∧ (wrAt D.loose x).sec = n ∧ W.cell? ⟨w.heap.size + 1, 0, none⟩ = some (.string (wrAt D.loose x).data) ∧ W.cell? ⟨w.heap.size + 1 + 1, 0, none⟩ = some (.int .i64 0))) ∧ Below w.heap.size w W)
    (OwnFrom.and (ownFrom_pure _ (fun pre : List Nat => ∀ j ∈ pre, (wrAt D.loose j).sec ≠ n)) (ownFrom_below (Nat.le_refl _) (Nat.le_refl _)))
    (fun c => OwnFrom.and (Own.from (fun s A B row hs hg hr => ⟨hs.1, by obtain ⟨-, pre', x, e1, e2, e3, e4, e5⟩ := hs; exact ⟨pre', x, e1, e2, e3, cell_kept e4 hg hr, cell_kept e5 hg hr⟩⟩) _) (ownFrom_below (Nat.le_refl _) (by omega)))
    ⟨fun j hj => (by cases hj), Below.refl _ _⟩
    (fun x a' W => ∃ Bx, W2.heap.size ≤ Bx ∧ W.heap[Bx]? = some (.cells #[.int .i64 (wrAt D.loose x).sec, .string (wrAt D.loose x).data] 59 (0, 0)) ∧ a' = { tmps := #[.pointer (some ⟨p, 0, none⟩), .int .i64 n, undef, .pointer (some ⟨w.heap.size, 0, none⟩), .pointer (some ⟨w.heap.size + 1, 0, none⟩), .pointer (some ⟨w.heap.size + 1 + 1, 0, none⟩), .int .i64 0, undef, .pointer (some ⟨Bx, 0, none⟩), .pointer (some ⟨p, 0, none⟩), .int .i64 0, .int .i64 0, .bool false, undef, .int .i64 n, .bool false, .bool false, .int .i64 n, .pointer (some ⟨p, 0, none⟩), .pointer (some ⟨p, 0, none⟩), .pointer (some ⟨p, 0, none⟩), .slice (some ⟨gs, 0, none⟩) D.sure.length cs, .int .i64 D.sure.length, .bool false, .bool false, .pointer (some ⟨p, 0, none⟩), .pointer (some ⟨p, 0, none⟩), .pointer (some ⟨p, 1, none⟩), .slice al D.loose.length cl, .func (.func 93) #[] #[.pointer (some ⟨w3.heap.size, 0, none⟩)], .int .i64 (x : Int), .agg #[.int .i64 (wrAt D.loose x).sec, .string (wrAt D.loose x).data], undef, undef, undef, undef, undef, undef, undef, undef, undef, undef, undef, undef, undef], defers := [] })
    (fun x a' _ X Y row hs hg hr => by
      obtain ⟨Bx, h1, h2, h3⟩ := hs
      refine ⟨Bx, h1, (hg.block Bx (Array.getElem?_eq_some_iff.1 h2).1 (fun e => ?_)).trans h2, h3⟩
      obtain ⟨o, ho, hc⟩ := (hr Bx e.symm).2
      rw [h2] at ho
      cases ho
      cases hc)
    ?assign ?body ?done ?stop
  case assign =>
    rintro l pre x W K ⟨hp, hB1⟩ hK
    have hs := hB1.size
    have hKK := hK { tmps := #[.pointer (some ⟨p, 0, none⟩), .int .i64 n, undef, .pointer (some ⟨w.heap.size, 0, none⟩), .pointer (some ⟨w.heap.size + 1, 0, none⟩), .pointer (some ⟨w.heap.size + 1 + 1, 0, none⟩), .int .i64 0, undef, .pointer (some ⟨W.heap.size, 0, none⟩), .pointer (some ⟨p, 0, none⟩), .int .i64 0, .int .i64 0, .bool false, undef, .int .i64 n, .bool false, .bool false, .int .i64 n, .pointer (some ⟨p, 0, none⟩), .pointer (some ⟨p, 0, none⟩), .pointer (some ⟨p, 0, none⟩), .slice (some ⟨gs, 0, none⟩) D.sure.length cs, .int .i64 D.sure.length, .bool false, .bool false, .pointer (some ⟨p, 0, none⟩), .pointer (some ⟨p, 0, none⟩), .pointer (some ⟨p, 1, none⟩), .slice al D.loose.length cl, .func (.func 93) #[] #[.pointer (some ⟨w3.heap.size, 0, none⟩)], .int .i64 (x : Int), .agg #[.int .i64 (wrAt D.loose x).sec, .string (wrAt D.loose x).data], undef, undef, undef, undef, undef, undef, undef, undef, undef, undef, undef, undef, undef], defers := [] } (W.alloc (.cells #[.int .i64 (wrAt D.loose x).sec, .string (wrAt D.loose x).data] 59)) ((KeepsOthers.alloc _ _).from _) ((Below.refl _ W).alloc hs _) ⟨hp, hB1.alloc hs _⟩ ⟨W.heap.size, hs, heap_alloc_last _ _, rfl⟩
    clear hK
    simp only [encW]
    gi_wp2
    exact hKK
  case body =>
    rintro l pre x a' W hl ⟨r, hr⟩ ⟨hp, hB1⟩ ⟨Bx, hBx, hX, rfl⟩ hlt
    obtain ⟨x0, x1⟩ := cells2' hX
    have c3 := (hB1.cell (p := ⟨w.heap.size, 0, none⟩) (by simp only; omega)).trans b3.cell
    have b4' : Boxed W (w.heap.size + 1) 9 (.string ⟨#[]⟩) := (hB1.block _ (by omega)).trans b4
    have b5' : Boxed W (w.heap.size + 1 + 1) 28 (.int .i64 0) := (hB1.block _ (by omega)).trans b5
    have c4 := b4'.cell
    have f4 := b4'.frozen
    have c5 := b5'.cell
    have f5 := b5'.frozen
    have HBW := Lib.hid (HB2.out.trans (hB1.mono (by omega)))
    have HB1 := Lib.hid hB1
    have HBX := Lib.hid hBx
    have B4 := Lib.hid b4'
    have B5 := Lib.hid b5'
    clear b3 b4 b5 hbx hsl hla HR2 hB1 hBx hX hr b4' b5'
    cases hq : ((wrAt D.loose x).sec == (n : Int)) with
    | true =>
      gi_wp2
      have hw := HBW.out
      refine ⟨((KeepsOthers.setCell _ _ _).trans (KeepsOthers.setCell _ _ _)).from _, ⟨rfl, pre, x, rfl, hp, by simpa using hq, ?_, ?_⟩, (hw.setCell (p := ⟨w.heap.size + 1, 0, none⟩) (by simp) _).setCell (p := ⟨w.heap.size + 1 + 1, 0, none⟩) (by simp; omega) _⟩
      · exact ((B4.out.set (.string (wrAt D.loose x).data)).other (B' := w.heap.size + 1 + 1) (by omega) (.int .i64 0)).cell
      · exact ((B5.out.other (B' := w.heap.size + 1) (by omega) (.string (wrAt D.loose x).data)).set (.int .i64 0)).cell
    | false =>
      gi_wp2
      refine ⟨(KeepsOthers.refl _).from _, Below.refl _ _, fun j hj => ?_, HB1.out⟩
      rcases List.mem_append.1 hj with h | h
      · exact hp j h
      · simp at h
        subst h
        simpa using hq
  case done =>
    rintro D' ys W hD rfl ⟨hp, hB1⟩ hK
    have hget := get_none D n fun j hj => hp j (by simp only [downTo, List.mem_map, List.mem_range]; exact ⟨D.loose.length - 1 - j, by omega, by omega⟩)
    have hRW := HSG.out.below hB1
    have b3' : Boxed W w.heap.size 3 (.int .i64 n) := (hB1.block _ (by omega)).trans b3
    have b4' : Boxed W (w.heap.size + 1) 9 (.string ⟨#[]⟩) := (hB1.block _ (by omega)).trans b4
    have b5' : Boxed W (w.heap.size + 1 + 1) 28 (.int .i64 0) := (hB1.block _ (by omega)).trans b5
    have HBW := Lib.hid (HB2.out.trans (hB1.mono (by omega)))
    have C0 := Lib.hid (cells7 hRW.row).1.1
    have C3 := Lib.hid b3'.cell
    have hcs := (hRW.sure.cellAt n (by omega))
    rw [List.getElem?_map, List.getElem?_eq_getElem hn] at hcs
    have hcs : W.cell? ⟨gs, n, none⟩ = some (.string D.sure[n]) := hcs
    have HCS := Lib.hid hcs
    have HG := Lib.hid hRW.gs_lt
    have HP := Lib.hid hRW.p_lt
    have B4 := Lib.hid b4'
    have B5 := Lib.hid b5'
    have HKK := Lib.hid hK
    have HGT := Lib.hid hget
    have hWs : W2.heap.size ≤ W.heap.size := hB1.size
    clear b3 b4 b5 hbx hsl hla HR2 hB1 hRW b3' b4' b5' hcs hK hp hget
    go_wp2
    refine wp_region_rr 7 (fun w' => Below W.heap.size W w') (by kernel_rfl) (by kernel_rfl) (Below.refl _ _).drew ?_
    iterate 7
      (apply RR_run
       focus rfl
       focus
         intro w4 hS
         have c3 := (hS.cell (p := ⟨w.heap.size, 0, none⟩) (by simp only; omega)).trans C3.out
         have c0 := (hS.cell (p := ⟨p, 0, none⟩) HP.out).trans C0.out
         have c7 := (hS.cell (p := ⟨gs, n, none⟩) HG.out).trans HCS.out
         go_wp2
         exact ⟨rfl, hS⟩
       focus exact ⟨_, rfl⟩)
    refine RR_end fun w4 hS => ?_
    have k4 := (hS.block (w.heap.size + 1) (by omega)).trans B4.out
    have k5 := (hS.block (w.heap.size + 1 + 1) (by omega)).trans B5.out
    have b4 : Boxed w4 (w.heap.size + 1) 9 (.string ⟨#[]⟩) := k4
    have b5 : Boxed w4 (w.heap.size + 1 + 1) 28 (.int .i64 0) := k5
    have hb4 : Below w.heap.size w w4 := HBW.out.trans (hS.mono (by omega))
    have hK4 := (hS.block D' (Array.getElem?_eq_some_iff.1 HKK.out).1).trans HKK.out
    clear hS k4 k5
    have c4 := b4.cell
    have f4 := b4.frozen
    have c5 := b5.cell
    have f5 := b5.frozen
    have hne4 : D' ≠ w.heap.size + 1 := by omega
    have hne5 : D' ≠ w.heap.size + 1 + 1 := by omega
    have r4 : Boxed _ (w.heap.size + 1) 9 (.string D.sure[n]) := (b4.set (.string D.sure[n])).other (B' := w.heap.size + 1 + 1) (by omega) (.int .i64 0)
    have r5 : Boxed _ (w.heap.size + 1 + 1) 28 (.int .i64 0) := (b5.other (B' := w.heap.size + 1) (by omega) (.string D.sure[n])).set (.int .i64 0)
    have R4 := Lib.hid r4
    have R5 := Lib.hid r5
    have HF := Lib.hid ((hb4.setCell (p := ⟨w.heap.size + 1, 0, none⟩) (by simp) (.string D.sure[n])).setCell (p := ⟨w.heap.size + 1 + 1, 0, none⟩) (by simp; omega) (.int .i64 0))
    have HK' := Lib.hid ((Below.heap_setCell (w4.setCell ⟨w.heap.size + 1, 0, none⟩ (.string D.sure[n])) ⟨w.heap.size + 1 + 1, 0, none⟩ (.int .i64 0) D' hne5).trans ((Below.heap_setCell w4 ⟨w.heap.size + 1, 0, none⟩ (.string D.sure[n]) D' hne4).trans hK4))
    clear r4 r5
    go_wp2
    refine ⟨by simp, .inl ⟨_, _, rfl, run_takeDeferred HK'.out, ?_⟩⟩
    have q4 := cell_kept R4.out.cell (grownBy_putObj' _ D' (.deferred none)) (fun r e => by cases e; exact ⟨_, HK'.out, rfl⟩)
    have q5 := cell_kept R5.out.cell (grownBy_putObj' _ D' (.deferred none)) (fun r e => by cases e; exact ⟨_, HK'.out, rfl⟩)
    refine ⟨.tuple #[.string D.sure[n], .int .i64 0], ?_, ?_, HF.out.trans (belowK_b (w := w) (Nat.le_refl _) _ D' _ _ (by omega) HK'.out rfl rfl)⟩
    · simp [results, Try.results68, go_sem, q4, q5]
    · rw [HGT.out, show D.sure.getD n ⟨#[]⟩ = D.sure[n] by simp [List.getD, List.getElem?_eq_getElem hn]]
  case stop =>
    rintro D' c pre W hD hpre ⟨⟨rfl, pre', x, rfl, e2, e3, e4, e5⟩, hB1⟩ hK
    obtain ⟨k, hk, hpk⟩ := hpre
    rw [downTo_succ] at hpk
    obtain ⟨rfl, hx⟩ := List.append_inj hpk (by rw [downTo_length]; have := congrArg List.length hpk; simp [downTo_length] at this; omega)
    obtain rfl : x = D.loose.length - 1 - k := by simpa using hx
    have hget := get_some D n (D.loose.length - 1 - k) (by omega) e3 fun j h1 h2 => e2 j (by simp only [downTo, List.mem_map, List.mem_range]; exact ⟨D.loose.length - 1 - j, by omega, by omega⟩)
    have HGT := Lib.hid hget
    clear hget hpk hx
    gi_wp2
    refine ⟨by simp, .inl ⟨_, _, rfl, run_takeDeferred hK, ?_⟩⟩
    have q4 := cell_kept e4 (grownBy_putObj' _ D' (.deferred none)) (fun r e => by cases e; exact ⟨_, hK, rfl⟩)
    have q5 := cell_kept e5 (grownBy_putObj' _ D' (.deferred none)) (fun r e => by cases e; exact ⟨_, hK, rfl⟩)
    refine ⟨.tuple #[.string (wrAt D.loose (D.loose.length - 1 - k)).data, .int .i64 0], ?_, ?_, hB1.trans (belowK_b (w := w) (Nat.le_refl _) _ D' _ _ (by omega) hK rfl rfl)⟩
    · simp [results, Try.results68, go_sem, q4, q5]
    · rw [HGT.out]

/-- READ: what the disk in thought answers; nothing turns. -/
theorem read_any {w : World} {K : Nat → Prop} {p : Nat} {D : Dk} (h : DiskAt w K p D) (n : Int) :
    Calls Try.prog 68 #[.pointer (some ⟨p, 0, none⟩), .int .i64 n] w (Ret w (.tuple #[.string (D.read n).1, .int .i64 (D.read n).2])) := by
  cases hd : D.down with
  | true =>
    have := read_down h n hd
    simpa [Dk.read, hd] using this
  | false =>
    by_cases h1 : n < 0
    · have := read_neg h n hd (by simpa using h1)
      simpa [Dk.read, hd, h1] using this
    · by_cases h2 : (D.sure.length : Int) ≤ n
      · have := read_far h n hd (by simpa using h1) (by simpa using h2)
        simpa [Dk.read, hd, h1, h2] using this
      · obtain ⟨m, rfl⟩ : ∃ m : Nat, n = m := ⟨n.toNat, by omega⟩
        have := read_good h m hd (by omega)
        have e : D.read (m : Int) = (D.get m, 0) := by
          unfold Dk.read
          rw [if_neg (by simp [hd]), if_neg (by rintro (h | h) <;> omega)]
          simp
        rw [e]
        exact this
end Go.Proofs.Ytffgjjhopopgcaa
