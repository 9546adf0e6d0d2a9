/-
  The walk of Read: a range over slices.Backward.
-/
import Derived.Test.YtffgjjhopopgcaaDkd
import Derived.RangeFuncNested
import Derived.RangeFuncBound
import Derived.RangeFuncCalls
import Derived.RangeFuncLeaves
import Derived.Shelf.Abstract
import Derived.Shelf.RegionOpen
import Derived.WalkKit
import Derived.OwnWalkIn
import Derived.TacticsInMore
import Derived.LoopNIn
import Derived.LoopIn
namespace Go.Proofs.Ytffgjjhopopgcaa
set_option linter.unusedVariables false
set_option linter.unusedSimpArgs false
open Go.RowKit Go.Shelf
set_option maxRecDepth 100000
set_option maxHeartbeats 4000000
attribute [local go_sem] Oper.semAt_some

/-- What has come when k rounds are over. -/
def downTo (n k : Nat) : List Nat := (List.range k).map fun j => n - 1 - j
theorem downTo_succ (n k : Nat) : downTo n (k + 1) = downTo n k ++ [n - 1 - k] := by simp [downTo, List.range_succ]
theorem downTo_length (n k : Nat) : (downTo n k).length = k := by simp [downTo]

/-- The loose write of a place. -/
def wrAt (l : List Wr) (x : Nat) : Wr := l.getD x ⟨0, ⟨#[]⟩⟩
theorem wrAt_eq (l : List Wr) (x : Nat) (h : x < l.length) : wrAt l x = l[x] := by simp [wrAt, List.getD, List.getElem?_eq_getElem h]
def encW (l : List Wr) (x : Nat) : Array Value := #[.int .i64 (x : Int), .agg #[.int .i64 (wrAt l x).sec, .string (wrAt l x).data]]

theorem back1_in (F : Fence) (n : Nat) (h8 : F.fn 93) (hro : F.round = none) (hn : 1 ≤ n) (lp Bs n₀ : Nat) (a : Option Addr) (cap : Nat) (l : List Wr) (hbig : l.length ≤ 1000000000000) (hB : Bs < n₀) (ha : ∀ ad, a = some ad → ad.block < n₀) (J Jx : List Nat → World → Prop)
    (hY : ∀ pre x W, J pre W → pre.length < l.length → YieldAt F (n - 1) Try.prog lp (encW l x) W fun e W' =>
      (e = .returned (.bool true) ∧ J (pre ++ [x]) W' ∧ Below n₀ W W') ∨ (e = .returned (.bool false) ∧ Jx (pre ++ [x]) W'))
    (W : World) (hBs : W.cell? ⟨Bs, 0, none⟩ = some (.slice a l.length cap)) (hc : SlW W a l) (h0 : J [] W) :
    CallsIn F n Try.prog 93 #[.func (.yield lp) #[] #[], .pointer (some ⟨Bs, 0, none⟩)] W fun e W' => (∃ v, e = .returned v) ∧
      ((∃ ys, ys = downTo l.length l.length ∧ J ys W') ∨ (∃ pre, (∃ k, k < l.length ∧ pre = downTo l.length (k + 1)) ∧ Jx pre W')) := by
  refine callsIn_of_wp Try.func93 rfl h8 ?_ hro
  simp only [Try.ntmps93, List.size_toArray, List.length_cons, List.length_nil, Nat.reduceAdd, Nat.reduceSub, Array.replicate_succ, Array.replicate_zero, List.push_toArray, List.append_toArray, List.nil_append, List.cons_append]
  gi_wp2
  gi_loopw [3] (fun i wr => ∃ k : Nat, k ≤ l.length ∧ i = .int .i64 ((l.length : Int) - 1 - k) ∧ J (downTo l.length k) wr ∧ Below n₀ W wr)
    (fun i _ => (intOf i + 1).toNat)
  case atStart => exact ⟨0, Nat.zero_le _, by simp, h0, Below.refl _ _⟩
  case round =>
    obtain ⟨k, hk, rfl, hJs, hnx⟩ := hrel
    have hbx := (hnx.cell (p := ⟨Bs, 0, none⟩) hB).trans hBs
    by_cases hlt : k < l.length
    · obtain ⟨m, hm⟩ : ∃ m : Nat, m = l.length - 1 - k := ⟨_, rfl⟩
      have hmi : ((l.length : Int) - 1 - k) = (m : Int) := by omega
      rw [hmi]
      have hml : m < l.length := by omega
      obtain ⟨b, off, rfl, g1', g2'⟩ := hc m hml
      have hb := ha _ rfl
      have g1 := (hnx.cell (p := ⟨b, off + m * 2, none⟩) hb).trans g1'
      have g2 := (hnx.cell (p := ⟨b, off + m * 2 + 1, none⟩) hb).trans g2'
      obtain ⟨fn, tmps, assign, body, hy, hR⟩ := hY _ m wr hJs (by rw [downTo_length]; exact hlt)
      simp only [encW, wrAt_eq l m hml] at hy
      have HM := Lib.hid hm
      have HMI := Lib.hid hmi
      clear hc g1' g2' hY hm hmi
      gi_wp2
      refine hR.mono ?_
      rintro e W3 (⟨rfl, hJ3, hk3⟩ | ⟨rfl, hJx3⟩)
      · gi_wp2
        go_roundw
        case rel => exact ⟨k + 1, by omega, by (have := HMI.out; go_num; try omega), by rw [downTo_succ, ← HM.out]; exact hJ3, hnx.trans hk3⟩
        case measure => (have := HMI.out; simp [intOf]; try omega)
      · gi_wp2
        refine bodyPost_ret (results_none rfl _ _ _) rfl ?_
        exact ⟨⟨_, rfl⟩, .inr ⟨_, ⟨k, hlt, by rw [downTo_succ, ← HM.out]⟩, hJx3⟩⟩
    · obtain rfl : k = l.length := by omega
      have hneg : decide ((0 : Int) ≤ (l.length : Int) - 1 - (l.length : Int)) = false := by simp; omega
      gi_wp2
      go_end0
      exact ⟨⟨_, rfl⟩, .inl ⟨_, rfl, hJs⟩⟩
theorem backward_any (w : World) (a : Option Addr) (n c : Nat) :
    Calls Try.prog 83 #[.slice a n c] w (fun e w' => e = .returned (.func (.func 93) #[] #[.pointer (some ⟨w.heap.size, 0, none⟩)]) ∧ w' = w.alloc (.cells #[.slice a n c] 53)) := by
  go_enter Try.func83, Try.ntmps83
  go_wp2
  go_ret
  exact ⟨rfl, rfl⟩

theorem back_stops (F : Fence) (n : Nat) (h8 : F.fn 93) (hro : F.round = none) (hn : 1 ≤ n) (Bs : Nat) (a : Option Addr) (cap : Nat) (l : List Wr) (hbig : l.length ≤ 1000000000000) (w : World) (hB : Bs < w.heap.size) (ha : ∀ ad, a = some ad → ad.block < w.heap.size)
    (hBs : w.cell? ⟨Bs, 0, none⟩ = some (.slice a l.length cap)) (hc : SlW w a l) :
    SeqStopsK F n Try.prog 93 #[.pointer (some ⟨Bs, 0, none⟩)] (encW l) (Below w.heap.size) (fun ys => ys = downTo l.length l.length) (fun pre => ∃ k, k < l.length ∧ pre = downTo l.length (k + 1)) l.length w := fun lp J Jx W hW _ _ hY h0 => by
  refine back1_in F n h8 hro hn lp Bs w.heap.size a cap l hbig hB ha J Jx hY W ((hW.cell (p := ⟨Bs, 0, none⟩) hB).trans hBs) (hc.below hW) h0

/-! ### what a sector has, by places -/
theorem get_none (D : Dk) (n : Nat) (h : ∀ j, j < D.loose.length → (wrAt D.loose j).sec ≠ n) : D.get n = D.sure.getD n ⟨#[]⟩ := by
  unfold Dk.get
  have : D.loose.reverse.find? (fun x => x.sec == (n : Int)) = none := by
    rw [List.find?_eq_none]
    intro x hx
    rw [List.mem_reverse] at hx
    obtain ⟨j, hj, rfl⟩ := List.getElem_of_mem hx
    have := h j hj
    rw [wrAt_eq _ _ hj] at this
    simpa using this
  rw [this]
theorem find_last (n : Int) : ∀ (l : List Wr) (x : Nat) (hx : x < l.length), l[x].sec = n → (∀ j, x < j → (hj : j < l.length) → l[j].sec ≠ n) → l.reverse.find? (fun y => y.sec == n) = some l[x] := by
  intro l
  induction l with
  | nil => intro x hx; simp at hx
  | cons y l ih =>
    intro x hx h hl
    rw [List.reverse_cons, List.find?_append]
    cases x with
    | zero =>
      have : l.reverse.find? (fun y => y.sec == n) = none := by
        rw [List.find?_eq_none]
        intro z hz
        rw [List.mem_reverse] at hz
        obtain ⟨j, hj, rfl⟩ := List.getElem_of_mem hz
        have := hl (j + 1) (by omega) (by simpa using hj)
        simpa using this
      rw [this]
      simp only [List.getElem_cons_zero] at h ⊢
      simp [h]
    | succ x =>
      simp only [List.getElem_cons_succ] at h ⊢
      rw [ih x (by simpa using hx) h fun j h1 h2 => by have := hl (j + 1) (by omega) (by simpa using h2); simpa using this]
      rfl
theorem get_some (D : Dk) (n x : Nat) (hx : x < D.loose.length) (h : (wrAt D.loose x).sec = n) (hl : ∀ j, x < j → j < D.loose.length → (wrAt D.loose j).sec ≠ n) : D.get n = (wrAt D.loose x).data := by
  rw [wrAt_eq _ _ hx] at h ⊢
  unfold Dk.get
  rw [find_last n D.loose x hx h fun j h1 h2 => by have := hl j h1 h2; rwa [wrAt_eq _ _ h2] at this]

/-- Where Read begins. -/
def rdW (w : World) (n : Int) : World := ((w.alloc (.cells #[.int .i64 n] 3)).alloc (.cells #[.string ⟨#[]⟩] 9)).alloc (.cells #[.int .i64 0] 28)
theorem rdW_facts (w : World) (n : Int) : Below w.heap.size w (rdW w n) ∧ (rdW w n).heap.size = w.heap.size + 1 + 1 + 1 ∧ Boxed (rdW w n) w.heap.size 3 (.int .i64 n) ∧ Boxed (rdW w n) (w.heap.size + 1) 9 (.string ⟨#[]⟩) ∧ Boxed (rdW w n) (w.heap.size + 1 + 1) 28 (.int .i64 0) := by
  have hb : Below w.heap.size w (((w.alloc (.cells #[.int .i64 n] 3)).alloc (.cells #[.string ⟨#[]⟩] 9)).alloc (.cells #[.int .i64 0] 28)) := (((Below.refl _ w).alloc (Nat.le_refl _) _).alloc (by simp) _).alloc (by simp; omega) _
  have b3 := ((Boxed.new w 3 (.int .i64 n)).alloc (.cells #[.string ⟨#[]⟩] 9)).alloc (.cells #[.int .i64 0] 28)
  have b4 := (Boxed.new (w.alloc (.cells #[.int .i64 n] 3)) 9 (.string ⟨#[]⟩)).alloc (.cells #[.int .i64 0] 28)
  have b5 := Boxed.new ((w.alloc (.cells #[.int .i64 n] 3)).alloc (.cells #[.string ⟨#[]⟩] 9)) 28 (.int .i64 0)
  simp only [World.size_alloc] at b4 b5
  exact ⟨hb, by simp [rdW], b3, b4, b5⟩

theorem read_down {w : World} {K : Nat → Prop} {p : Nat} {D : Dk} (h : DiskAt w K p D) (n : Int) (hd : D.down = true) :
    Calls Try.prog 68 #[.pointer (some ⟨p, 0, none⟩), .int .i64 n] w (Ret w (.tuple #[.string ⟨#[]⟩, .int .i64 61])) := by
  obtain ⟨hb, hsz, b3, b4, b5⟩ := rdW_facts w n
  have HCH := Lib.hid (dcheck_any (h.below hb).wide)
  simp only [Dk.errno, hd, if_true] at HCH
  clear h b3
  go_enter Try.func68, Try.ntmps68
  go_wp2_with fail
  change Calls _ _ _ (rdW w n) _
  generalize rdW w n = W1 at *
  refine HCH.out.mono ?_
  rintro e w1 ⟨rfl, rfl⟩
  have c4 := b4.cell
  have f4 := b4.frozen
  have c5 := b5.cell
  have f5 := b5.frozen
  go_wp2
  have r4 := ((b4.set (.string ⟨#[]⟩)).other (B' := w.heap.size + 1 + 1) (by omega) (.int .i64 61)).cell
  have r5 := ((b5.other (B' := w.heap.size + 1) (by omega) (.string ⟨#[]⟩)).set (.int .i64 61)).cell
  refine bodyPost_ret (v := .tuple #[.string ⟨#[]⟩, .int .i64 61]) (by simp [results, Try.results68, go_sem, r4, r5]) rfl ⟨rfl, (hb.setCell (p := ⟨w.heap.size + 1, 0, none⟩) (by simp) _).setCell (p := ⟨w.heap.size + 1 + 1, 0, none⟩) (by simp; omega) _⟩
theorem read_neg {w : World} {K : Nat → Prop} {p : Nat} {D : Dk} (h : DiskAt w K p D) (n : Int) (hd : D.down = false) (hn : decide (n < 0) = true) :
    Calls Try.prog 68 #[.pointer (some ⟨p, 0, none⟩), .int .i64 n] w (Ret w (.tuple #[.string ⟨#[]⟩, .int .i64 2])) := by
  obtain ⟨hb, hsz, b3, b4, b5⟩ := rdW_facts w n
  have h1 := h.below hb
  have HCH := Lib.hid (dcheck_any h1.wide)
  simp only [Dk.errno, hd] at HCH
  obtain ⟨ok, gs, cs, vl, ak, ck, hr⟩ := h1
  have C0 := Lib.hid (cells7 hr.row).1.1
  have HP := Lib.hid hr.p_lt
  have C3 := Lib.hid b3.cell
  clear h b3 hr
  go_enter Try.func68, Try.ntmps68
  go_wp2_with fail
  change Calls _ _ _ (rdW w n) _
  generalize rdW w n = W1 at *
  refine HCH.out.mono ?_
  rintro e w1 ⟨rfl, rfl⟩
  go_wp2
  have HW1 := Lib.hid hsz
  refine wp_region_rr 11 (fun w' => Below W1.heap.size W1 w') (by kernel_rfl) (by kernel_rfl) (Below.refl _ _).drew ?_
  iterate 3
    (apply RR_run
     focus rfl
     focus
       intro w3 hS
       have c3 := (hS.cell (p := ⟨w.heap.size, 0, none⟩) (by simp only; omega)).trans C3.out
       have c0 := (hS.cell (p := ⟨p, 0, none⟩) HP.out).trans C0.out
       go_wp2
       exact ⟨rfl, hS⟩
     focus exact ⟨_, rfl⟩)
  iterate 7
    (apply RR_skip
     focus rfl
     focus (simp only [Act.put, List.setIfInBounds_toArray, List.set_cons_zero, List.set_cons_succ]; rfl))
  iterate 1
    (apply RR_run
     focus rfl
     focus
       intro w3 hS
       have c3 := (hS.cell (p := ⟨w.heap.size, 0, none⟩) (by simp only; omega)).trans C3.out
       have c0 := (hS.cell (p := ⟨p, 0, none⟩) HP.out).trans C0.out
       go_wp2
       exact ⟨rfl, hS⟩
     focus exact ⟨_, rfl⟩)
  refine RR_end fun w3 hS => ?_
  have hsz3 := hS.size
  have k4 := (hS.block (w.heap.size + 1) (by omega)).trans b4
  have k5 := (hS.block (w.heap.size + 1 + 1) (by omega)).trans b5
  have b4 : Boxed w3 (w.heap.size + 1) 9 (.string ⟨#[]⟩) := k4
  have b5 : Boxed w3 (w.heap.size + 1 + 1) 28 (.int .i64 0) := k5
  have hb3 : Below w.heap.size w w3 := hb.trans (hS.mono (by omega))
  clear hS k4 k5
  have c4 := b4.cell
  have f4 := b4.frozen
  have c5 := b5.cell
  have f5 := b5.frozen
  go_wp2
  have r4 := ((b4.set (.string ⟨#[]⟩)).other (B' := w.heap.size + 1 + 1) (by omega) (.int .i64 2)).cell
  have r5 := ((b5.other (B' := w.heap.size + 1) (by omega) (.string ⟨#[]⟩)).set (.int .i64 2)).cell
  refine bodyPost_ret (v := .tuple #[.string ⟨#[]⟩, .int .i64 2]) (by simp [results, Try.results68, go_sem, r4, r5]) rfl ⟨rfl, (hb3.setCell (p := ⟨w.heap.size + 1, 0, none⟩) (by simp) _).setCell (p := ⟨w.heap.size + 1 + 1, 0, none⟩) (by simp; omega) _⟩

theorem read_far {w : World} {K : Nat → Prop} {p : Nat} {D : Dk} (h : DiskAt w K p D) (n : Int) (hd : D.down = false) (hn : decide (n < 0) = false) (hn2 : decide ((D.sure.length : Int) ≤ n) = true) :
    Calls Try.prog 68 #[.pointer (some ⟨p, 0, none⟩), .int .i64 n] w (Ret w (.tuple #[.string ⟨#[]⟩, .int .i64 2])) := by
  obtain ⟨hb, hsz, b3, b4, b5⟩ := rdW_facts w n
  have h1 := h.below hb
  have HCH := Lib.hid (dcheck_any h1.wide)
  simp only [Dk.errno, hd] at HCH
  obtain ⟨ok, gs, cs, vl, ak, ck, hr⟩ := h1
  have C0 := Lib.hid (cells7 hr.row).1.1
  have HP := Lib.hid hr.p_lt
  have C3 := Lib.hid b3.cell
  clear h b3 hr
  go_enter Try.func68, Try.ntmps68
  go_wp2_with fail
  change Calls _ _ _ (rdW w n) _
  generalize rdW w n = W1 at *
  refine HCH.out.mono ?_
  rintro e w1 ⟨rfl, rfl⟩
  go_wp2
  have HW1 := Lib.hid hsz
  refine wp_region_rr 11 (fun w' => Below W1.heap.size W1 w') (by kernel_rfl) (by kernel_rfl) (Below.refl _ _).drew ?_
  iterate 11
    (apply RR_run
     focus rfl
     focus
       intro w3 hS
       have c3 := (hS.cell (p := ⟨w.heap.size, 0, none⟩) (by simp only; omega)).trans C3.out
       have c0 := (hS.cell (p := ⟨p, 0, none⟩) HP.out).trans C0.out
       go_wp2
       exact ⟨rfl, hS⟩
     focus exact ⟨_, rfl⟩)
  refine RR_end fun w3 hS => ?_
  have hsz3 := hS.size
  have k4 := (hS.block (w.heap.size + 1) (by omega)).trans b4
  have k5 := (hS.block (w.heap.size + 1 + 1) (by omega)).trans b5
  have b4 : Boxed w3 (w.heap.size + 1) 9 (.string ⟨#[]⟩) := k4
  have b5 : Boxed w3 (w.heap.size + 1 + 1) 28 (.int .i64 0) := k5
  have hb3 : Below w.heap.size w w3 := hb.trans (hS.mono (by omega))
  clear hS k4 k5
  have c4 := b4.cell
  have f4 := b4.frozen
  have c5 := b5.cell
  have f5 := b5.frozen
  go_wp2
  have r4 := ((b4.set (.string ⟨#[]⟩)).other (B' := w.heap.size + 1 + 1) (by omega) (.int .i64 2)).cell
  have r5 := ((b5.other (B' := w.heap.size + 1) (by omega) (.string ⟨#[]⟩)).set (.int .i64 2)).cell
  refine bodyPost_ret (v := .tuple #[.string ⟨#[]⟩, .int .i64 2]) (by simp [results, Try.results68, go_sem, r4, r5]) rfl ⟨rfl, (hb3.setCell (p := ⟨w.heap.size + 1, 0, none⟩) (by simp) _).setCell (p := ⟨w.heap.size + 1 + 1, 0, none⟩) (by simp; omega) _⟩
end Go.Proofs.Ytffgjjhopopgcaa
