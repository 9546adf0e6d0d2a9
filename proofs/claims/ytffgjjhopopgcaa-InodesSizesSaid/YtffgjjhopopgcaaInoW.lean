/-
  The inode package's own functions for blocks, Check and Put compute what the plain laws say, for every inode whose extents are read through a slice. Conditions: lengths that any Go value keeps.
-/
import Derived.Test.YtffgjjhopopgcaaLeaf
import Derived.Test.YtffgjjhopopgcaaIno
namespace Go.Proofs.Ytffgjjhopopgcaa
set_option linter.unusedVariables false
set_option linter.unusedSimpArgs false
open Go.RowKit
set_option maxRecDepth 100000
set_option maxHeartbeats 1000000

/-- A slice of extents that reads as l. -/
def SlE (w : World) (a : Option Addr) (l : List Ext) : Prop := ∀ k (h : k < l.length), ∃ b off, a = some ⟨b, off, none⟩ ∧
  w.cell? ⟨b, off + k * 2, none⟩ = some (.int .i64 l[k].first) ∧ w.cell? ⟨b, off + k * 2 + 1, none⟩ = some (.int .i64 l[k].count)

/-- Its numbers are of their kind. -/
def inI64 (n : Int) : Prop := -9223372036854775808 ≤ n ∧ n ≤ 9223372036854775807
def ExtsI64 (l : List Ext) : Prop := ∀ x ∈ l, inI64 x.first ∧ inI64 x.count

theorem SlE.below {w w1 : World} {a : Option Addr} {l : List Ext} (h : SlE w a l) (hb : Below w.heap.size w w1) : SlE w1 a l := fun k hk => by
  obtain ⟨b, off, rfl, h1, h2⟩ := h k hk
  exact ⟨b, off, rfl, (hb.cell (p := ⟨b, off + k * 2, none⟩) (World.block_lt_of_cell? w _ h1)).trans h1, (hb.cell (p := ⟨b, off + k * 2 + 1, none⟩) (World.block_lt_of_cell? w _ h2)).trans h2⟩

def seenRow (p : List Ext) : Array Value := ((List.range 4096).map fun i => .bool (covered p i)).toArray
theorem seenRow_size (p : List Ext) : (seenRow p).size = 4096 := by simp [seenRow]
theorem seenRow_get (p : List Ext) (i : Nat) (h : i < 4096) : (seenRow p)[i]? = some (.bool (covered p i)) := by simp [seenRow, h]
theorem seenRow_nil : seenRow [] = Array.replicate 4096 (.bool false) := by
  apply Array.ext_getElem?
  intro i
  by_cases h : i < 4096
  · rw [seenRow_get _ _ h]; simp [h, covered]
  · rw [Array.getElem?_eq_none (by rw [seenRow_size]; omega), Array.getElem?_eq_none (by simp; omega)]
theorem seenRow_zero (p : List Ext) (f : Int) : seenRow (p ++ [⟨f, 0⟩]) = seenRow p := by
  unfold seenRow
  congr 1
  apply List.map_congr_left
  intro i _
  rw [covered_snoc]
  congr 1
  have : (decide (f ≤ (i : Int)) && decide ((i : Int) < f + 0)) = false := by simp
  simp only [this, Bool.or_false]
theorem seenRow_set (p : List Ext) (f j : Nat) (h : f + j < 4096) : (seenRow (p ++ [⟨f, j⟩])).setIfInBounds (f + j) (.bool true) = seenRow (p ++ [⟨f, (j + 1 : Nat)⟩]) := by
  apply Array.ext_getElem?
  intro i
  by_cases hi : i < 4096
  · rw [seenRow_get _ i hi, Array.getElem?_setIfInBounds, covered_snoc]
    by_cases hk : f + j = i
    · subst hk
      have : (decide ((f : Int) ≤ ((f + j : Nat) : Int)) && decide (((f + j : Nat) : Int) < (f : Int) + ((j + 1 : Nat) : Int))) = true := by simp; omega
      simp only [if_true, seenRow_size, hi, covered_snoc, this, Bool.or_true]
    · rw [if_neg hk, seenRow_get _ i hi, covered_snoc]
      have : (decide ((f : Int) ≤ (i : Int)) && decide ((i : Int) < (f : Int) + ((j : Nat) : Int))) = (decide ((f : Int) ≤ (i : Int)) && decide ((i : Int) < (f : Int) + ((j + 1 : Nat) : Int))) := by
        congr 1
        rw [decide_eq_decide]
        omega
      simp only [this]
  · rw [Array.getElem?_eq_none (by simp [seenRow_size]; omega), Array.getElem?_eq_none (by simp [seenRow_size]; omega)]

theorem zero_seen : Try.zeroCells109 = seenRow [] := by
  rw [seenRow_nil]
  kernel_rfl

theorem inoBlocks_any (a : Option Addr) (l : List Ext) (c : Nat) (hl : l.length * 16 ≤ 140737488351232) (hi : ExtsI64 l) (w : World) (hx : SlE w a l) :
    Calls Try.prog 47 #[.slice a l.length c] w (Ret w (.int .i64 (blk l))) := by
  have HX := Lib.hid hx
  clear hx
  have HI := Lib.hid hi
  clear hi
  go_enter Try.func47, Try.ntmps47
  go_wp2
  go_loopw [4, 10] (fun n i wr => ∃ (k : Nat) (m : Int), k ≤ l.length ∧ i = .int .i64 k ∧ n = .int .i64 m ∧ 0 ≤ m ∧ m ≤ 4096 * k ∧ blkGo (l.take k) (l.drop k) m = blk l ∧ (∀ y ∈ l.take k, extOk y = true) ∧
    wr.heap[w.heap.size]? = some (.cells (seenRow (l.take k)) 109 (0, 0)) ∧ Below w.heap.size w wr) (fun _ i _ => l.length - (intOf i).toNat)
  case atStart =>
    refine ⟨0, 0, by omega, rfl, rfl, by omega, by omega, rfl, by simp, ?_, (Below.refl _ _).alloc (Nat.le_refl _) _⟩
    rw [List.take_zero, ← zero_seen]
    exact heap_alloc_last w _
  case round =>
    obtain ⟨k, m, hk, rfl, rfl, hm0, hm1, hgo, hall, hh, hb⟩ := hrel
    obtain ⟨wo, rfl⟩ : ∃ wo : World, wo = wr := ⟨_, rfl⟩
    by_cases hlt : k < l.length
    · obtain ⟨b, off, rfl, h1, h2⟩ := HX.out.below hb k hlt
      have hlk : l.take (k + 1) = l.take k ++ [l[k]] := List.take_succ_eq_append_getElem hlt
      have hdk : l.drop k = l[k] :: l.drop (k + 1) := List.drop_eq_getElem_cons hlt
      have hri := HI.out l[k] (List.getElem_mem hlt)
      rw [hdk] at hgo
      have HK := Lib.hid hlk
      clear hlk hdk
      generalize l[k] = x at *
      generalize l.take k = p at *
      generalize hr : l.drop (k + 1) = r at *
      have HR := Lib.hid hr
      clear hr
      obtain ⟨f, n⟩ := x
      simp only at h1 h2 hri
      unfold inI64 at hri
      have hbig : (4096 : Int) * k ≤ 4096 * 10000000000000 := by omega
      have HG := Lib.hid hgo
      have HA := Lib.hid hall
      have HH := Lib.hid hh
      clear hgo hall hh
      by_cases hok : extOk ⟨f, n⟩ = true
      · have hok' := (extOk_iff _).1 hok
        simp only at hok'
        obtain ⟨g1, g2, g3, g4⟩ := hok'
        have hok := Lib.hid hok
        obtain ⟨f, rfl⟩ := Int.eq_ofNat_of_zero_le g1
        obtain ⟨n, rfl⟩ := Int.eq_ofNat_of_zero_le (show (0 : Int) ≤ n by omega)
        go_wp2
        go_loopw [37] (fun j wr => ∃ jn : Nat, jn ≤ n ∧ j = .int .i64 jn ∧ wr.heap[w.heap.size]? = some (.cells (seenRow (p ++ [⟨f, (jn : Nat)⟩])) 109 (0, 0)) ∧ (∀ i, i < jn → covered p (f + i) = false) ∧
          wr.cell? ⟨wo.heap.size, 0, none⟩ = some (.int .i64 f) ∧ wr.cell? ⟨wo.heap.size, 1, none⟩ = some (.int .i64 n) ∧ Below w.heap.size w wr) (fun j _ => n - (intOf j).toNat)
        case atStart =>
          refine ⟨0, by omega, rfl, ?_, fun i hi => by omega, ?_, ?_, hb.trans ((Below.refl _ _).alloc hb.size _)⟩
          · rw [show ((0 : Nat) : Int) = 0 from rfl, seenRow_zero, Below.heap_alloc _ _ _ (Array.getElem?_eq_some_iff.1 HH.out).1]
            exact HH.out
          · rw [cell_of_row _ _ _ _ _ _ (heap_alloc_last wo _)]; rfl
          · rw [cell_of_row _ _ _ _ _ _ (heap_alloc_last wo _)]; rfl
        case round =>
          obtain ⟨jn, hj, rfl, hrow, hno, hc0, hc1, hb3⟩ := hrel
          by_cases hjn : jn < n
          · have hcell := cell_of_row wr w.heap.size (f + jn) _ 109 (0, 0) hrow
            have hpl : covered (p ++ [⟨f, (jn : Nat)⟩]) (f + jn) = covered p (f + jn) := by
              rw [covered_snoc]
              have : (decide ((f : Int) ≤ ((f + jn : Nat) : Int)) && decide (((f + jn : Nat) : Int) < (f : Int) + ((jn : Nat) : Int))) = false := by simp
              simp only [this, Bool.or_false]
            rw [seenRow_get _ _ (by omega), hpl] at hcell
            have hfz := frozen_of_row wr w.heap.size (f + jn) _ 109 hrow
            by_cases hcv : covered p (f + jn) = true
            · have hbad := Lib.hid (blkGo_bad p ⟨f, n⟩ r m (.inr (covered_clash p ⟨f, n⟩ hok.out (f + jn) (by simp only; omega) (by simp only; omega) hcv)))
              rw [hcv] at hcell
              clear hcv hpl hrow hno
              go_wp2
              go_ret
              exact ⟨by rw [← HG.out, hbad.out]; rfl, hb3⟩
            · have hcv : covered p (f + jn) = false := by simpa using hcv
              rw [hcv] at hcell
              have H1 := Lib.hid (heap_setCell_same wr w.heap.size (f + jn) _ 109 (.bool true) hrow)
              have H2 := Lib.hid (seenRow_set p f jn (by omega))
              have H3 := Lib.hid hcv
              have H4 := Lib.hid hno
              have hbs := hb.size
              have hlt2 : w.heap.size < wo.heap.size := (Array.getElem?_eq_some_iff.1 HH.out).1
              clear hcv hpl hrow hno
              go_wp2
              go_roundw
              case rel =>
                refine ⟨jn + 1, by omega, by go_num, by rw [H1.out, H2.out], fun i hi => ?_, ?_, ?_, hb3.setCell (Nat.le_refl _) _⟩
                · rcases Nat.lt_or_ge i jn with h | h
                  · exact H4.out i h
                  · obtain rfl : i = jn := by omega
                    exact H3.out
                · rw [World.cell?_of_block (w := wr) (Below.heap_setCell _ _ _ _ (by simp only; omega))]; exact hc0
                · rw [World.cell?_of_block (w := wr) (Below.heap_setCell _ _ _ _ (by simp only; omega))]; exact hc1
              case measure => simp [intOf]; omega
          · obtain rfl : jn = n := by omega
            have hnc : clash p ⟨f, jn⟩ = false := by
              cases hc : clash p ⟨f, jn⟩ with
              | false => rfl
              | true =>
                obtain ⟨i, hi1, hi2, hi3⟩ := clash_covered p HA.out ⟨f, jn⟩ hok.out hc
                simp only at hi1 hi2
                have := hno (i - f) (by omega)
                rw [show f + (i - f) = i from by omega, hi3] at this
                cases this
            have hstep := Lib.hid (blkGo_cons p ⟨f, jn⟩ r m hok.out hnc)
            have H5 := Lib.hid hrow
            clear hno hnc hrow
            go_wp2
            go_roundw
            case rel =>
              refine ⟨k + 1, m + jn, by omega, by go_num, rfl, by omega, by omega, ?_, ?_, ?_, hb3⟩
              · rw [HK.out, ← HG.out, hstep.out, HR.out]
              · rw [HK.out]
                intro y hy
                rcases List.mem_append.1 hy with hy | hy
                · exact HA.out y hy
                · rw [List.mem_singleton] at hy; subst hy; exact hok.out
              · rw [HK.out]; exact H5.out
            case measure => simp [intOf]; omega
      · have hbad := Lib.hid (blkGo_bad p ⟨f, n⟩ r m (.inl (by simpa using hok)))
        have hcs : f < 0 ∨ (0 ≤ f ∧ n < 1) ∨ (0 ≤ f ∧ 1 ≤ n ∧ 4096 ≤ f) ∨ (0 ≤ f ∧ 1 ≤ n ∧ f < 4096 ∧ 4096 - f < n) := by
          have := mt (extOk_iff ⟨f, n⟩).2 hok
          simp only at this
          omega
        clear hok
        rcases hcs with hc | hc | hc | hc
        all_goals
          go_wp2
          go_ret
          exact ⟨by rw [← HG.out, hbad.out]; rfl, hb.trans ((Below.refl _ _).alloc hb.size _)⟩
    · obtain rfl : k = l.length := by omega
      rw [List.drop_length] at hgo
      have HG := Lib.hid hgo
      clear hgo hall hh
      go_wp2
      go_ret
      exact ⟨by rw [← HG.out]; rfl, hb⟩
theorem inoCheck_if (i : Ino) : inoCheck i = if 1 ≤ i.name.size ∧ i.name.size ≤ 96 ∧ 0 ≤ i.size ∧ i.size ≤ 65536 ∧ i.exts.length ≤ 8 ∧ blk i.exts = blocksOf i.size then 0 else 2 := by
  unfold inoCheck
  by_cases h : inoOk i = true
  · rw [if_pos h, if_pos ((inoOk_iff _).1 h)]
  · rw [if_neg h, if_neg (fun h' => h ((inoOk_iff i).2 h'))]

theorem inoCheck_c1 (name : ByteArray) (size : Int) (a : Option Addr) (l : List Ext) (c : Nat) (hn : name.size ≤ 9223372036854775807) (hsz : -9223372036854775808 ≤ size) (hsz2 : size ≤ 9223372036854775807)
    (hl : l.length * 16 ≤ 140737488351232) (hi : ExtsI64 l) (w : World) (hx : SlE w a l)
    (hd1 : decide ((name.size : Int) < 1) = true) :
    Calls Try.prog 16 #[.agg #[.string name, .int .i64 size, .slice a l.length c]] w (Ret w (.int .i64 2)) := by
  have hb0 : Below w.heap.size w (w.alloc (.cells #[.string name, .int .i64 size, .slice a l.length c] 27)) := (Below.refl _ _).alloc (Nat.le_refl _) _
  have HX := Lib.hid (hx.below hb0)
  have HI := Lib.hid hi
  have HB0 := Lib.hid hb0
  clear hx hi hb0
  go_enter Try.func16, Try.ntmps16
  go_wp2
  generalize hwo : w.alloc (.cells #[.string name, .int .i64 size, .slice a l.length c] 27) = wo at *
  have h0 : wo.cell? ⟨w.heap.size, 0, none⟩ = some (.string name) := by rw [← hwo, cell_of_row _ _ _ _ _ _ (heap_alloc_last w _)]; rfl
  have h1 : wo.cell? ⟨w.heap.size, 1, none⟩ = some (.int .i64 size) := by rw [← hwo, cell_of_row _ _ _ _ _ _ (heap_alloc_last w _)]; rfl
  have h2 : wo.cell? ⟨w.heap.size, 2, none⟩ = some (.slice a l.length c) := by rw [← hwo, cell_of_row _ _ _ _ _ _ (heap_alloc_last w _)]; rfl
  have hlt : w.heap.size < wo.heap.size := by rw [← hwo]; simp
  clear hwo
  refine wp_region_rr 35 (fun w' => Below wo.heap.size wo w') (by kernel_rfl) (by kernel_rfl) (Below.refl _ _).drew ?_
  repeat
    first
    | (apply RR_skip
       focus rfl
       focus (simp only [Act.put, List.setIfInBounds_toArray, List.set_cons_zero, List.set_cons_succ]; rfl))
    | (apply RR_run
       focus rfl
       focus
         intro w2 hS
         have c0 := (hS.cell (p := ⟨w.heap.size, 0, none⟩) hlt).trans h0
         have c1 := (hS.cell (p := ⟨w.heap.size, 1, none⟩) hlt).trans h1
         have c2 := (hS.cell (p := ⟨w.heap.size, 2, none⟩) hlt).trans h2
         go_wp2_with (first | (go_at_call 47; refine (inoBlocks_any a l c hl HI.out _ (HX.out.below hS)).mono ?_; rintro e w3 ⟨rfl, h3⟩) | (go_at_call 48; refine (blocks_any size _ (by omega) (by omega)).mono ?_; rintro e w3 ⟨rfl, rfl⟩))
         exact ⟨rfl, by first | exact hS | exact hS.trans (Below.mono (by assumption) hS.size)⟩
       focus exact ⟨_, rfl⟩)
  refine RR_end fun w2 hS => ?_
  have HS := Lib.hid hS
  clear hS
  go_wp2
  go_ret
  exact ⟨rfl, HB0.out.trans (HS.out.mono (by omega))⟩

theorem inoCheck_c2 (name : ByteArray) (size : Int) (a : Option Addr) (l : List Ext) (c : Nat) (hn : name.size ≤ 9223372036854775807) (hsz : -9223372036854775808 ≤ size) (hsz2 : size ≤ 9223372036854775807)
    (hl : l.length * 16 ≤ 140737488351232) (hi : ExtsI64 l) (w : World) (hx : SlE w a l)
    (hd1 : decide ((name.size : Int) < 1) = false) (hd2 : decide (96 < (name.size : Int)) = true) :
    Calls Try.prog 16 #[.agg #[.string name, .int .i64 size, .slice a l.length c]] w (Ret w (.int .i64 2)) := by
  have hb0 : Below w.heap.size w (w.alloc (.cells #[.string name, .int .i64 size, .slice a l.length c] 27)) := (Below.refl _ _).alloc (Nat.le_refl _) _
  have HX := Lib.hid (hx.below hb0)
  have HI := Lib.hid hi
  have HB0 := Lib.hid hb0
  clear hx hi hb0
  go_enter Try.func16, Try.ntmps16
  go_wp2
  generalize hwo : w.alloc (.cells #[.string name, .int .i64 size, .slice a l.length c] 27) = wo at *
  have h0 : wo.cell? ⟨w.heap.size, 0, none⟩ = some (.string name) := by rw [← hwo, cell_of_row _ _ _ _ _ _ (heap_alloc_last w _)]; rfl
  have h1 : wo.cell? ⟨w.heap.size, 1, none⟩ = some (.int .i64 size) := by rw [← hwo, cell_of_row _ _ _ _ _ _ (heap_alloc_last w _)]; rfl
  have h2 : wo.cell? ⟨w.heap.size, 2, none⟩ = some (.slice a l.length c) := by rw [← hwo, cell_of_row _ _ _ _ _ _ (heap_alloc_last w _)]; rfl
  have hlt : w.heap.size < wo.heap.size := by rw [← hwo]; simp
  clear hwo
  refine wp_region_rr 35 (fun w' => Below wo.heap.size wo w') (by kernel_rfl) (by kernel_rfl) (Below.refl _ _).drew ?_
  repeat
    first
    | (apply RR_skip
       focus rfl
       focus (simp only [Act.put, List.setIfInBounds_toArray, List.set_cons_zero, List.set_cons_succ]; rfl))
    | (apply RR_run
       focus rfl
       focus
         intro w2 hS
         have c0 := (hS.cell (p := ⟨w.heap.size, 0, none⟩) hlt).trans h0
         have c1 := (hS.cell (p := ⟨w.heap.size, 1, none⟩) hlt).trans h1
         have c2 := (hS.cell (p := ⟨w.heap.size, 2, none⟩) hlt).trans h2
         go_wp2_with (first | (go_at_call 47; refine (inoBlocks_any a l c hl HI.out _ (HX.out.below hS)).mono ?_; rintro e w3 ⟨rfl, h3⟩) | (go_at_call 48; refine (blocks_any size _ (by omega) (by omega)).mono ?_; rintro e w3 ⟨rfl, rfl⟩))
         exact ⟨rfl, by first | exact hS | exact hS.trans (Below.mono (by assumption) hS.size)⟩
       focus exact ⟨_, rfl⟩)
  refine RR_end fun w2 hS => ?_
  have HS := Lib.hid hS
  clear hS
  go_wp2
  go_ret
  exact ⟨rfl, HB0.out.trans (HS.out.mono (by omega))⟩

theorem inoCheck_c3 (name : ByteArray) (size : Int) (a : Option Addr) (l : List Ext) (c : Nat) (hn : name.size ≤ 9223372036854775807) (hsz : -9223372036854775808 ≤ size) (hsz2 : size ≤ 9223372036854775807)
    (hl : l.length * 16 ≤ 140737488351232) (hi : ExtsI64 l) (w : World) (hx : SlE w a l)
    (hd1 : decide ((name.size : Int) < 1) = false) (hd2 : decide (96 < (name.size : Int)) = false) (hd3 : decide (size < 0) = true) :
    Calls Try.prog 16 #[.agg #[.string name, .int .i64 size, .slice a l.length c]] w (Ret w (.int .i64 2)) := by
  have hb0 : Below w.heap.size w (w.alloc (.cells #[.string name, .int .i64 size, .slice a l.length c] 27)) := (Below.refl _ _).alloc (Nat.le_refl _) _
  have HX := Lib.hid (hx.below hb0)
  have HI := Lib.hid hi
  have HB0 := Lib.hid hb0
  clear hx hi hb0
  go_enter Try.func16, Try.ntmps16
  go_wp2
  generalize hwo : w.alloc (.cells #[.string name, .int .i64 size, .slice a l.length c] 27) = wo at *
  have h0 : wo.cell? ⟨w.heap.size, 0, none⟩ = some (.string name) := by rw [← hwo, cell_of_row _ _ _ _ _ _ (heap_alloc_last w _)]; rfl
  have h1 : wo.cell? ⟨w.heap.size, 1, none⟩ = some (.int .i64 size) := by rw [← hwo, cell_of_row _ _ _ _ _ _ (heap_alloc_last w _)]; rfl
  have h2 : wo.cell? ⟨w.heap.size, 2, none⟩ = some (.slice a l.length c) := by rw [← hwo, cell_of_row _ _ _ _ _ _ (heap_alloc_last w _)]; rfl
  have hlt : w.heap.size < wo.heap.size := by rw [← hwo]; simp
  clear hwo
  refine wp_region_rr 35 (fun w' => Below wo.heap.size wo w') (by kernel_rfl) (by kernel_rfl) (Below.refl _ _).drew ?_
  repeat
    first
    | (apply RR_skip
       focus rfl
       focus (simp only [Act.put, List.setIfInBounds_toArray, List.set_cons_zero, List.set_cons_succ]; rfl))
    | (apply RR_run
       focus rfl
       focus
         intro w2 hS
         have c0 := (hS.cell (p := ⟨w.heap.size, 0, none⟩) hlt).trans h0
         have c1 := (hS.cell (p := ⟨w.heap.size, 1, none⟩) hlt).trans h1
         have c2 := (hS.cell (p := ⟨w.heap.size, 2, none⟩) hlt).trans h2
         go_wp2_with (first | (go_at_call 47; refine (inoBlocks_any a l c hl HI.out _ (HX.out.below hS)).mono ?_; rintro e w3 ⟨rfl, h3⟩) | (go_at_call 48; refine (blocks_any size _ (by omega) (by omega)).mono ?_; rintro e w3 ⟨rfl, rfl⟩))
         exact ⟨rfl, by first | exact hS | exact hS.trans (Below.mono (by assumption) hS.size)⟩
       focus exact ⟨_, rfl⟩)
  refine RR_end fun w2 hS => ?_
  have HS := Lib.hid hS
  clear hS
  go_wp2
  go_ret
  exact ⟨rfl, HB0.out.trans (HS.out.mono (by omega))⟩

theorem inoCheck_c4 (name : ByteArray) (size : Int) (a : Option Addr) (l : List Ext) (c : Nat) (hn : name.size ≤ 9223372036854775807) (hsz : -9223372036854775808 ≤ size) (hsz2 : size ≤ 9223372036854775807)
    (hl : l.length * 16 ≤ 140737488351232) (hi : ExtsI64 l) (w : World) (hx : SlE w a l)
    (hd1 : decide ((name.size : Int) < 1) = false) (hd2 : decide (96 < (name.size : Int)) = false) (hd3 : decide (size < 0) = false) (hd4 : decide (65536 < size) = true) :
    Calls Try.prog 16 #[.agg #[.string name, .int .i64 size, .slice a l.length c]] w (Ret w (.int .i64 2)) := by
  have hb0 : Below w.heap.size w (w.alloc (.cells #[.string name, .int .i64 size, .slice a l.length c] 27)) := (Below.refl _ _).alloc (Nat.le_refl _) _
  have HX := Lib.hid (hx.below hb0)
  have HI := Lib.hid hi
  have HB0 := Lib.hid hb0
  clear hx hi hb0
  go_enter Try.func16, Try.ntmps16
  go_wp2
  generalize hwo : w.alloc (.cells #[.string name, .int .i64 size, .slice a l.length c] 27) = wo at *
  have h0 : wo.cell? ⟨w.heap.size, 0, none⟩ = some (.string name) := by rw [← hwo, cell_of_row _ _ _ _ _ _ (heap_alloc_last w _)]; rfl
  have h1 : wo.cell? ⟨w.heap.size, 1, none⟩ = some (.int .i64 size) := by rw [← hwo, cell_of_row _ _ _ _ _ _ (heap_alloc_last w _)]; rfl
  have h2 : wo.cell? ⟨w.heap.size, 2, none⟩ = some (.slice a l.length c) := by rw [← hwo, cell_of_row _ _ _ _ _ _ (heap_alloc_last w _)]; rfl
  have hlt : w.heap.size < wo.heap.size := by rw [← hwo]; simp
  clear hwo
  refine wp_region_rr 35 (fun w' => Below wo.heap.size wo w') (by kernel_rfl) (by kernel_rfl) (Below.refl _ _).drew ?_
  repeat
    first
    | (apply RR_skip
       focus rfl
       focus (simp only [Act.put, List.setIfInBounds_toArray, List.set_cons_zero, List.set_cons_succ]; rfl))
    | (apply RR_run
       focus rfl
       focus
         intro w2 hS
         have c0 := (hS.cell (p := ⟨w.heap.size, 0, none⟩) hlt).trans h0
         have c1 := (hS.cell (p := ⟨w.heap.size, 1, none⟩) hlt).trans h1
         have c2 := (hS.cell (p := ⟨w.heap.size, 2, none⟩) hlt).trans h2
         go_wp2_with (first | (go_at_call 47; refine (inoBlocks_any a l c hl HI.out _ (HX.out.below hS)).mono ?_; rintro e w3 ⟨rfl, h3⟩) | (go_at_call 48; refine (blocks_any size _ (by omega) (by omega)).mono ?_; rintro e w3 ⟨rfl, rfl⟩))
         exact ⟨rfl, by first | exact hS | exact hS.trans (Below.mono (by assumption) hS.size)⟩
       focus exact ⟨_, rfl⟩)
  refine RR_end fun w2 hS => ?_
  have HS := Lib.hid hS
  clear hS
  go_wp2
  go_ret
  exact ⟨rfl, HB0.out.trans (HS.out.mono (by omega))⟩

theorem inoCheck_c5 (name : ByteArray) (size : Int) (a : Option Addr) (l : List Ext) (c : Nat) (hn : name.size ≤ 9223372036854775807) (hsz : -9223372036854775808 ≤ size) (hsz2 : size ≤ 9223372036854775807)
    (hl : l.length * 16 ≤ 140737488351232) (hi : ExtsI64 l) (w : World) (hx : SlE w a l)
    (hd1 : decide ((name.size : Int) < 1) = false) (hd2 : decide (96 < (name.size : Int)) = false) (hd3 : decide (size < 0) = false) (hd4 : decide (65536 < size) = false) (hd5 : decide (8 < (l.length : Int)) = true) :
    Calls Try.prog 16 #[.agg #[.string name, .int .i64 size, .slice a l.length c]] w (Ret w (.int .i64 2)) := by
  have hb0 : Below w.heap.size w (w.alloc (.cells #[.string name, .int .i64 size, .slice a l.length c] 27)) := (Below.refl _ _).alloc (Nat.le_refl _) _
  have HX := Lib.hid (hx.below hb0)
  have HI := Lib.hid hi
  have HB0 := Lib.hid hb0
  clear hx hi hb0
  go_enter Try.func16, Try.ntmps16
  go_wp2
  generalize hwo : w.alloc (.cells #[.string name, .int .i64 size, .slice a l.length c] 27) = wo at *
  have h0 : wo.cell? ⟨w.heap.size, 0, none⟩ = some (.string name) := by rw [← hwo, cell_of_row _ _ _ _ _ _ (heap_alloc_last w _)]; rfl
  have h1 : wo.cell? ⟨w.heap.size, 1, none⟩ = some (.int .i64 size) := by rw [← hwo, cell_of_row _ _ _ _ _ _ (heap_alloc_last w _)]; rfl
  have h2 : wo.cell? ⟨w.heap.size, 2, none⟩ = some (.slice a l.length c) := by rw [← hwo, cell_of_row _ _ _ _ _ _ (heap_alloc_last w _)]; rfl
  have hlt : w.heap.size < wo.heap.size := by rw [← hwo]; simp
  clear hwo
  refine wp_region_rr 35 (fun w' => Below wo.heap.size wo w') (by kernel_rfl) (by kernel_rfl) (Below.refl _ _).drew ?_
  repeat
    first
    | (apply RR_skip
       focus rfl
       focus (simp only [Act.put, List.setIfInBounds_toArray, List.set_cons_zero, List.set_cons_succ]; rfl))
    | (apply RR_run
       focus rfl
       focus
         intro w2 hS
         have c0 := (hS.cell (p := ⟨w.heap.size, 0, none⟩) hlt).trans h0
         have c1 := (hS.cell (p := ⟨w.heap.size, 1, none⟩) hlt).trans h1
         have c2 := (hS.cell (p := ⟨w.heap.size, 2, none⟩) hlt).trans h2
         go_wp2_with (first | (go_at_call 47; refine (inoBlocks_any a l c hl HI.out _ (HX.out.below hS)).mono ?_; rintro e w3 ⟨rfl, h3⟩) | (go_at_call 48; refine (blocks_any size _ (by omega) (by omega)).mono ?_; rintro e w3 ⟨rfl, rfl⟩))
         exact ⟨rfl, by first | exact hS | exact hS.trans (Below.mono (by assumption) hS.size)⟩
       focus exact ⟨_, rfl⟩)
  refine RR_end fun w2 hS => ?_
  have HS := Lib.hid hS
  clear hS
  go_wp2
  go_ret
  exact ⟨rfl, HB0.out.trans (HS.out.mono (by omega))⟩

theorem inoCheck_c6 (name : ByteArray) (size : Int) (a : Option Addr) (l : List Ext) (c : Nat) (hn : name.size ≤ 9223372036854775807) (hsz : -9223372036854775808 ≤ size) (hsz2 : size ≤ 9223372036854775807)
    (hl : l.length * 16 ≤ 140737488351232) (hi : ExtsI64 l) (w : World) (hx : SlE w a l)
    (hd1 : decide ((name.size : Int) < 1) = false) (hd2 : decide (96 < (name.size : Int)) = false) (hd3 : decide (size < 0) = false) (hd4 : decide (65536 < size) = false) (hd5 : decide (8 < (l.length : Int)) = false) (b : Bool)
    (hbe : (blk l != blocksOf size) = b) :
    Calls Try.prog 16 #[.agg #[.string name, .int .i64 size, .slice a l.length c]] w (Ret w (.int .i64 (if b then 2 else 0))) := by
  have hb0 : Below w.heap.size w (w.alloc (.cells #[.string name, .int .i64 size, .slice a l.length c] 27)) := (Below.refl _ _).alloc (Nat.le_refl _) _
  have HX := Lib.hid (hx.below hb0)
  have HI := Lib.hid hi
  have HB0 := Lib.hid hb0
  clear hx hi hb0
  cases b
  all_goals
    go_enter Try.func16, Try.ntmps16
    go_wp2
    generalize hwo : w.alloc (.cells #[.string name, .int .i64 size, .slice a l.length c] 27) = wo at *
    have h0 : wo.cell? ⟨w.heap.size, 0, none⟩ = some (.string name) := by rw [← hwo, cell_of_row _ _ _ _ _ _ (heap_alloc_last w _)]; rfl
    have h1 : wo.cell? ⟨w.heap.size, 1, none⟩ = some (.int .i64 size) := by rw [← hwo, cell_of_row _ _ _ _ _ _ (heap_alloc_last w _)]; rfl
    have h2 : wo.cell? ⟨w.heap.size, 2, none⟩ = some (.slice a l.length c) := by rw [← hwo, cell_of_row _ _ _ _ _ _ (heap_alloc_last w _)]; rfl
    have hlt : w.heap.size < wo.heap.size := by rw [← hwo]; simp
    clear hwo
    refine wp_region_rr 35 (fun w' => Below wo.heap.size wo w') (by kernel_rfl) (by kernel_rfl) (Below.refl _ _).drew ?_
    repeat
      first
      | (apply RR_skip
         focus rfl
         focus (simp only [Act.put, List.setIfInBounds_toArray, List.set_cons_zero, List.set_cons_succ]; rfl))
      | (apply RR_run
         focus rfl
         focus
           intro w2 hS
           have c0 := (hS.cell (p := ⟨w.heap.size, 0, none⟩) hlt).trans h0
           have c1 := (hS.cell (p := ⟨w.heap.size, 1, none⟩) hlt).trans h1
           have c2 := (hS.cell (p := ⟨w.heap.size, 2, none⟩) hlt).trans h2
           go_wp2_with (first | (go_at_call 47; refine (inoBlocks_any a l c hl HI.out _ (HX.out.below hS)).mono ?_; rintro e w3 ⟨rfl, h3⟩) | (go_at_call 48; refine (blocks_any size _ (by omega) (by omega)).mono ?_; rintro e w3 ⟨rfl, rfl⟩))
           exact ⟨rfl, by first | exact hS | exact hS.trans (Below.mono (by assumption) hS.size)⟩
         focus exact ⟨_, rfl⟩)
    refine RR_end fun w2 hS => ?_
    have HS := Lib.hid hS
    clear hS
    go_wp2
    go_ret
    exact ⟨rfl, HB0.out.trans (HS.out.mono (by omega))⟩

theorem inoCheck_any (name : ByteArray) (size : Int) (a : Option Addr) (l : List Ext) (c : Nat) (hn : name.size ≤ 9223372036854775807) (hsz : -9223372036854775808 ≤ size) (hsz2 : size ≤ 9223372036854775807)
    (hl : l.length * 16 ≤ 140737488351232) (hi : ExtsI64 l) (w : World) (hx : SlE w a l) :
    Calls Try.prog 16 #[.agg #[.string name, .int .i64 size, .slice a l.length c]] w (Ret w (.int .i64 (inoCheck ⟨name, size, l⟩))) := by
  rw [inoCheck_if]
  simp only
  by_cases h1 : name.size < 1
  · rw [if_neg (by omega)]
    exact inoCheck_c1 name size a l c hn hsz hsz2 hl hi w hx (by simp; omega)
  by_cases h2 : 96 < name.size
  · rw [if_neg (by omega)]
    exact inoCheck_c2 name size a l c hn hsz hsz2 hl hi w hx (by simp; omega) (by simp; omega)
  by_cases h3 : size < 0
  · rw [if_neg (by omega)]
    exact inoCheck_c3 name size a l c hn hsz hsz2 hl hi w hx (by simp; omega) (by simp; omega) (by simp; omega)
  by_cases h4 : 65536 < size
  · rw [if_neg (by omega)]
    exact inoCheck_c4 name size a l c hn hsz hsz2 hl hi w hx (by simp; omega) (by simp; omega) (by simp; omega) (by simp; omega)
  by_cases h5 : 8 < l.length
  · rw [if_neg (by omega)]
    exact inoCheck_c5 name size a l c hn hsz hsz2 hl hi w hx (by simp; omega) (by simp; omega) (by simp; omega) (by simp; omega) (by simp; omega)
  have := inoCheck_c6 name size a l c hn hsz hsz2 hl hi w hx (by simp; omega) (by simp; omega) (by simp; omega) (by simp; omega) (by simp; omega) _ rfl
  by_cases h6 : blk l = blocksOf size
  · rw [if_pos ⟨by omega, by omega, by omega, by omega, by omega, h6⟩]
    rwa [if_neg (by simp [h6])] at this
  · rw [if_neg (by intro h; exact h6 h.2.2.2.2.2)]
    rwa [if_pos (by simp [h6])] at this
theorem mkS_append (l m : List UInt8) : (⟨l.toArray⟩ : ByteArray) ++ ⟨m.toArray⟩ = ⟨(l ++ m).toArray⟩ := by
  apply ByteArray.ext
  rw [ByteArray.data_append]
  simp

attribute [local go_sem] mkS_append length_putB List.length_append

theorem putBad_any (name : ByteArray) (size : Int) (a : Option Addr) (l : List Ext) (c : Nat) (hn : name.size ≤ 9223372036854775807) (hsz : -9223372036854775808 ≤ size) (hsz2 : size ≤ 9223372036854775807)
    (hl : l.length * 16 ≤ 140737488351232) (hi : ExtsI64 l) (w : World) (hx : SlE w a l) (hbad : inoOk ⟨name, size, l⟩ = false) :
    Calls Try.prog 18 #[.agg #[.string name, .int .i64 size, .slice a l.length c]] w (Ret w (.tuple #[.string ⟨#[]⟩, .int .i64 2])) := by
  have hb0 : Below w.heap.size w (w.alloc (.cells #[.string name, .int .i64 size, .slice a l.length c] 27)) := (Below.refl _ _).alloc (Nat.le_refl _) _
  have hc := inoCheck_any name size a l c hn hsz hsz2 hl hi _ (hx.below hb0)
  rw [show inoCheck ⟨name, size, l⟩ = 2 from by simp [inoCheck, hbad]] at hc
  have HC := Lib.hid hc
  have HB0 := Lib.hid hb0
  clear hc hb0 hx hi
  go_enter Try.func18, Try.ntmps18
  go_wp2_with fail
  refine HC.out.mono ?_
  rintro e w1 ⟨rfl, hb1⟩
  have HB1 := Lib.hid hb1
  clear hb1
  go_wp2
  go_ret2
  exact ⟨rfl, HB0.out.trans (HB1.out.mono (by simp))⟩

def byteAt (x : Int) : Spec := fun v w => ∃ b, v = .slice (some ⟨b, 0, none⟩) 1 1 ∧ w.cell? ⟨b, 0, none⟩ = some (.int .u8 x)
theorem byteAt_stable (x : Int) : Stable (byteAt x) := fun v w w' ⟨b, hv, hc⟩ hg => ⟨b, hv, (hg.cell (p := ⟨b, 0, none⟩) (World.block_lt_of_cell? w _ hc)).trans hc⟩

theorem putOk_any (name : ByteArray) (size : Int) (a : Option Addr) (l : List Ext) (c : Nat) (hi : ExtsI64 l) (w : World) (hx : SlE w a l) (hok : inoOk ⟨name, size, l⟩ = true) :
    Calls Try.prog 18 #[.agg #[.string name, .int .i64 size, .slice a l.length c]] w (Ret w (.tuple #[.string ⟨(inoBytes ⟨name, size, l⟩).toArray⟩, .int .i64 0])) := by
  have hext := inoOk_ext hok
  simp only at hext
  obtain ⟨h1, h2, h3, h4, h5, h6⟩ := (inoOk_iff _).1 hok
  simp only at h1 h2 h3 h4 h5
  clear h6
  have hb0 : Below w.heap.size w (w.alloc (.cells #[.string name, .int .i64 size, .slice a l.length c] 27)) := (Below.refl _ _).alloc (Nat.le_refl _) _
  have hc := inoCheck_any name size a l c (by omega) (by omega) (by omega) (by omega) hi _ (hx.below hb0)
  rw [show inoCheck ⟨name, size, l⟩ = 0 from by simp [inoCheck, hok]] at hc
  have HC := Lib.hid hc
  have HB0 := Lib.hid hb0
  have HX := Lib.hid hx
  have HE := Lib.hid hext
  have HO := Lib.hid hok
  clear hc hb0 hx hi hext hok
  go_enter Try.func18, Try.ntmps18
  go_wp2_with fail
  refine HC.out.mono ?_
  rintro e w1 ⟨rfl, hb1⟩
  have c0 : w1.cell? ⟨w.heap.size, 0, none⟩ = some (.string name) := by rw [hb1.cell (p := ⟨w.heap.size, 0, none⟩) (by simp), cell_of_row _ _ _ _ _ _ (heap_alloc_last w _)]; rfl
  have c1 : w1.cell? ⟨w.heap.size, 1, none⟩ = some (.int .i64 size) := by rw [hb1.cell (p := ⟨w.heap.size, 1, none⟩) (by simp), cell_of_row _ _ _ _ _ _ (heap_alloc_last w _)]; rfl
  have c2 : w1.cell? ⟨w.heap.size, 2, none⟩ = some (.slice a l.length c) := by rw [hb1.cell (p := ⟨w.heap.size, 2, none⟩) (by simp), cell_of_row _ _ _ _ _ _ (heap_alloc_last w _)]; rfl
  have hlt : w.heap.size < w1.heap.size := by have := hb1.size; simp at this; omega
  have hbw : Below w.heap.size w w1 := HB0.out.trans (hb1.mono (by simp))
  have HB1 := Lib.hid hbw
  clear hb1 hbw
  go_wp2
  obtain ⟨w0, rfl⟩ : ∃ w0 : World, w0 = w1 := ⟨_, rfl⟩
  go_loopw [5, 17] (fun x i wr => ∃ k : Nat, k ≤ l.length ∧ i = .int .i64 k ∧ x = .string ⟨(extsB (l.take k)).toArray⟩ ∧ Below w0.heap.size w0 wr) (fun _ i _ => l.length - (intOf i).toNat)
  case atStart => exact ⟨0, by omega, rfl, rfl, Below.refl _ _⟩
  case round =>
    obtain ⟨k, hk, rfl, rfl, hb⟩ := hrel
    by_cases hlk : k < l.length
    · have hcc := HX.out.below (HB1.out.trans (hb.mono (by omega)))
      obtain ⟨b, off, rfl, g1, g2⟩ := hcc k hlk
      have hok := (extOk_iff _).1 (HE.out l[k] (List.getElem_mem hlk))
      have hls : (extsB (l.take k)).length ≤ 32 := by rw [length_extsB]; simp; omega
      have HN := Lib.hid (show extsB (l.take (k + 1)) = extsB (l.take k) ++ (putB 2 l[k].first.toNat ++ putB 2 l[k].count.toNat) by
        rw [List.take_succ_eq_append_getElem hlk]
        simp only [extsB, List.flatMap_append, List.flatMap_cons, List.flatMap_nil, List.append_nil, extB])
      generalize extsB (l.take k) = s at *
      generalize l[k] = x at *
      obtain ⟨f, n⟩ := x
      simp only at g1 g2 hok
      obtain ⟨q1, q2, q3, q4⟩ := hok
      obtain ⟨f, rfl⟩ := Int.eq_ofNat_of_zero_le q1
      obtain ⟨n, rfl⟩ := Int.eq_ofNat_of_zero_le (show (0 : Int) ≤ n by omega)
      go_wp2
      generalize hwo : wr.alloc (.cells #[.int .i64 (f : Int), .int .i64 (n : Int)] 38) = wo at *
      have d0 : wo.cell? ⟨wr.heap.size, 0, none⟩ = some (.int .i64 (f : Int)) := by rw [← hwo, cell_of_row _ _ _ _ _ _ (heap_alloc_last wr _)]; rfl
      have d1 : wo.cell? ⟨wr.heap.size, 1, none⟩ = some (.int .i64 (n : Int)) := by rw [← hwo, cell_of_row _ _ _ _ _ _ (heap_alloc_last wr _)]; rfl
      have hlt2 : wr.heap.size < wo.heap.size := by rw [← hwo]; simp
      have HB2 := Lib.hid (show Below w0.heap.size w0 wo by rw [← hwo]; exact hb.trans ((Below.refl _ _).alloc hb.size _))
      clear hwo
      have HP1 := Lib.hid (fun w : World => put_any f (by omega) 2 2 rfl (by omega) (by omega) w)
      have HP2 := Lib.hid (fun w : World => put_any n (by omega) 2 2 rfl (by omega) (by omega) w)
      refine wp_region_rr 12 (fun w' => Below wo.heap.size wo w') (by kernel_rfl) (by kernel_rfl) (Below.refl _ _).drew ?_
      repeat
        apply RR_run
        focus rfl
        focus
          intro w2 hS
          have e0 := (hS.cell (p := ⟨wr.heap.size, 0, none⟩) hlt2).trans d0
          have e1 := (hS.cell (p := ⟨wr.heap.size, 1, none⟩) hlt2).trans d1
          go_wp2_with (first | ((with_reducible refine (HP1.out _).mono ?_); rintro e w3 ⟨rfl, h3⟩) | ((with_reducible refine (HP2.out _).mono ?_); rintro e w3 ⟨rfl, h3⟩))
          exact ⟨rfl, by first | exact hS | exact hS.trans (Below.mono (by assumption) hS.size)⟩
        focus exact ⟨_, rfl⟩
      refine RR_end fun w2 hS => ?_
      go_wp2
      go_roundw
      case rel => exact ⟨k + 1, by omega, by go_num, by rw [HN.out]; simp, HB2.out.trans (hS.mono HB2.out.size)⟩
      case measure => simp [intOf]; omega
    · obtain rfl : k = l.length := by omega
      rw [List.take_length]
      have hls : (extsB l).length ≤ 32 := by rw [length_extsB]; omega
      have HXB := Lib.hid (show extsB l = extsB l from rfl)
      generalize hxb : extsB l = s at *
      have hxb := Lib.hid hxb
      have g0 := (hb.cell (p := ⟨w.heap.size, 0, none⟩) hlt).trans c0
      have g1 := (hb.cell (p := ⟨w.heap.size, 1, none⟩) hlt).trans c1
      have g2 := (hb.cell (p := ⟨w.heap.size, 2, none⟩) hlt).trans c2
      have hlt2 : w.heap.size < wr.heap.size := by have := hb.size; omega
      have HB2 := Lib.hid (HB1.out.trans (hb.mono (by omega)))
      clear c0 c1 c2 hb
      obtain ⟨z, rfl⟩ := Int.eq_ofNat_of_zero_le h3
      have HP1 := Lib.hid (fun w : World => padded_any name 96 96 rfl h2 (by omega) w)
      have HP2 := Lib.hid (fun w : World => put_any z (by omega) 4 4 rfl (by omega) (by omega) w)
      have HP3 := Lib.hid (fun w : World => padded_any ⟨s.toArray⟩ 32 32 rfl (by show s.toArray.size ≤ 32; simpa using hls) (by omega) w)
      have hpl1 : (padTo 96 name.data.toList).length = 96 := length_padTo 96 _ (by simpa using h2)
      have hpl2 : (padTo 32 s).length = 32 := length_padTo 32 _ hls
      go_wp2
      refine wp_region_rr2 26 (fun w' => Below wr.heap.size wr w') (by kernel_rfl) (by kernel_rfl) (fun w w' h g => h.trans (g.mono h.size)) (Below.refl _ _).drew ?_
      repeat
        apply RR2_run
        focus rfl
        focus rfl
        focus rfl
        focus
          intro w2 hS
          have e0 := (hS.cell (p := ⟨w.heap.size, 0, none⟩) hlt2).trans g0
          have e1 := (hS.cell (p := ⟨w.heap.size, 1, none⟩) hlt2).trans g1
          have e2 := (hS.cell (p := ⟨w.heap.size, 2, none⟩) hlt2).trans g2
          go_wp2_with (first | ((with_reducible refine (HP1.out _).mono ?_); rintro e w3 ⟨rfl, h3⟩) | ((with_reducible refine (HP2.out _).mono ?_); rintro e w3 ⟨rfl, h3⟩) | ((with_reducible refine (HP3.out _).mono ?_); rintro e w3 ⟨rfl, h3⟩))
          exact ⟨rfl, by first | exact Grew.refl _ | assumption⟩
        focus exact ⟨_, rfl⟩
      refine RR2_mk (byteAt (name.size : Int)) 37 rfl (byteAt_stable _) (by simp) rfl rfl rfl (fun w2 hS => ?_) ?_
      focus
        go_wp2
        refine ⟨⟨_, rfl, _, rfl, ?_⟩, (Below.refl _ _).alloc (Nat.le_refl _) _⟩
        rw [cell_of_row _ _ _ _ _ _ (heap_alloc_last w2 _)]
        rfl
      apply RR2_use (4, 37, byteAt (name.size : Int)) (.string ⟨[UInt8.ofNat (name.size % 256)].toArray⟩)
      focus simp
      focus kernel_rfl
      focus rfl
      focus rfl
      focus simp
      focus rfl
      focus
        intro v w2 hS hv
        obtain ⟨b, rfl, hcb⟩ := hv
        refine ⟨rfl, ?_⟩
        have hst := run_string_of (w := w2) (a := ⟨b, 0, none⟩) (n := 1) (c := 1) (l := [UInt8.ofNat (name.size % 256)]) rfl (fun j u hu => by
          cases j with
          | zero =>
            simp only [bytesV, List.map_cons, List.map_nil, List.getElem?_cons_zero, Option.some.injEq] at hu
            subst hu
            rw [toNat_ofNat_lt (Nat.mod_lt _ (by decide)), Nat.mod_eq_of_lt (by omega)]
            simpa [Addr.add] using hcb
          | succ j => simp [bytesV] at hu)
        simp only [Act.put, List.setIfInBounds_toArray, List.set_cons_zero, List.set_cons_succ]
        go_wp2
        exact ⟨rfl, Grew.refl _⟩
      focus (simp only [Act.put, List.setIfInBounds_toArray, List.set_cons_zero, List.set_cons_succ]; rfl)
      repeat
        apply RR2_run
        focus rfl
        focus rfl
        focus rfl
        focus
          intro w2 hS
          have e0 := (hS.cell (p := ⟨w.heap.size, 0, none⟩) hlt2).trans g0
          have e1 := (hS.cell (p := ⟨w.heap.size, 1, none⟩) hlt2).trans g1
          have e2 := (hS.cell (p := ⟨w.heap.size, 2, none⟩) hlt2).trans g2
          go_wp2_with (first | ((with_reducible refine (HP1.out _).mono ?_); rintro e w3 ⟨rfl, h3⟩) | ((with_reducible refine (HP2.out _).mono ?_); rintro e w3 ⟨rfl, h3⟩) | ((with_reducible refine (HP3.out _).mono ?_); rintro e w3 ⟨rfl, h3⟩))
          exact ⟨rfl, by first | exact Grew.refl _ | assumption⟩
        focus exact ⟨_, rfl⟩
      refine RR2_mk (byteAt (l.length : Int)) 52 rfl (byteAt_stable _) (by simp) rfl rfl rfl (fun w2 hS => ?_) ?_
      focus
        go_wp2
        refine ⟨⟨_, rfl, _, rfl, ?_⟩, (Below.refl _ _).alloc (Nat.le_refl _) _⟩
        rw [cell_of_row _ _ _ _ _ _ (heap_alloc_last w2 _)]
        rfl
      apply RR2_use (19, 52, byteAt (l.length : Int)) (.string ⟨[UInt8.ofNat (l.length % 256)].toArray⟩)
      focus simp
      focus kernel_rfl
      focus rfl
      focus rfl
      focus simp
      focus rfl
      focus
        intro v w2 hS hv
        obtain ⟨b, rfl, hcb⟩ := hv
        refine ⟨rfl, ?_⟩
        have hst := run_string_of (w := w2) (a := ⟨b, 0, none⟩) (n := 1) (c := 1) (l := [UInt8.ofNat (l.length % 256)]) rfl (fun j u hu => by
          cases j with
          | zero =>
            simp only [bytesV, List.map_cons, List.map_nil, List.getElem?_cons_zero, Option.some.injEq] at hu
            subst hu
            rw [toNat_ofNat_lt (Nat.mod_lt _ (by decide)), Nat.mod_eq_of_lt (by omega)]
            simpa [Addr.add] using hcb
          | succ j => simp [bytesV] at hu)
        simp only [Act.put, List.setIfInBounds_toArray, List.set_cons_zero, List.set_cons_succ]
        go_wp2
        exact ⟨rfl, Grew.refl _⟩
      focus (simp only [Act.put, List.setIfInBounds_toArray, List.set_cons_zero, List.set_cons_succ]; rfl)
      repeat
        apply RR2_run
        focus rfl
        focus rfl
        focus rfl
        focus
          intro w2 hS
          have e0 := (hS.cell (p := ⟨w.heap.size, 0, none⟩) hlt2).trans g0
          have e1 := (hS.cell (p := ⟨w.heap.size, 1, none⟩) hlt2).trans g1
          have e2 := (hS.cell (p := ⟨w.heap.size, 2, none⟩) hlt2).trans g2
          go_wp2_with (first | ((with_reducible refine (HP1.out _).mono ?_); rintro e w3 ⟨rfl, h3⟩) | ((with_reducible refine (HP2.out _).mono ?_); rintro e w3 ⟨rfl, h3⟩) | ((with_reducible refine (HP3.out _).mono ?_); rintro e w3 ⟨rfl, h3⟩))
          exact ⟨rfl, by first | exact Grew.refl _ | assumption⟩
        focus exact ⟨_, rfl⟩
      refine RR2_end fun ρ w2 hS hpend => ?_
      simp only [overlay, List.foldl_cons, List.foldl_nil, List.nil_append, List.cons_append, Act.put, List.setIfInBounds_toArray, List.set_cons_zero, List.set_cons_succ]
      generalize ρ 4 = v4
      generalize ρ 19 = v19
      have HB3 := Lib.hid (HB2.out.trans (hS.mono (by omega)))
      have HBd : Hid (UInt8.ofNat (name.size % 256) :: (padTo 96 name.data.toList ++ (putB 4 z ++ UInt8.ofNat (l.length % 256) :: padTo 32 s)) = inoBody ⟨name, z, l⟩) := by
        show _ = _
        simp only [inoBody, hxb.out, Int.toNat_natCast, List.append_assoc, List.cons_append, List.nil_append]
      have HLen := length_inoBody HO.out
      rw [HBd.out]
      have HY := Lib.hid (show inoBytes ⟨name, z, l⟩ = padTo 256 (inoBody ⟨name, z, l⟩ ++ putB 4 (crc (inoBody ⟨name, z, l⟩))) from rfl)
      generalize inoBody ⟨name, z, l⟩ = B at *
      clear hpend g0 g1 g2 hS
      refine wpList_nil ?_
      go_wp2_with fail
      refine (sum_any ⟨B.toArray⟩ (by show B.toArray.size ≤ _; unfold maxLen; simp; omega) _).mono ?_
      rintro e w3 ⟨rfl, h3⟩
      have hcl := crc_lt B
      rw [show (⟨B.toArray⟩ : ByteArray).data.toList = B from rfl]
      generalize crc B = cs at *
      go_wp2_with fail
      refine (put_any cs (by omega) 4 4 rfl (by omega) (by omega) _).mono ?_
      rintro e w4 ⟨rfl, h4'⟩
      go_wp2_with fail
      refine (padded_any ⟨(B ++ putB 4 cs).toArray⟩ 256 256 rfl (by show (B ++ putB 4 cs).toArray.size ≤ 256; simp [length_putB]; omega) (by omega) _).mono ?_
      rintro e w5 ⟨rfl, h5'⟩
      go_wp2
      go_ret2
      refine ⟨?_, ((HB3.out.trans (h3.mono HB3.out.size)).trans (h4'.mono (by have := HB3.out.size; have := h3.size; omega))).trans (h5'.mono (by have := HB3.out.size; have := h3.size; have := h4'.size; omega))⟩
      rw [HY.out]
      rfl

theorem inoPut_any (name : ByteArray) (size : Int) (a : Option Addr) (l : List Ext) (c : Nat) (hn : name.size ≤ 9223372036854775807) (hsz : -9223372036854775808 ≤ size) (hsz2 : size ≤ 9223372036854775807)
    (hl : l.length * 16 ≤ 140737488351232) (hi : ExtsI64 l) (w : World) (hx : SlE w a l) :
    Calls Try.prog 18 #[.agg #[.string name, .int .i64 size, .slice a l.length c]] w (Ret w (.tuple #[.string ⟨(inoPut ⟨name, size, l⟩).toArray⟩, .int .i64 (inoCheck ⟨name, size, l⟩)])) := by
  cases h : inoOk ⟨name, size, l⟩ with
  | false =>
    have := putBad_any name size a l c hn hsz hsz2 hl hi w hx h
    simpa [inoPut, inoCheck, h] using this
  | true =>
    have := putOk_any name size a l c hi w hx h
    simpa [inoPut, inoCheck, h] using this
end Go.Proofs.Ytffgjjhopopgcaa
