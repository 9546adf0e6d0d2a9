/-
  The document's Check answers as the plain law, in its two halves (early and late refusals).
-/
import Derived.Test.YtffgjjhopopgcaaInoG
namespace Go.Proofs.Ytffgjjhopopgcaa
set_option linter.unusedVariables false
set_option linter.unusedSimpArgs false
open Go.RowKit
set_option maxRecDepth 100000
set_option maxHeartbeats 2000000

theorem toList_nil (b : ByteArray) : (b.toList.isEmpty) = decide (b.size = 0) := by
  rw [ByteArray.toList_eq]
  obtain ⟨⟨x⟩⟩ := b
  cases x <;> simp [ByteArray.size]

theorem refCheck_early (nm : ByteArray) (sz : Int) (a : Option Addr) (l : List Ext) (c : Nat) (hn : nm.size ≤ 9223372036854775807) (hl : l.length * 16 ≤ 140737488351232) (w : World)
    (hbad : nm.size < 1 ∨ (1 ≤ nm.size ∧ 96 < nm.size) ∨ (1 ≤ nm.size ∧ nm.size ≤ 96 ∧ sz < 0) ∨ (1 ≤ nm.size ∧ nm.size ≤ 96 ∧ 0 ≤ sz ∧ 65536 < sz) ∨ (1 ≤ nm.size ∧ nm.size ≤ 96 ∧ 0 ≤ sz ∧ sz ≤ 65536 ∧ 8 < l.length)) :
    Calls Try.prog 20 #[.agg #[.string nm, .int .i64 sz, .slice a l.length c]] w (Ret w (.int .i64 2)) := by
  have hbn := toList_nil nm
  rcases hbad with h | h | h | h | h
  · rw [show decide (nm.size = 0) = true from decide_eq_true (by omega)] at hbn
    go_enter Try.func20, Try.ntmps20
    go_wp2
    go_ret
    exact ⟨rfl, (Below.refl _ _).alloc (Nat.le_refl _) _⟩
  all_goals
    rw [show decide (nm.size = 0) = false from decide_eq_false (by omega)] at hbn
    go_enter Try.func20, Try.ntmps20
    go_wp2
    go_ret
    exact ⟨rfl, (Below.refl _ _).alloc (Nat.le_refl _) _⟩

theorem refCheck_late (nm : ByteArray) (sz : Int) (a : Option Addr) (l : List Ext) (c : Nat) (h1 : 1 ≤ nm.size) (h2 : nm.size ≤ 96) (h3 : 0 ≤ sz) (h4 : sz ≤ 65536) (h5 : l.length ≤ 8) (hi : ExtsI64 l) (w : World) (hx : SlE w a l) :
    Calls Try.prog 20 #[.agg #[.string nm, .int .i64 sz, .slice a l.length c]] w (Ret w (.int .i64 (inoCheck ⟨nm, sz, l⟩))) := by
  have hbn := toList_nil nm
  rw [show decide (nm.size = 0) = false from decide_eq_false (by omega)] at hbn
  have HF := Lib.hid (show inoCheck ⟨nm, sz, l⟩ = if blk l = blocksOf sz then 0 else 2 by
    rw [inoCheck_if]
    simp only
    by_cases h6 : blk l = blocksOf sz
    · rw [if_pos ⟨h1, h2, h3, h4, h5, h6⟩, if_pos h6]
    · rw [if_neg (fun h => h6 h.2.2.2.2.2), if_neg h6])
  have hb0 : Below w.heap.size w (w.alloc (.cells #[.string nm, .int .i64 sz, .slice a l.length c] 31)) := (Below.refl _ _).alloc (Nat.le_refl _) _
  have HX := Lib.hid (hx.below hb0)
  have HB0 := Lib.hid hb0
  have HI := Lib.hid hi
  have hbn0 := blocksOf_nonneg sz
  clear hx hi hb0
  go_enter Try.func20, Try.ntmps20
  go_wp2
  generalize hwo : w.alloc (.cells #[.string nm, .int .i64 sz, .slice a l.length c] 31) = w0 at *
  obtain ⟨⟨c0, c1, c2⟩, _, _, _⟩ := cells3 (w := w0) (g := w.heap.size) (by rw [← hwo]; exact heap_alloc_last w _)
  have hlt0 : w.heap.size < w0.heap.size := by rw [← hwo]; simp
  clear hwo
  have C0 := Lib.hid c0
  have C1 := Lib.hid c1
  have C2 := Lib.hid c2
  clear c0 c1 c2
  go_loopw [3, 4] (fun n i wr => ∃ (k : Nat) (m : Int), k ≤ l.length ∧ i = .int .i64 k ∧ n = .int .i64 m ∧ 0 ≤ m ∧ m ≤ 4096 * k ∧ blkGo (l.take k) (l.drop k) m = blk l ∧ (∀ y ∈ l.take k, extOk y = true) ∧ Below w0.heap.size w0 wr) (fun _ i _ => l.length - (intOf i).toNat)
  case atStart => exact ⟨0, 0, by omega, rfl, rfl, by omega, by omega, rfl, by simp, Below.refl _ _⟩
  case round =>
    obtain ⟨k, m, hk, rfl, rfl, hm0, hm1, hgo, hall, hb⟩ := hrel
    obtain ⟨wo, rfl⟩ : ∃ wo : World, wo = wr := ⟨_, rfl⟩
    have hcc2 := (hb.cell (p := ⟨w.heap.size, 2, none⟩) hlt0).trans C2.out
    have hcc1 := (hb.cell (p := ⟨w.heap.size, 1, none⟩) hlt0).trans C1.out
    by_cases hlt : k < l.length
    · obtain ⟨b, off, rfl, h1', h2'⟩ := HX.out.below hb k hlt
      have hlk : l.take (k + 1) = l.take k ++ [l[k]] := List.take_succ_eq_append_getElem hlt
      have hdk : l.drop k = l[k] :: l.drop (k + 1) := List.drop_eq_getElem_cons hlt
      have hri := HI.out l[k] (List.getElem_mem hlt)
      rw [hdk] at hgo
      have HK := Lib.hid hlk
      clear hlk hdk
      generalize l[k] = x at *
      obtain ⟨f, n⟩ := x
      simp only at h1' h2' hri
      unfold inI64 at hri
      have hbig : (4096 : Int) * k ≤ 4096 * 10000000000000 := by omega
      have HG := Lib.hid hgo
      have HA := Lib.hid hall
      clear hgo hall
      by_cases hok : extOk ⟨f, n⟩ = true
      · have hok' := (extOk_iff _).1 hok
        simp only at hok'
        obtain ⟨g1, g2, g3, g4⟩ := hok'
        have hok := Lib.hid hok
        go_wp2
        go_loopw [6] (fun j wr => ∃ jn : Nat, jn ≤ k ∧ j = .int .i64 jn ∧ (∀ i (hi : i < jn) (hl : i < l.length), meets ⟨f, n⟩ l[i] = false) ∧
          wr.cell? ⟨wo.heap.size, 0, none⟩ = some (.int .i64 f) ∧ wr.cell? ⟨wo.heap.size, 1, none⟩ = some (.int .i64 n) ∧ Below (wo.heap.size + 1) (wo.alloc (.cells #[.int .i64 f, .int .i64 n] 38)) wr) (fun j _ => k - (intOf j).toNat)
        case atStart =>
          refine ⟨0, by omega, rfl, fun i hi => by omega, ?_, ?_, Below.refl _ _⟩
          · rw [cell_of_row _ _ _ _ _ _ (heap_alloc_last wo _)]; rfl
          · rw [cell_of_row _ _ _ _ _ _ (heap_alloc_last wo _)]; rfl
        case round =>
          obtain ⟨jn, hj, rfl, hno, hc0, hc1, hb3⟩ := hrel
          have hb4 : Below w0.heap.size w0 wr := (hb.trans ((Below.refl _ _).alloc hb.size _)).trans (hb3.mono (by have := hb.size; omega))
          have hd2 := (hb4.cell (p := ⟨w.heap.size, 2, none⟩) hlt0).trans C2.out
          have hs3 := hb3.size
          have hs0 := hb.size
          have hlt3 : wo.heap.size < wr.heap.size := by simp at hs3; omega
          have hne3 : ¬ wo.heap.size = wr.heap.size := by omega
          clear hs3
          by_cases hjn : jn < k
          · obtain ⟨b', off', e', q1, q2⟩ := HX.out.below hb4 jn (by omega)
            cases e'
            have hyok := (extOk_iff _).1 (HA.out l[jn] (by rw [List.mem_take_iff_getElem]; exact ⟨jn, by omega, rfl⟩))
            have HN := Lib.hid hno
            have hmem : l[jn] ∈ l.take k := by rw [List.mem_take_iff_getElem]; exact ⟨jn, by omega, rfl⟩
            have HM := Lib.hid hmem
            generalize hy : l[jn] = y at *
            have HY := Lib.hid hy
            obtain ⟨f2, n2⟩ := y
            simp only at q1 q2 hyok
            obtain ⟨y1, y2, y3, y4⟩ := hyok
            clear hno hmem hy
            by_cases t1 : f < f2 + n2
            · by_cases t2 : f2 < f + n
              · have hbad := Lib.hid (blkGo_bad (l.take k) ⟨f, n⟩ (l.drop (k + 1)) m (.inr (by unfold clash; rw [List.any_eq_true]; exact ⟨⟨f2, n2⟩, HM.out, by simp [meets]; omega⟩)))
                go_wp2
                go_ret
                exact ⟨by rw [HF.out, ← HG.out, hbad.out, if_neg (by omega)]; rfl, HB0.out.trans ((hb4.trans ((Below.refl _ _).alloc hb4.size _)).mono (by omega))⟩
              · have hnm := Lib.hid (show meets ⟨f, n⟩ ⟨f2, n2⟩ = false by simp [meets]; omega)
                go_wp2
                go_roundw
                case rel =>
                  refine ⟨jn + 1, by omega, by go_num, fun i hi hl => ?_, ?_, ?_, hb3.trans ((Below.refl _ _).alloc (by omega) _)⟩
                  · rcases Nat.lt_or_ge i jn with h | h
                    · exact HN.out i h hl
                    · obtain rfl : i = jn := by omega
                      rw [HY.out]; exact hnm.out
                  · rw [World.cell?_of_block (w := wr) (Below.heap_alloc _ _ _ (by simp only; omega))]; exact hc0
                  · rw [World.cell?_of_block (w := wr) (Below.heap_alloc _ _ _ (by simp only; omega))]; exact hc1
                case measure => simp [intOf]; omega
            · have hnm := Lib.hid (show meets ⟨f, n⟩ ⟨f2, n2⟩ = false by simp [meets]; omega)
              go_wp2
              go_roundw
              case rel =>
                refine ⟨jn + 1, by omega, by go_num, fun i hi hl => ?_, ?_, ?_, hb3.trans ((Below.refl _ _).alloc (by omega) _)⟩
                · rcases Nat.lt_or_ge i jn with h | h
                  · exact HN.out i h hl
                  · obtain rfl : i = jn := by omega
                    rw [HY.out]; exact hnm.out
                · rw [World.cell?_of_block (w := wr) (Below.heap_alloc _ _ _ (by simp only; omega))]; exact hc0
                · rw [World.cell?_of_block (w := wr) (Below.heap_alloc _ _ _ (by simp only; omega))]; exact hc1
              case measure => simp [intOf]; omega
          · obtain rfl : jn = k := by omega
            have hnc : clash (l.take jn) ⟨f, n⟩ = false := by
              unfold clash
              rw [List.any_eq_false]
              intro y hy
              rw [List.mem_take_iff_getElem] at hy
              obtain ⟨i, hi, rfl⟩ := hy
              rw [hno i (by omega) (by omega)]
              decide
            have hstep := Lib.hid (blkGo_cons (l.take jn) ⟨f, n⟩ (l.drop (jn + 1)) m hok.out hnc)
            clear hno hnc
            go_wp2
            go_roundw
            case rel =>
              refine ⟨jn + 1, m + n, by omega, by go_num, rfl, by omega, by omega, ?_, ?_, hb4⟩
              · rw [HK.out, ← HG.out, hstep.out]
              · rw [HK.out]
                intro y hy
                rcases List.mem_append.1 hy with hy | hy
                · exact HA.out y hy
                · rw [List.mem_singleton] at hy; subst hy; exact hok.out
            case measure => simp [intOf]; omega
      · have hbad := Lib.hid (blkGo_bad (l.take k) ⟨f, n⟩ (l.drop (k + 1)) m (.inl (by simpa using hok)))
        have hcs : f < 0 ∨ (0 ≤ f ∧ n < 1) ∨ (0 ≤ f ∧ 1 ≤ n ∧ 4095 < f) ∨ (0 ≤ f ∧ 1 ≤ n ∧ f ≤ 4095 ∧ 4096 - f < n) := by
          have := mt (extOk_iff ⟨f, n⟩).2 hok
          simp only at this
          omega
        clear hok
        rcases hcs with hc | hc | hc | hc
        all_goals
          go_wp2
          go_ret
          exact ⟨by rw [HF.out, ← HG.out, hbad.out, if_neg (by omega)]; rfl, HB0.out.trans ((hb.trans ((Below.refl _ _).alloc hb.size _)).mono (by omega))⟩
    · obtain rfl : k = l.length := by omega
      rw [List.drop_length] at hgo
      have HG := Lib.hid (show m = blk l from hgo)
      clear hgo hall
      have hbig : (4096 : Int) * l.length ≤ 4096 * 10000000000000 := by omega
      by_cases he : m = blocksOf sz
      · have hb1 : (m == blocksOf sz) = true := by simp [he]
        have hb2 : (m != blocksOf sz) = false := by simp [he]
        have HE := Lib.hid he
        clear he
        go_wp2_with fail
        refine (refBlocks_any sz _ (by omega) (by omega)).mono ?_
        rintro e w3 ⟨rfl, rfl⟩
        go_wp2
        go_ret
        exact ⟨by rw [HF.out, ← HG.out, if_pos HE.out]; rfl, HB0.out.trans (hb.mono (by omega))⟩
      · have hb1 : (m == blocksOf sz) = false := by simp [he]
        have hb2 : (m != blocksOf sz) = true := by simp [he]
        have HE := Lib.hid he
        clear he
        go_wp2_with fail
        refine (refBlocks_any sz _ (by omega) (by omega)).mono ?_
        rintro e w3 ⟨rfl, rfl⟩
        go_wp2
        go_ret
        exact ⟨by rw [HF.out, ← HG.out, if_neg HE.out]; rfl, HB0.out.trans (hb.mono (by omega))⟩
end Go.Proofs.Ytffgjjhopopgcaa
