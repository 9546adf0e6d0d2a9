/-
  InodesSizes answers true for every row of bytes and every size, in every world.
-/
import Derived.Test.YtffgjjhopopgcaaLTell
import Derived.Test.YtffgjjhopopgcaaInoZ
namespace Go.Proofs.Ytffgjjhopopgcaa
set_option linter.unusedVariables false
set_option linter.unusedSimpArgs false
open Go.RowKit
set_option maxRecDepth 100000
set_option maxHeartbeats 20000000

/-- A slice of bytes reads as l. -/
def SlB (w : World) (a : Option Addr) (l : List UInt8) : Prop := ∀ k (h : k < l.length), ∃ b off, a = some ⟨b, off, none⟩ ∧ w.cell? ⟨b, off + k, none⟩ = some (.int .u8 (l[k]).toNat)
theorem SlB.below {w w1 : World} {a : Option Addr} {l : List UInt8} (h : SlB w a l) (hb : Below w.heap.size w w1) : SlB w1 a l := fun k hk => by
  obtain ⟨b, off, rfl, h1⟩ := h k hk
  exact ⟨b, off, rfl, (hb.cell (p := ⟨b, off + k, none⟩) (World.block_lt_of_cell? w _ h1)).trans h1⟩

theorem extV_snoc (l : List Ext) (x : Ext) : extV (l ++ [x]) = extV l ++ [.int .i64 x.first, .int .i64 x.count] := by simp [extV]

theorem sizes_law (l : List UInt8) (a : Option Addr) (c : Nat) (sz : Nat) (hsz : sz < 65536) (hll : l.length ≤ 9223372036854775807) (w : World) (hx : SlB w a l) :
    Calls Try.prog 4 #[.slice a l.length c, .int .u16 sz] w (Ret w (.bool true)) := by
  have HF := Lib.hid filed_any
  by_cases hbig : 8 < l.length
  · have hd : decide ((8 : Int) < (l.length : Int)) = true := by simp; omega
    clear hx
    go_enter Try.func4, Try.ntmps4
    go_wp2_with fail
    refine (HF.out _).mono ?_
    rintro e w1 ⟨rfl, hb1⟩
    go_wp2
    go_ret
    exact ⟨rfl, hb1⟩
  · have hd : decide ((8 : Int) < (l.length : Int)) = false := by simp; omega
    have HX := Lib.hid hx
    clear hx
    go_enter Try.func4, Try.ntmps4
    go_wp2
    have r0 := heap_alloc_last w (.cells #[.string ⟨#[110]⟩, .int .i64 0, .slice none 0 0] 27)
    have hb0 := (Below.refl w.heap.size w).alloc (Nat.le_refl _) (.cells #[.string ⟨#[110]⟩, .int .i64 0, .slice none 0 0] 27)
    have hs0 : (w.alloc (.cells #[.string ⟨#[110]⟩, .int .i64 0, .slice none 0 0] 27)).heap.size = w.heap.size + 1 := by simp
    generalize w.alloc (.cells #[.string ⟨#[110]⟩, .int .i64 0, .slice none 0 0] 27) = w0 at *
    go_loopw [6, 7, 8] (fun p q i wr => ∃ (k : Nat) (v : Value), k ≤ l.length ∧ i = .int .i64 k ∧ p = .int .i64 ((seqOf (l.take k)).pos : Int) ∧ q = .int .i64 ((seqOf (l.take k)).all : Int) ∧
        wr.heap[w.heap.size]? = some (.cells #[.string ⟨#[110]⟩, .int .i64 0, v] 27 (0, 0)) ∧ wr.ownsRow (w.heap.size + 1) 38 2 v k (extV (seqOf (l.take k)).es) ∧ Below w.heap.size w wr) (fun _ _ i _ => l.length - (intOf i).toNat)
    case atStart => exact ⟨0, .slice none 0 0, by omega, rfl, rfl, rfl, r0, World.ownsRow_nil _ _ _ _, hb0⟩
    case round =>
      obtain ⟨k, v, hk, rfl, rfl, rfl, hh, hrow, hb⟩ := hrel
      by_cases hlk : k < l.length
      · obtain ⟨b, off, rfl, g1⟩ := HX.out.below hb k hlk
        have hok := seqOk_of l k hk (by omega)
        have hsnoc : seqOf (l.take (k + 1)) = seqStep (seqOf (l.take k)) l[k] := by
          rw [List.take_succ_eq_append_getElem hlk, seqOf_snoc]
        have HSN := Lib.hid hsnoc
        clear hsnoc
        generalize seqOf (l.take k) = S at *
        generalize l[k] = x at *
        obtain ⟨b1, b2⟩ := cnt_bounds x
        obtain ⟨n, hn⟩ : ∃ n, x.toNat % 12 = n := ⟨_, rfl⟩
        have hcnt : cnt x = 1 + n := by rw [← hn]; rfl
        have hp := hok.pos
        have ha := hok.all
        have hxl := byte_lt x
        have hn12 : n < 12 := by rw [← hn]; exact Nat.mod_lt _ (by decide)
        have HH := Lib.hid hh
        have HR := Lib.hid hrow
        have HBB := Lib.hid hb
        have HOK := Lib.hid hok
        obtain ⟨⟨c0, c1, c2⟩, f0, f1, f2⟩ := cells3 hh
        clear hh hok
        have hlt : w.heap.size < wr.heap.size := (Array.getElem?_eq_some_iff.1 HH.out).1
        have hcx : (1 + (x.toNat : Int) % 12) = ((cnt x : Nat) : Int) := by unfold cnt; omega
        have hal := (Below.refl wr.heap.size wr).alloc (Nat.le_refl _) (.cells #[.int .i64 (S.pos : Int), .int .i64 (1 + (x.toNat : Int) % 12)] 38)
        have hrow2 := ownsRow_below hrow hal
        have hlast := heap_alloc_last wr (.cells #[.int .i64 (S.pos : Int), .int .i64 (1 + (x.toNat : Int) % 12)] 38)
        have hnews : ∀ (j : Nat) (u : Value), [Value.int .i64 (S.pos : Int), .int .i64 (1 + (x.toNat : Int) % 12)][j]? = some u → (wr.alloc (.cells #[.int .i64 (S.pos : Int), .int .i64 (1 + (x.toNat : Int) % 12)] 38)).cell? ((⟨wr.heap.size, 0, none⟩ : Addr).add j) = some u := fun j u hu => by
          rw [Go.WideShapes.add_plain, Nat.zero_add, cell_of_row _ _ _ _ _ _ hlast]
          simpa using hu
        have HH2 := Lib.hid ((hal.block _ hlt).trans HH.out)
        have HN2 := Lib.hid hnews
        have HAL := Lib.hid hal
        have HCX := Lib.hid hcx
        have hws : (wr.alloc (.cells #[.int .i64 (S.pos : Int), .int .i64 (1 + (x.toNat : Int) % 12)] 38)).heap.size = wr.heap.size + 1 := by simp
        have HWS := Lib.hid hws
        have hbs := hb.size
        obtain ⟨i0, hi, hz0, hz1, hz2⟩ := info_parts info_ext
        have hz1 := Lib.hid hz1
        have hz2 := Lib.hid hz2
        have hz0 := Lib.hid hz0
        have hi := Lib.hid hi
        have hrowlt := Lib.hid hrow2.lt
        clear hnews hlast hal hcx hws hrow hb hn hcnt
        go_wp2_with (at_builtin; refine wpList_append_own _ rfl _ _ 25 rfl (w.heap.size + 1) 38 i0 _ 2 16 Try.underlying25 hi.out hz0.out hz1.out hz2.out rfl (by decide) _ _ _ rfl hrow2 ⟨wr.heap.size, 0, none⟩ 1 1 [.int .i64 (S.pos : Int), .int .i64 (1 + (x.toNat : Int) % 12)] rfl rfl HN2.out (by simp [Value.oneCell']) (by unfold maxLen; omega) (by omega) (by rw [HWS.out]; omega) ?_; intro v' w3 hown' hgrow' _; obtain ⟨g', cap', rfl⟩ := row_succ hown'; have hh3 := (hgrow'.block w.heap.size (by rw [HWS.out]; omega) (fun e => by have := (hrowlt.out _ e.symm).1; omega)).trans HH2.out; have hc3 := cell_of_row w3 w.heap.size 2 _ 27 (0, 0) hh3; have hf3 := frozen_of_row w3 w.heap.size 2 _ 27 hh3; have H3 := Lib.hid (heap_setCell_same w3 w.heap.size 2 _ 27 (.slice (some ⟨g', 0, none⟩) (k + 1) cap') hh3); have HO := Lib.hid hown'; have HG := Lib.hid hgrow'; clear hh3 hown' hgrow' c0 c1 c2 f0 f1 f2)
        go_roundw
        case rel =>
          refine ⟨k + 1, _, by omega, by go_num, ?_, ?_, H3.out, ?_, ?_⟩
          · rw [HSN.out]
            simp only [seqStep]
            congr 1 <;> (have := HCX.out; omega)
          · rw [HSN.out]
            simp only [seqStep]
            congr 1 <;> (have := HCX.out; omega)
          · rw [HSN.out]
            simp only [seqStep]
            rw [extV_snoc, ← HCX.out]
            exact ownsRow_setCell_below HO.out (Nat.lt_succ_self _) _
          · refine ((HBB.out.trans (HAL.out.mono hbs)).trans (below_of_grown HG.out (by rw [HWS.out]; omega) fun r hr => ?_)).setCell (Nat.le_refl _) _
            have := (hrowlt.out r hr).1
            omega
        case measure => simp [intOf]; omega
      · obtain rfl : k = l.length := by omega
        have hok := seqOk_of l l.length (Nat.le_refl _) (by omega)
        rw [List.take_length] at hok hrow
        simp only [List.take_length]
        generalize seqOf l = S at *
        obtain ⟨a', c', rfl⟩ := owns_slice hrow
        have hlen := hok.len
        have hsl : SlE wr a' S.es := slE_of_owns (hlen ▸ hrow)
        have hal : ∀ ad, a' = some ad → w.heap.size ≠ ad.block := fun ad e => by
          have := (hrow.lt ad.block (by rw [e]; rfl)).1
          omega
        have hei : ExtsI64 S.es := fun x hx => by
          have := (extOk_iff x).1 (blkGo_ok S.es [] 0 (by omega) (by have := hok.blk; unfold Go.Proofs.Ytffgjjhopopgcaa.blk at this; rw [this]; omega) x hx)
          simp only [inI64]
          omega
        have hall : S.all ≤ 96 := by have := hok.all; omega
        have HCK := Lib.hid (fun z z0 z1 => sizes_check hok (by omega) ⟨#[110]⟩ (by decide) (by decide) z z0 z1)
        have HC := Lib.hid (fun z h0 h1 w hx => inoCheck_any ⟨#[110]⟩ z a' S.es c' (by decide) h0 h1 (by omega) hei w hx)
        rw [hlen] at HC
        have HSL := Lib.hid hsl
        have HAL := Lib.hid hal
        clear hok hrow hei hsl hal HX
        generalize S.es = es at *
        generalize S.all = all at *
        go_wp2
        obtain ⟨w1, rfl⟩ : ∃ w1 : World, w1 = wr := ⟨_, rfl⟩
        go_loopw [10] (fun i wr => ∃ (d z : Int), -1 ≤ d ∧ d ≤ 2 ∧ i = .int .i64 d ∧ wr.heap[w.heap.size]? = some (.cells #[.string ⟨#[110]⟩, .int .i64 z, .slice a' l.length c'] 27 (0, 0)) ∧ SlE wr a' es ∧ Below w.heap.size w wr) (fun i _ => (2 - intOf i).toNat)
        case atStart => exact ⟨-1, 0, by omega, by omega, rfl, hh, HSL.out, hb⟩
        case round =>
          obtain ⟨d, z, hd1, hd2, rfl, hh2, hsl2, hb2⟩ := hrel
          by_cases hd3 : d < 2
          · go_wp2
            obtain ⟨w2, rfl⟩ : ∃ w2 : World, w2 = wr := ⟨_, rfl⟩
            go_loopw [11] (fun i wr => ∃ (k : Nat) (z : Int), k ≤ 3 ∧ i = .int .i64 k ∧ wr.heap[w.heap.size]? = some (.cells #[.string ⟨#[110]⟩, .int .i64 z, .slice a' l.length c'] 27 (0, 0)) ∧ SlE wr a' es ∧ Below w.heap.size w wr) (fun i _ => (3 - intOf i).toNat)
            case atStart => exact ⟨0, z, by omega, rfl, hh2, hsl2, hb2⟩
            case round =>
              obtain ⟨k, z, hk1, rfl, hh3, hsl3, hb3⟩ := hrel
              by_cases hk2 : k < 3
              · have r2 := heap_setCell_same wr w.heap.size 1 _ 27 (.int .i64 (max (512 * ((all : Int) - (k : Int)) + d) 0)) hh3
                have sl2 := hsl3.setCell ⟨w.heap.size, 1, none⟩ (.int .i64 (max (512 * ((all : Int) - (k : Int)) + d) 0)) HAL.out
                have b2 := hb3.setCell (p := ⟨w.heap.size, 1, none⟩) (Nat.le_refl _) (.int .i64 (max (512 * ((all : Int) - (k : Int)) + d) 0))
                obtain ⟨⟨c0, c1, c2⟩, f0, f1, f2⟩ := cells3 hh3
                clear hh2 hsl2 hb2 hh3 hsl3 hb3 hh hb
                go_wp2
                clear c0 c1 c2 f0 f1 f2
                generalize wr.setCell ⟨w.heap.size, 1, none⟩ (.int .i64 (max (512 * ((all : Int) - (k : Int)) + d) 0)) = W2 at *
                have z0 : 0 ≤ max (512 * ((all : Int) - (k : Int)) + d) 0 := by omega
                have z1 : max (512 * ((all : Int) - (k : Int)) + d) 0 ≤ 65536 := by omega
                generalize max (512 * ((all : Int) - (k : Int)) + d) 0 = z' at *
                have hck := HCK.out z' z0 z1
                have hcw := HC.out z' (by omega) (by omega)
                have hz5 : ((z' == 0) = true ∧ ((all : Int) == 0) = true) → (decide (z' ≤ 512 * (all : Int)) && decide (512 * ((all : Int) - 1) < z')) = true := by
                  rintro ⟨e1, e2⟩
                  simp only [beq_iff_eq] at e1 e2
                  simp only [Bool.and_eq_true, decide_eq_true_eq]
                  omega
                generalize inoCheck ⟨⟨#[110]⟩, z', es⟩ = ch at *
                have hlt : w.heap.size < W2.heap.size := (Array.getElem?_eq_some_iff.1 r2).1
                obtain ⟨⟨c0, c1, c2⟩, f0, f1, f2⟩ := cells3 r2
                have C0 := Lib.hid c0
                have C1 := Lib.hid c1
                have C2 := Lib.hid c2
                have R2 := Lib.hid r2
                have SL2 := Lib.hid sl2
                have B2 := Lib.hid b2
                have HCW := Lib.hid hcw
                clear c0 c1 c2 f0 f1 f2 r2 sl2 b2 hcw
                have hcs : (decide (z' ≤ 512 * (all : Int)) = true ∧ decide (512 * ((all : Int) - 1) < z') = true ∧ (ch == 0) = true) ∨ (decide (z' ≤ 512 * (all : Int)) = true ∧ decide (512 * ((all : Int) - 1) < z') = false ∧ (z' == 0) = false ∧ (ch == 0) = false) ∨
                    (decide (z' ≤ 512 * (all : Int)) = true ∧ decide (512 * ((all : Int) - 1) < z') = false ∧ (z' == 0) = true ∧ ((all : Int) == 0) = false ∧ (ch == 0) = false) ∨
                    (decide (z' ≤ 512 * (all : Int)) = false ∧ (z' == 0) = false ∧ (ch == 0) = false) := by
                  rw [hck]
                  simp only [Bool.and_eq_true, decide_eq_true_eq, decide_eq_false_iff_not, beq_iff_eq, Bool.and_eq_false_iff, beq_eq_false_iff_ne]
                  omega
                clear hck hz5
                have HLT := Lib.hid hlt
                have HD := Lib.hid (And.intro hd1 (And.intro hd2 (And.intro hd3 (And.intro z0 z1))))
                clear HF HCK HC HSL HAL
                simp only [show decide ((k : Int) < 3) = true by simp; omega]
                rcases hcs with ⟨hA, hB, hck⟩ | ⟨hA, hB, hZ, hck⟩ | ⟨hA, hB, hZ, hL, hck⟩ | ⟨hA, hZ, hck⟩
                · clear hd1 hd2 hd3 z0 z1 hlt
                  refine wp_region_rr 26 (fun w' => Below W2.heap.size W2 w') (by kernel_rfl) (by kernel_rfl) (Below.refl _ _).drew ?_
                  iterate 17
                    (apply RR_run
                     focus rfl
                     focus
                       intro w3 hS
                       have c0 := (hS.cell (p := ⟨w.heap.size, 0, none⟩) HLT.out).trans C0.out
                       have c1 := (hS.cell (p := ⟨w.heap.size, 1, none⟩) HLT.out).trans C1.out
                       have c2 := (hS.cell (p := ⟨w.heap.size, 2, none⟩) HLT.out).trans C2.out
                       go_wp2_with ((with_reducible refine (HCW.out _ (SL2.out.below hS)).mono ?_); rintro e w4 ⟨rfl, h4⟩)
                       exact ⟨rfl, by first | exact hS | exact hS.trans (Below.mono (by assumption) hS.size)⟩
                     focus exact ⟨_, rfl⟩)
                  iterate 7
                    (apply RR_skip
                     focus rfl
                     focus (simp only [Act.put, List.setIfInBounds_toArray, List.set_cons_zero, List.set_cons_succ]; rfl))
                  iterate 2
                    (apply RR_run
                     focus rfl
                     focus
                       intro w3 hS
                       have c0 := (hS.cell (p := ⟨w.heap.size, 0, none⟩) HLT.out).trans C0.out
                       have c1 := (hS.cell (p := ⟨w.heap.size, 1, none⟩) HLT.out).trans C1.out
                       have c2 := (hS.cell (p := ⟨w.heap.size, 2, none⟩) HLT.out).trans C2.out
                       go_wp2_with ((with_reducible refine (HCW.out _ (SL2.out.below hS)).mono ?_); rintro e w4 ⟨rfl, h4⟩)
                       exact ⟨rfl, by first | exact hS | exact hS.trans (Below.mono (by assumption) hS.size)⟩
                     focus exact ⟨_, rfl⟩)
                  refine RR_end fun w3 hS => ?_
                  have R3 := Lib.hid ((hS.block w.heap.size HLT.out).trans R2.out)
                  have SL3 := Lib.hid (SL2.out.below hS)
                  have B3 := Lib.hid (B2.out.trans (hS.mono (by have := HLT.out; omega)))
                  clear hS
                  go_wp2
                  go_roundw
                  case rel => exact ⟨k + 1, z', by omega, by go_num, R3.out, SL3.out, B3.out⟩
                  case measure => simp [intOf]; omega
                · clear hd1 hd2 hd3 z0 z1 hlt
                  refine wp_region_rr 26 (fun w' => Below W2.heap.size W2 w') (by kernel_rfl) (by kernel_rfl) (Below.refl _ _).drew ?_
                  iterate 21
                    (apply RR_run
                     focus rfl
                     focus
                       intro w3 hS
                       have c0 := (hS.cell (p := ⟨w.heap.size, 0, none⟩) HLT.out).trans C0.out
                       have c1 := (hS.cell (p := ⟨w.heap.size, 1, none⟩) HLT.out).trans C1.out
                       have c2 := (hS.cell (p := ⟨w.heap.size, 2, none⟩) HLT.out).trans C2.out
                       go_wp2_with ((with_reducible refine (HCW.out _ (SL2.out.below hS)).mono ?_); rintro e w4 ⟨rfl, h4⟩)
                       exact ⟨rfl, by first | exact hS | exact hS.trans (Below.mono (by assumption) hS.size)⟩
                     focus exact ⟨_, rfl⟩)
                  iterate 2
                    (apply RR_skip
                     focus rfl
                     focus (simp only [Act.put, List.setIfInBounds_toArray, List.set_cons_zero, List.set_cons_succ]; rfl))
                  iterate 3
                    (apply RR_run
                     focus rfl
                     focus
                       intro w3 hS
                       have c0 := (hS.cell (p := ⟨w.heap.size, 0, none⟩) HLT.out).trans C0.out
                       have c1 := (hS.cell (p := ⟨w.heap.size, 1, none⟩) HLT.out).trans C1.out
                       have c2 := (hS.cell (p := ⟨w.heap.size, 2, none⟩) HLT.out).trans C2.out
                       go_wp2_with ((with_reducible refine (HCW.out _ (SL2.out.below hS)).mono ?_); rintro e w4 ⟨rfl, h4⟩)
                       exact ⟨rfl, by first | exact hS | exact hS.trans (Below.mono (by assumption) hS.size)⟩
                     focus exact ⟨_, rfl⟩)
                  refine RR_end fun w3 hS => ?_
                  have R3 := Lib.hid ((hS.block w.heap.size HLT.out).trans R2.out)
                  have SL3 := Lib.hid (SL2.out.below hS)
                  have B3 := Lib.hid (B2.out.trans (hS.mono (by have := HLT.out; omega)))
                  clear hS
                  go_wp2
                  go_roundw
                  case rel => exact ⟨k + 1, z', by omega, by go_num, R3.out, SL3.out, B3.out⟩
                  case measure => simp [intOf]; omega
                · clear hd1 hd2 hd3 z0 z1 hlt
                  refine wp_region_rr 26 (fun w' => Below W2.heap.size W2 w') (by kernel_rfl) (by kernel_rfl) (Below.refl _ _).drew ?_
                  iterate 26
                    (apply RR_run
                     focus rfl
                     focus
                       intro w3 hS
                       have c0 := (hS.cell (p := ⟨w.heap.size, 0, none⟩) HLT.out).trans C0.out
                       have c1 := (hS.cell (p := ⟨w.heap.size, 1, none⟩) HLT.out).trans C1.out
                       have c2 := (hS.cell (p := ⟨w.heap.size, 2, none⟩) HLT.out).trans C2.out
                       go_wp2_with ((with_reducible refine (HCW.out _ (SL2.out.below hS)).mono ?_); rintro e w4 ⟨rfl, h4⟩)
                       exact ⟨rfl, by first | exact hS | exact hS.trans (Below.mono (by assumption) hS.size)⟩
                     focus exact ⟨_, rfl⟩)
                  refine RR_end fun w3 hS => ?_
                  have R3 := Lib.hid ((hS.block w.heap.size HLT.out).trans R2.out)
                  have SL3 := Lib.hid (SL2.out.below hS)
                  have B3 := Lib.hid (B2.out.trans (hS.mono (by have := HLT.out; omega)))
                  clear hS
                  go_wp2
                  go_roundw
                  case rel => exact ⟨k + 1, z', by omega, by go_num, R3.out, SL3.out, B3.out⟩
                  case measure => simp [intOf]; omega
                · clear hd1 hd2 hd3 z0 z1 hlt
                  refine wp_region_rr 26 (fun w' => Below W2.heap.size W2 w') (by kernel_rfl) (by kernel_rfl) (Below.refl _ _).drew ?_
                  iterate 9
                    (apply RR_run
                     focus rfl
                     focus
                       intro w3 hS
                       have c0 := (hS.cell (p := ⟨w.heap.size, 0, none⟩) HLT.out).trans C0.out
                       have c1 := (hS.cell (p := ⟨w.heap.size, 1, none⟩) HLT.out).trans C1.out
                       have c2 := (hS.cell (p := ⟨w.heap.size, 2, none⟩) HLT.out).trans C2.out
                       go_wp2_with ((with_reducible refine (HCW.out _ (SL2.out.below hS)).mono ?_); rintro e w4 ⟨rfl, h4⟩)
                       exact ⟨rfl, by first | exact hS | exact hS.trans (Below.mono (by assumption) hS.size)⟩
                     focus exact ⟨_, rfl⟩)
                  iterate 6
                    (apply RR_skip
                     focus rfl
                     focus (simp only [Act.put, List.setIfInBounds_toArray, List.set_cons_zero, List.set_cons_succ]; rfl))
                  iterate 6
                    (apply RR_run
                     focus rfl
                     focus
                       intro w3 hS
                       have c0 := (hS.cell (p := ⟨w.heap.size, 0, none⟩) HLT.out).trans C0.out
                       have c1 := (hS.cell (p := ⟨w.heap.size, 1, none⟩) HLT.out).trans C1.out
                       have c2 := (hS.cell (p := ⟨w.heap.size, 2, none⟩) HLT.out).trans C2.out
                       go_wp2_with ((with_reducible refine (HCW.out _ (SL2.out.below hS)).mono ?_); rintro e w4 ⟨rfl, h4⟩)
                       exact ⟨rfl, by first | exact hS | exact hS.trans (Below.mono (by assumption) hS.size)⟩
                     focus exact ⟨_, rfl⟩)
                  iterate 2
                    (apply RR_skip
                     focus rfl
                     focus (simp only [Act.put, List.setIfInBounds_toArray, List.set_cons_zero, List.set_cons_succ]; rfl))
                  iterate 3
                    (apply RR_run
                     focus rfl
                     focus
                       intro w3 hS
                       have c0 := (hS.cell (p := ⟨w.heap.size, 0, none⟩) HLT.out).trans C0.out
                       have c1 := (hS.cell (p := ⟨w.heap.size, 1, none⟩) HLT.out).trans C1.out
                       have c2 := (hS.cell (p := ⟨w.heap.size, 2, none⟩) HLT.out).trans C2.out
                       go_wp2_with ((with_reducible refine (HCW.out _ (SL2.out.below hS)).mono ?_); rintro e w4 ⟨rfl, h4⟩)
                       exact ⟨rfl, by first | exact hS | exact hS.trans (Below.mono (by assumption) hS.size)⟩
                     focus exact ⟨_, rfl⟩)
                  refine RR_end fun w3 hS => ?_
                  have R3 := Lib.hid ((hS.block w.heap.size HLT.out).trans R2.out)
                  have SL3 := Lib.hid (SL2.out.below hS)
                  have B3 := Lib.hid (B2.out.trans (hS.mono (by have := HLT.out; omega)))
                  clear hS
                  go_wp2
                  go_roundw
                  case rel => exact ⟨k + 1, z', by omega, by go_num, R3.out, SL3.out, B3.out⟩
                  case measure => simp [intOf]; omega
              · obtain rfl : k = 3 := by omega
                go_wp2
                go_roundw
                case rel => exact ⟨d + 1, z, by omega, by omega, by go_num, hh3, hsl3, hb3⟩
                case measure => simp [intOf]; omega
          · obtain rfl : d = 2 := by omega
            have r2 := heap_setCell_same wr w.heap.size 1 _ 27 (.int .i64 (sz : Int)) hh2
            have sl2 := hsl2.setCell ⟨w.heap.size, 1, none⟩ (.int .i64 (sz : Int)) HAL.out
            have b2 := hb2.setCell (p := ⟨w.heap.size, 1, none⟩) (Nat.le_refl _) (.int .i64 (sz : Int))
            obtain ⟨⟨c0, c1, c2⟩, f0, f1, f2⟩ := cells3 hh2
            clear hh2 hsl2 hb2 hh hb
            go_wp2
            clear c0 c1 c2 f0 f1 f2
            generalize wr.setCell ⟨w.heap.size, 1, none⟩ (.int .i64 (sz : Int)) = W2 at *
            have z0 : 0 ≤ (sz : Int) := by omega
            have z1 : (sz : Int) ≤ 65536 := by omega
            generalize (sz : Int) = z' at *
            have hck := HCK.out z' z0 z1
            have hcw := HC.out z' (by omega) (by omega)
            generalize inoCheck ⟨⟨#[110]⟩, z', es⟩ = ch at *
            have hlt : w.heap.size < W2.heap.size := (Array.getElem?_eq_some_iff.1 r2).1
            obtain ⟨⟨c0, c1, c2⟩, f0, f1, f2⟩ := cells3 r2
            have C0 := Lib.hid c0
            have C1 := Lib.hid c1
            have C2 := Lib.hid c2
            have SL2 := Lib.hid sl2
            have B2 := Lib.hid b2
            have HCW := Lib.hid hcw
            have HLT := Lib.hid hlt
            clear c0 c1 c2 f0 f1 f2 r2 sl2 b2 hcw hlt z0 z1 HCK HC HAL hd1 hd2 hd3
            have hcs : (decide (z' ≤ 512 * (all : Int)) = true ∧ decide (512 * ((all : Int) - 1) < z') = true ∧ (ch == 0) = true) ∨ (decide (z' ≤ 512 * (all : Int)) = true ∧ decide (512 * ((all : Int) - 1) < z') = false ∧ (ch == 0) = false) ∨
                (decide (z' ≤ 512 * (all : Int)) = false ∧ (ch == 0) = false) := by
              rw [hck]
              simp only [Bool.and_eq_true, decide_eq_true_eq, decide_eq_false_iff_not, beq_iff_eq, Bool.and_eq_false_iff, beq_eq_false_iff_ne]
              omega
            clear hck
            have htt : (true == true) = true := rfl
            have hff : (false == false) = true := rfl
            rcases hcs with ⟨hA, hB, hck⟩ | ⟨hA, hB, hck⟩ | ⟨hA, hck⟩
            · refine wp_region_rr 21 (fun w' => Below W2.heap.size W2 w') (by kernel_rfl) (by kernel_rfl) (Below.refl _ _).drew ?_
              iterate 21
                  (apply RR_run
                   focus rfl
                   focus
                     intro w3 hS
                     have c0 := (hS.cell (p := ⟨w.heap.size, 0, none⟩) HLT.out).trans C0.out
                     have c1 := (hS.cell (p := ⟨w.heap.size, 1, none⟩) HLT.out).trans C1.out
                     have c2 := (hS.cell (p := ⟨w.heap.size, 2, none⟩) HLT.out).trans C2.out
                     go_wp2_with (first | ((with_reducible refine (HCW.out _ (SL2.out.below hS)).mono ?_); rintro e w4 ⟨rfl, h4⟩) | ((with_reducible refine (HF.out _).mono ?_); rintro e w4 ⟨rfl, h4⟩))
                     exact ⟨rfl, by first | exact hS | exact hS.trans (Below.mono (by assumption) hS.size)⟩
                   focus exact ⟨_, rfl⟩)
              refine RR_end fun w3 hS => ?_
              have B3 := Lib.hid (B2.out.trans (hS.mono (by have := HLT.out; omega)))
              clear hS
              go_wp2
              go_ret
              exact ⟨rfl, B3.out⟩
            · refine wp_region_rr 21 (fun w' => Below W2.heap.size W2 w') (by kernel_rfl) (by kernel_rfl) (Below.refl _ _).drew ?_
              iterate 21
                  (apply RR_run
                   focus rfl
                   focus
                     intro w3 hS
                     have c0 := (hS.cell (p := ⟨w.heap.size, 0, none⟩) HLT.out).trans C0.out
                     have c1 := (hS.cell (p := ⟨w.heap.size, 1, none⟩) HLT.out).trans C1.out
                     have c2 := (hS.cell (p := ⟨w.heap.size, 2, none⟩) HLT.out).trans C2.out
                     go_wp2_with (first | ((with_reducible refine (HCW.out _ (SL2.out.below hS)).mono ?_); rintro e w4 ⟨rfl, h4⟩) | ((with_reducible refine (HF.out _).mono ?_); rintro e w4 ⟨rfl, h4⟩))
                     exact ⟨rfl, by first | exact hS | exact hS.trans (Below.mono (by assumption) hS.size)⟩
                   focus exact ⟨_, rfl⟩)
              refine RR_end fun w3 hS => ?_
              have B3 := Lib.hid (B2.out.trans (hS.mono (by have := HLT.out; omega)))
              clear hS
              go_wp2
              go_ret
              exact ⟨rfl, B3.out⟩
            · refine wp_region_rr 21 (fun w' => Below W2.heap.size W2 w') (by kernel_rfl) (by kernel_rfl) (Below.refl _ _).drew ?_
              iterate 9
                  (apply RR_run
                   focus rfl
                   focus
                     intro w3 hS
                     have c0 := (hS.cell (p := ⟨w.heap.size, 0, none⟩) HLT.out).trans C0.out
                     have c1 := (hS.cell (p := ⟨w.heap.size, 1, none⟩) HLT.out).trans C1.out
                     have c2 := (hS.cell (p := ⟨w.heap.size, 2, none⟩) HLT.out).trans C2.out
                     go_wp2_with (first | ((with_reducible refine (HCW.out _ (SL2.out.below hS)).mono ?_); rintro e w4 ⟨rfl, h4⟩) | ((with_reducible refine (HF.out _).mono ?_); rintro e w4 ⟨rfl, h4⟩))
                     exact ⟨rfl, by first | exact hS | exact hS.trans (Below.mono (by assumption) hS.size)⟩
                   focus exact ⟨_, rfl⟩)
              iterate 6
                  (apply RR_skip
                   focus rfl
                   focus (simp only [Act.put, List.setIfInBounds_toArray, List.set_cons_zero, List.set_cons_succ]; rfl))
              iterate 6
                  (apply RR_run
                   focus rfl
                   focus
                     intro w3 hS
                     have c0 := (hS.cell (p := ⟨w.heap.size, 0, none⟩) HLT.out).trans C0.out
                     have c1 := (hS.cell (p := ⟨w.heap.size, 1, none⟩) HLT.out).trans C1.out
                     have c2 := (hS.cell (p := ⟨w.heap.size, 2, none⟩) HLT.out).trans C2.out
                     go_wp2_with (first | ((with_reducible refine (HCW.out _ (SL2.out.below hS)).mono ?_); rintro e w4 ⟨rfl, h4⟩) | ((with_reducible refine (HF.out _).mono ?_); rintro e w4 ⟨rfl, h4⟩))
                     exact ⟨rfl, by first | exact hS | exact hS.trans (Below.mono (by assumption) hS.size)⟩
                   focus exact ⟨_, rfl⟩)
              refine RR_end fun w3 hS => ?_
              have B3 := Lib.hid (B2.out.trans (hS.mono (by have := HLT.out; omega)))
              clear hS
              go_wp2
              go_ret
              exact ⟨rfl, B3.out⟩
end Go.Proofs.Ytffgjjhopopgcaa
