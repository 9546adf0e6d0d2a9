/-
  The document's Get computes what the plain law says, for every text of at most a million bytes.
-/
import Derived.Test.YtffgjjhopopgcaaInoP
import Derived.Test.YtffgjjhopopgcaaInoB
namespace Go.Proofs.Ytffgjjhopopgcaa
set_option linter.unusedVariables false
set_option linter.unusedSimpArgs false
open Go.RowKit
set_option maxRecDepth 100000
set_option maxHeartbeats 2000000

/-- Values of the first draw: where the inode was laid. -/
def inoAt (B : Nat) (t : TypeId) : Spec := fun v w => ∃ g, v = .pointer (some ⟨g, 0, none⟩) ∧ B ≤ g ∧ w.heap[g]? = some (.cells #[.string ⟨#[]⟩, .int .i64 0, .slice none 0 0] t (0, 0))
theorem inoAt_stable (B : Nat) (t : TypeId) : Stable (inoAt B t) := fun v w w' ⟨g, hv, hB, hc⟩ hg => ⟨g, hv, hB, (hg.block g (Array.getElem?_eq_some_iff.1 hc).1).trans hc⟩

attribute [local go_sem] mkS_append mkS_extract mkS_getElem List.length_drop List.length_take

theorem refGet_len (l : List UInt8) (hl : l.length ≤ 1000000) (h : l.length ≠ 256) (w : World) :
    Calls Try.prog 14 #[.string ⟨l.toArray⟩] w (RetGet w noIno false 10) := by
  have hne : ((l.length : Int) == 256) = false := by simp; omega
  have hne2 : ((l.length : Int) != 256) = true := by simp; omega
  have hz : (l == zeros 256) = false := by
    simp only [beq_eq_false_iff_ne]
    intro e
    exact h (by rw [e]; simp [zeros])
  have HZ := Lib.hid (fun w : World => zeros_any 256 256 rfl (by omega) w)
  generalize zeros 256 = z at *
  go_enter Try.func14, Try.ntmps14
  go_wp2_with fail
  refine (HZ.out _).mono ?_
  rintro e w1 ⟨rfl, hb⟩
  obtain ⟨⟨c0, c1, c2⟩, f0, f1, f2⟩ := cells3 ((hb.block w.heap.size (by simp)).trans (heap_alloc_last w _))
  have HB := Lib.hid hb
  clear hb
  go_wp2
  refine bodyPost_ret (v := .tuple #[.agg #[.string ⟨#[]⟩, .int .i64 0, .slice none 0 0], .bool false, .int .i64 10]) (by simp [results, Try.results14, go_sem, c0, c1, c2, f0, f1, f2]) rfl ⟨none, 0, rfl, slE_nil _ _, ?_⟩
  have hb := ((Below.refl _ _).alloc (Nat.le_refl _) _).trans (HB.out.mono (by simp))
  exact ((hb.setCell (Nat.le_refl _) _).setCell (Nat.le_refl _) _).setCell (Nat.le_refl _) _

theorem refGet_zero (w : World) :
    Calls Try.prog 14 #[.string ⟨(zeros 256).toArray⟩] w (RetGet w noIno false 0) := by
  have HZ := Lib.hid (fun w : World => zeros_any 256 256 rfl (by omega) w)
  generalize zeros 256 = l at *
  go_enter Try.func14, Try.ntmps14
  go_wp2_with fail
  refine (HZ.out _).mono ?_
  rintro e w1 ⟨rfl, hb⟩
  obtain ⟨⟨c0, c1, c2⟩, f0, f1, f2⟩ := cells3 ((hb.block w.heap.size (by simp)).trans (heap_alloc_last w _))
  have HB := Lib.hid hb
  clear hb
  go_wp2
  refine bodyPost_ret (v := .tuple #[.agg #[.string ⟨#[]⟩, .int .i64 0, .slice none 0 0], .bool false, .int .i64 0]) (by simp [results, Try.results14, go_sem, c0, c1, c2, f0, f1, f2]) rfl ⟨none, 0, rfl, slE_nil _ _, ?_⟩
  have hb := ((Below.refl _ _).alloc (Nat.le_refl _) _).trans (HB.out.mono (by simp))
  exact ((hb.setCell (Nat.le_refl _) _).setCell (Nat.le_refl _) _).setCell (Nat.le_refl _) _

theorem refGet_big (l : List UInt8) (hl : l.length = 256) (z : List UInt8) (hzb : (l == z) = false)
    (HZ : Hid (∀ w, Calls Try.prog 45 #[.int .i64 256] w (Ret w (.string ⟨z.toArray⟩))))
    (hbig : 96 < (l[0]'(by omega)).toNat ∨ 8 < (l[101]'(by omega)).toNat) (w : World) :
    Calls Try.prog 14 #[.string ⟨l.toArray⟩] w (RetGet w noIno false 10) := by
  have hne : ((l.length : Int) == 256) = true := by simp; omega
  have hne2 : ((l.length : Int) != 256) = false := by simp; omega
  by_cases h0 : 96 < (l[0]'(by omega)).toNat
  · have hd : decide ((96 : Int) < (((l[0]'(by omega)).toNat : Nat) : Int)) = true := by simp; omega
    clear hbig
    go_enter Try.func14, Try.ntmps14
    go_wp2_with fail
    refine (HZ.out _).mono ?_
    rintro e w1 ⟨rfl, hb⟩
    obtain ⟨⟨c0, c1, c2⟩, f0, f1, f2⟩ := cells3 ((hb.block w.heap.size (by simp)).trans (heap_alloc_last w _))
    have HB := Lib.hid hb
    clear hb
    go_wp2
    refine bodyPost_ret (v := .tuple #[.agg #[.string ⟨#[]⟩, .int .i64 0, .slice none 0 0], .bool false, .int .i64 10]) (by simp [results, Try.results14, go_sem, c0, c1, c2, f0, f1, f2]) rfl ⟨none, 0, rfl, slE_nil _ _, ?_⟩
    have hb := ((Below.refl _ _).alloc (Nat.le_refl _) _).trans (HB.out.mono (by simp))
    exact ((hb.setCell (Nat.le_refl _) _).setCell (Nat.le_refl _) _).setCell (Nat.le_refl _) _
  · have hd : decide ((96 : Int) < (((l[0]'(by omega)).toNat : Nat) : Int)) = false := by simp; omega
    have hd2 : decide ((8 : Int) < (((l[101]'(by omega)).toNat : Nat) : Int)) = true := by simp; omega
    clear hbig
    go_enter Try.func14, Try.ntmps14
    go_wp2_with fail
    refine (HZ.out _).mono ?_
    rintro e w1 ⟨rfl, hb⟩
    obtain ⟨⟨c0, c1, c2⟩, f0, f1, f2⟩ := cells3 ((hb.block w.heap.size (by simp)).trans (heap_alloc_last w _))
    have HB := Lib.hid hb
    clear hb
    go_wp2
    refine bodyPost_ret (v := .tuple #[.agg #[.string ⟨#[]⟩, .int .i64 0, .slice none 0 0], .bool false, .int .i64 10]) (by simp [results, Try.results14, go_sem, c0, c1, c2, f0, f1, f2]) rfl ⟨none, 0, rfl, slE_nil _ _, ?_⟩
    have hb := ((Below.refl _ _).alloc (Nat.le_refl _) _).trans (HB.out.mono (by simp))
    exact ((hb.setCell (Nat.le_refl _) _).setCell (Nat.le_refl _) _).setCell (Nat.le_refl _) _

theorem refGetS_any (s : List UInt8) (h : s.length ≤ 1000000) (w : World) :
    Calls Try.prog 46 #[.string ⟨s.toArray⟩] w (Same w (.int .u64 (getB (s.take 8) : Nat))) :=
  refGet_any ⟨s.toArray⟩ (by show s.toArray.size ≤ maxLen; unfold maxLen; simp; omega) w

theorem refGet_case (l : List UInt8) (hl : l.length = 256) (z : List UInt8) (hzb : (l == z) = false)
    (HZ : Hid (∀ w, Calls Try.prog 45 #[.int .i64 256] w (Ret w (.string ⟨z.toArray⟩))))
    (h0 : (l[0]'(by omega)).toNat ≤ 96) (h1 : (l[101]'(by omega)).toNat ≤ 8) (t : List UInt8) (e : Int) (he : e = 0 ∨ e = 2)
    (HPT : Hid (∀ a c w, SlE w a (readIno l).exts → Calls Try.prog 19 #[.agg #[.string (readIno l).name, .int .i64 (readIno l).size, .slice a (readIno l).exts.length c]] w (Ret w (.tuple #[.string ⟨t.toArray⟩, .int .i64 e]))))
    (i : Ino) (r : Bool) (n : Int) (hcase : (e = 0 ∧ (t == l) = true ∧ i = readIno l ∧ r = true ∧ n = 0) ∨ ((e = 2 ∨ (t == l) = false) ∧ i = noIno ∧ r = false ∧ n = 10)) (w : World) :
    Calls Try.prog 14 #[.string ⟨l.toArray⟩] w (RetGet w i r n) := by
  have hcs : (e = 0 ∧ (t == l) = true ∧ i = readIno l ∧ r = true ∧ n = 0) ∨ (e = 0 ∧ (t == l) = false ∧ i = noIno ∧ r = false ∧ n = 10) ∨ (e = 2 ∧ i = noIno ∧ r = false ∧ n = 10) := by
    rcases hcase with h | ⟨h, h2⟩
    · exact .inl h
    · rcases he with he | he
      · rcases h with h | h
        · omega
        · exact .inr (.inl ⟨he, h, h2⟩)
      · exact .inr (.inr ⟨he, h2⟩)
  clear hcase he
  have HCS := Lib.hid hcs
  clear hcs
  have hne : ((l.length : Int) == 256) = true := by simp; omega
  have hne2 : ((l.length : Int) != 256) = false := by simp; omega
  have hd : decide ((96 : Int) < (((l[0]'(by omega)).toNat : Nat) : Int)) = false := by simp; omega
  have hd2 : decide ((8 : Int) < (((l[101]'(by omega)).toNat : Nat) : Int)) = false := by simp; omega
  obtain ⟨A, hA⟩ : ∃ A, getB (List.take 8 (List.drop 97 (List.take 101 l))) = A := ⟨_, rfl⟩
  have hAS : A = getB (sub l 97 4) := by
    rw [← hA, List.take_of_length_le (by simp; omega)]
    unfold sub
    rw [List.drop_take]
  have hA2 : A < 4294967296 := by
    rw [hAS]
    exact getB_sub_lt l 97 4
  have HName := Lib.hid (show (⟨(List.take (1 + (l[0]'(by omega)).toNat) l).tail.toArray⟩ : ByteArray) = (readIno l).name by
    show _ = (⟨(sub l 1 (min (l.getD 0 0).toNat 96)).toArray⟩ : ByteArray)
    have : l.getD 0 0 = l[0]'(by omega) := by simp [List.getD_eq_getElem?_getD, List.getElem?_eq_getElem (show 0 < l.length by omega)]
    rw [this, Nat.min_eq_left h0]
    congr 2
    generalize (l[0]'(by omega)).toNat = m
    rw [show 1 + m = m + 1 from by omega, ← List.drop_one, List.drop_take]
    rfl)
  have HAS := Lib.hid hAS
  clear hAS
  go_enter Try.func14, Try.ntmps14
  go_wp2_with fail
  refine (HZ.out _).mono ?_
  rintro e1 w1 ⟨rfl, hb⟩
  have hh1 := (hb.block w.heap.size (by simp)).trans (heap_alloc_last w _)
  have hlt : w.heap.size < w1.heap.size := by have := hb.size; simp at this; omega
  have hbw := ((Below.refl w.heap.size w).alloc (Nat.le_refl _) (.cells #[.string ⟨#[]⟩, .int .i64 0, .slice none 0 0] 31)).trans (hb.mono (by simp))
  have HB := Lib.hid hbw
  have HH1 := Lib.hid hh1
  clear hb hbw hh1
  go_wp2
  refine wp_region_rr2 12 (fun w' => Below w1.heap.size w1 w') (by kernel_rfl) (by kernel_rfl) (fun w w' h g => h.trans (g.mono h.size)) (Below.refl _ _).drew ?_
  repeat
    apply RR2_run
    focus rfl
    focus rfl
    focus rfl
    focus
      intro w2 hS
      go_wp2_with (((with_reducible refine (refGetS_any _ (by rw [List.length_drop, List.length_take]; omega) _).mono ?_); rintro e w3 ⟨rfl, rfl⟩))
      exact ⟨rfl, by first | exact Grew.refl _ | assumption⟩
    focus exact ⟨_, rfl⟩
  refine RR2_mk (inoAt w1.heap.size 31) 5 rfl (inoAt_stable _ _) (by simp) rfl rfl rfl (fun w2 hS => ?_) ?_
  focus
    go_wp2
    refine ⟨⟨_, rfl, _, rfl, hS.size, heap_alloc_last w2 _⟩, (Below.refl _ _).alloc (Nat.le_refl _) _⟩
  refine RR2_end fun ρ w2 hS hpend => ?_
  simp only [overlay, List.foldl_cons, List.foldl_nil, List.nil_append, List.cons_append, Act.put, List.setIfInBounds_toArray, List.set_cons_zero, List.set_cons_succ]
  obtain ⟨g, hv, hB, hc⟩ := hpend (11, 5, inoAt w1.heap.size 31) (by simp)
  simp only at hv
  generalize ρ 11 = v11 at *
  subst hv
  obtain ⟨⟨c0, c1, c2⟩, f0, f1, f2⟩ := cells3 hc
  have HC := Lib.hid hc
  have HS := Lib.hid hS
  clear hc hS hpend
  go_wp2
  have hC3 := set3 (u0 := .string ⟨(List.take (1 + (l[0]'(by omega)).toNat) l).tail.toArray⟩) (u1 := .int .i64 A) (u2 := .slice none 0 0) HC.out
  have hB3 : Below w1.heap.size w1 _ := ((HS.out.setCell (p := ⟨g, 0, none⟩) hB (.string ⟨(List.take (1 + (l[0]'(by omega)).toNat) l).tail.toArray⟩)).setCell (p := ⟨g, 1, none⟩) hB (.int .i64 A)).setCell (p := ⟨g, 2, none⟩) hB (.slice none 0 0)
  rw [HName.out] at hC3 hB3
  obtain ⟨N, hN⟩ : ∃ N, w2.heap.size = N := ⟨_, rfl⟩
  have hgN : g < N := by rw [← hN]; exact (Array.getElem?_eq_some_iff.1 HC.out).1
  have hN3 : (((w2.setCell ⟨g, 0, none⟩ (.string (readIno l).name)).setCell ⟨g, 1, none⟩ (.int .i64 A)).setCell ⟨g, 2, none⟩ (.slice none 0 0)).heap.size = N := by simp [hN]
  simp only [HName.out]
  generalize (((w2.setCell ⟨g, 0, none⟩ (.string (readIno l).name)).setCell ⟨g, 1, none⟩ (.int .i64 A)).setCell ⟨g, 2, none⟩ (.slice none 0 0)) = w3 at *
  clear c0 c1 c2 f0 f1 f2 HC HS hd hd2
  obtain ⟨m, hm⟩ : ∃ m : Nat, (l[101]'(by omega)).toNat = m := ⟨_, rfl⟩
  have hbs := hB3.size
  simp only [hm]
  go_loopw [6] (fun i wr => ∃ (k : Nat) (v : Value), k ≤ m ∧ i = .int .i64 k ∧ wr.heap[g]? = some (.cells #[.string (readIno l).name, .int .i64 A, v] 31 (0, 0)) ∧ wr.ownsRow N 38 2 v k (extV (rdExts l k)) ∧ Below w1.heap.size w1 wr ∧ N ≤ wr.heap.size) (fun i _ => m - (intOf i).toNat)
  case atStart =>
    exact ⟨0, .slice none 0 0, by omega, rfl, hC3, World.ownsRow_nil _ _ _ _, hB3, by omega⟩
  case round =>
    obtain ⟨k, v, hk, rfl, hh, hrow, hb, hNs⟩ := hrel
    by_cases hlk : k < m
    · have HH := Lib.hid hh
      clear hh
      obtain ⟨X, hX⟩ : ∃ X, getB (List.take 8 (List.drop (102 + 4 * k) (List.take (104 + 4 * k) l))) = X := ⟨_, rfl⟩
      obtain ⟨Y, hY⟩ : ∃ Y, getB (List.take 8 (List.drop (104 + 4 * k) (List.take (106 + 4 * k) l))) = Y := ⟨_, rfl⟩
      have hXS : X = getB (sub l (102 + 4 * k) 2) := by
        rw [← hX, List.take_of_length_le (by simp; omega)]
        unfold sub
        rw [List.drop_take]
        congr 2
        omega
      have hYS : Y = getB (sub l (104 + 4 * k) 2) := by
        rw [← hY, List.take_of_length_le (by simp; omega)]
        unfold sub
        rw [List.drop_take]
        congr 2
        omega
      have hX2 : X < 65536 := by rw [hXS]; exact getB_sub_lt l _ 2
      have hY2 : Y < 65536 := by rw [hYS]; exact getB_sub_lt l _ 2
      have HE : Hid (extV (rdExts l (k + 1)) = extV (rdExts l k) ++ [.int .i64 (X : Int), .int .i64 (Y : Int)]) := by
        show _ = _
        simp only [rdExts, List.range_succ, List.map_append, List.map_cons, List.map_nil, extV, List.flatMap_append, List.flatMap_cons, List.flatMap_nil, List.append_nil, hXS, hYS]
      clear hXS hYS
      have HP1 := Lib.hid (fun w : World => refGetS_any (List.drop (102 + 4 * k) (List.take (104 + 4 * k) l)) (by rw [List.length_drop, List.length_take]; omega) w)
      have HP2 := Lib.hid (fun w : World => refGetS_any (List.drop (104 + 4 * k) (List.take (106 + 4 * k) l)) (by rw [List.length_drop, List.length_take]; omega) w)
      rw [hX] at HP1
      rw [hY] at HP2
      go_wp2
      have hlt2 : g < wr.heap.size := (Array.getElem?_eq_some_iff.1 HH.out).1
      refine wp_region_rr2 24 (fun w' => Below wr.heap.size wr w') (by kernel_rfl) (by kernel_rfl) (fun w w' h g => h.trans (g.mono h.size)) (Below.refl _ _).drew ?_
      repeat
        apply RR2_run
        focus rfl
        focus rfl
        focus rfl
        focus
          intro w2 hS
          have e2 := (hS.cell (p := ⟨g, 2, none⟩) hlt2).trans (cell_of_row wr g 2 _ 31 (0, 0) HH.out)
          go_wp2_with (first | ((with_reducible refine (HP1.out _).mono ?_); rintro e w3 ⟨rfl, rfl⟩) | ((with_reducible refine (HP2.out _).mono ?_); rintro e w3 ⟨rfl, rfl⟩))
          exact ⟨rfl, by first | exact Grew.refl _ | assumption⟩
        focus exact ⟨_, rfl⟩
      refine RR2_mk (extAt X Y) 68 rfl (extAt_stable _ _) (by simp) rfl rfl rfl (fun w2 hS => ?_) ?_
      focus
        go_wp2
        refine ⟨⟨_, rfl, _, rfl, ?_, ?_⟩, (Below.refl _ _).alloc (Nat.le_refl _) _⟩
        · rw [cell_of_row _ _ _ _ _ _ (heap_alloc_last w2 _)]; rfl
        · rw [cell_of_row _ _ _ _ _ _ (heap_alloc_last w2 _)]; rfl
      refine RR2_end fun ρ w2 hS hpend => ?_
      simp only [overlay, List.foldl_cons, List.foldl_nil, List.nil_append, List.cons_append, Act.put, List.setIfInBounds_toArray, List.set_cons_zero, List.set_cons_succ]
      obtain ⟨b, hv, hc, hd⟩ := hpend (23, 68, extAt X Y) (by simp)
      simp only at hv
      generalize ρ 23 = v11 at *
      subst hv
      have hrow2 := ownsRow_below hrow hS
      have hh2 : w2.heap[g]? = some (.cells #[.string (readIno l).name, .int .i64 (A : Int), v] 31 (0, 0)) := (hS.block _ hlt2).trans HH.out
      have hnews : ∀ (j : Nat) (u : Value), [Value.int .i64 (X : Int), .int .i64 (Y : Int)][j]? = some u → w2.cell? ((⟨b, 0, none⟩ : Addr).add j) = some u := fun j u hu => by
        cases j with
        | zero => simp at hu; subst hu; simpa [Addr.add] using hc
        | succ j => cases j with
          | zero => simp at hu; subst hu; simpa [Addr.add] using hd
          | succ j => simp at hu
      have HN2 := Lib.hid hnews
      have HH2 := Lib.hid hh2
      have hbs2 := hb.size
      have hss := hS.size
      obtain ⟨i0, hi, hz0, hz1, hz2⟩ := info_parts info_ext
      have hz1 := Lib.hid hz1
      have hz2 := Lib.hid hz2
      have hz0 := Lib.hid hz0
      have hi := Lib.hid hi
      have hrowlt := Lib.hid hrow2.lt
      clear hpend hnews hh2 hc hd hX hY
      go_wp2_with (at_builtin; refine wpList_append_own _ rfl _ _ 25 rfl N 38 i0 _ 2 16 Try.underlying25 hi.out hz0.out hz1.out hz2.out rfl (by decide) _ _ _ rfl hrow2 ⟨b, 0, none⟩ 1 1 [.int .i64 (X : Int), .int .i64 (Y : Int)] rfl rfl HN2.out (by simp [Value.oneCell']) (by unfold maxLen; omega) (by omega) (by omega) ?_; intro v' w3 hown' hgrow' _; obtain ⟨g', cap', rfl⟩ := row_succ hown'; have hh3 := (hgrow'.block g (by omega) (fun e => by have := (hrowlt.out _ e.symm).1; omega)).trans HH2.out; have hc3 := cell_of_row w3 g 2 _ 31 (0, 0) hh3; have hf3 := frozen_of_row w3 g 2 _ 31 hh3; have H3 := Lib.hid (heap_setCell_same w3 g 2 _ 31 (.slice (some ⟨g', 0, none⟩) (k + 1) cap') hh3); have HO := Lib.hid hown'; have HG := Lib.hid hgrow'; clear hh3 hown' hgrow')
      go_roundw
      case rel =>
        have hgs := HG.out.size
        refine ⟨k + 1, _, by omega, by go_num, H3.out, ?_, ?_, by simp; omega⟩
        · rw [HE.out]
          exact ownsRow_setCell_below HO.out hgN _
        · refine ((hb.trans (hS.mono hbs2)).trans (below_of_grown HG.out (by omega) fun r hr => ?_)).setCell (by omega) _
          have := (hrowlt.out r hr).1
          omega
      case measure => simp [intOf]; omega
    · obtain rfl : k = m := by omega
      obtain ⟨a, c, rfl⟩ := owns_slice hrow
      have hlr : rdExts l k = (readIno l).exts := by
        show _ = (List.range (min (l.getD 101 0).toNat 8)).map _
        have : l.getD 101 0 = l[101]'(by omega) := by simp [List.getD_eq_getElem?_getD, List.getElem?_eq_getElem (show 101 < l.length by omega)]
        rw [this, hm, Nat.min_eq_left (by omega)]
        rfl
      have hlen : (readIno l).exts.length = k := by rw [← hlr]; simp [rdExts]
      have hsz : (readIno l).size = (A : Int) := by rw [HAS.out]; rfl
      rw [hlr] at hrow
      have hres := (hb.block w.heap.size hlt).trans HH1.out
      have hne : g ≠ w.heap.size := by omega
      have hsl : SlE wr a (readIno l).exts := slE_of_owns hrow
      have hal : ∀ ad, a = some ad → w.heap.size ≠ ad.block := fun ad e => by
        have := (hrow.lt ad.block (by rw [e]; rfl)).1
        omega
      rw [hlen, hsz] at HPT
      have HRS := Lib.hid hres
      have HSL := Lib.hid hsl
      have HB2 := Lib.hid (HB.out.trans (hb.mono (by omega)))
      have HAL := Lib.hid hal
      have HLEN := Lib.hid hlen
      have HSZ := Lib.hid hsz
      obtain ⟨⟨c0, c1, c2⟩, f0, f1, f2⟩ := cells3 hh
      clear hlr hlen hsz hrow hres hsl hb hal hA
      go_wp2_with fail
      refine (HPT.out a c _ HSL.out).mono ?_
      rintro e4 w4 ⟨rfl, hb4⟩
      clear c0 c1 c2 f0 f1 f2
      obtain ⟨⟨c0, c1, c2⟩, f0, f1, f2⟩ := cells3 ((hb4.block g (by omega)).trans hh)
      obtain ⟨⟨d0, d1, d2⟩, k0, k1, k2⟩ := cells3 ((hb4.block w.heap.size (by omega)).trans HRS.out)
      have HB4 := Lib.hid (HB2.out.trans (hb4.mono (by have := HB2.out.size; omega)))
      have HSL4 := Lib.hid (HSL.out.below hb4)
      clear hb4 hh
      clear HPT HZ hC3 hB3
      rcases HCS.out with ⟨rfl, htl, rfl, rfl, rfl⟩ | ⟨rfl, htl, rfl, rfl, rfl⟩ | ⟨rfl, rfl, rfl, rfl⟩
      all_goals
        clear HCS
        go_wp2
        first
        | (refine bodyPost_ret (v := .tuple #[.agg #[.string (readIno l).name, .int .i64 A, .slice a k c], .bool true, .int .i64 0]) (by simp [results, Try.results14, go_sem, c0, c1, c2, f0, f1, f2, d0, d1, d2, k0, k1, k2]) rfl ⟨a, c, by rw [HLEN.out, HSZ.out], ((HSL4.out.setCell _ _ HAL.out).setCell _ _ HAL.out).setCell _ _ HAL.out, ?_⟩; exact ((HB4.out.setCell (Nat.le_refl _) _).setCell (Nat.le_refl _) _).setCell (Nat.le_refl _) _)
        | (refine bodyPost_ret (v := .tuple #[.agg #[.string ⟨#[]⟩, .int .i64 0, .slice none 0 0], .bool false, .int .i64 10]) (by simp [results, Try.results14, go_sem, c0, c1, c2, f0, f1, f2, d0, d1, d2, k0, k1, k2]) rfl ⟨none, 0, rfl, slE_nil _ _, ?_⟩; exact ((HB4.out.setCell (Nat.le_refl _) _).setCell (Nat.le_refl _) _).setCell (Nat.le_refl _) _)

theorem refGetAll_any (l : List UInt8) (hl : l.length ≤ 1000000) (w : World) :
    Calls Try.prog 14 #[.string ⟨l.toArray⟩] w (RetGet w (inoGet l) (inoThere l) (inoErr l)) := by
  by_cases h6 : l.length = 256
  · by_cases hz : l = zeros 256
    · have h1 : inoThere l = false := by simp [inoThere, hz]
      have h2 : inoErr l = 0 := by simp [inoErr, hz]
      have h3 : inoGet l = noIno := by simp [inoGet, h1]
      rw [h1, h2, h3, hz]
      exact refGet_zero w
    · have hthere : inoThere l = (inoOk (readIno l) && decide (inoBytes (readIno l) = l)) := by simp [inoThere, h6, hz]
      have herr : inoErr l = if inoThere l then 0 else 10 := by simp [inoErr, hz]
      have hget : inoGet l = if inoThere l then readIno l else noIno := rfl
      obtain ⟨b1, b2, b3, b4, b5⟩ := readIno_bounds l
      have hzc := fun w : World => zeros_any 256 256 rfl (by omega) w
      by_cases hbig : 96 < (l[0]'(by omega)).toNat ∨ 8 < (l[101]'(by omega)).toNat
      · have hno : inoThere l = false := by
          rw [hthere]
          cases hok : inoOk (readIno l) with
          | false => rfl
          | true =>
            simp only [Bool.true_and, decide_eq_false_iff_not]
            intro hb
            obtain ⟨q1, q2⟩ := inoBytes_heads hok hb h6
            omega
        have h2 : inoErr l = 10 := by simp [inoErr, hno, hz]
        have h3 : inoGet l = noIno := by simp [inoGet, hno]
        rw [hno, h2, h3]
        exact refGet_big l h6 (zeros 256) (by simp [hz]) (Lib.hid hzc) hbig w
      · refine refGet_case l h6 (zeros 256) (by simp [hz]) (Lib.hid hzc) (by omega) (by omega) (inoPut (readIno l)) (inoCheck (readIno l)) (by unfold inoCheck; split <;> simp)
          (Lib.hid (fun a c w hx => refPut2_any (readIno l).name.data.toList (readIno l).size a (readIno l).exts c (by have : (readIno l).name.data.toList.length = (readIno l).name.size := Array.length_toList; omega) (by omega) b5 w hx)) (inoGet l) (inoThere l) (inoErr l) ?_ w
        rw [herr, hget, hthere]
        cases hok : inoOk (readIno l) with
        | false => exact .inr ⟨.inl (by simp [inoCheck, hok]), by simp⟩
        | true =>
          by_cases hb : inoBytes (readIno l) = l
          · exact .inl ⟨by simp [inoCheck, hok], by simp [inoPut, hok, hb], by simp [hb], by simp [hb], by simp [hb]⟩
          · exact .inr ⟨.inr (by simp [inoPut, hok, hb]), by simp [hb]⟩
  · have h1 : inoThere l = false := by simp [inoThere, h6]
    have hz : l ≠ zeros 256 := fun e => h6 (by rw [e]; simp [zeros])
    have h2 : inoErr l = 10 := by simp [inoErr, h1, hz]
    have h3 : inoGet l = noIno := by simp [inoGet, h1]
    rw [h1, h2, h3]
    exact refGet_len l hl h6 w
end Go.Proofs.Ytffgjjhopopgcaa
