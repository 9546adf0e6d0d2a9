/-
  The inode package's read computes the plain reading, for every text of 256 bytes.
-/
import Derived.Test.YtffgjjhopopgcaaInoW
namespace Go.Proofs.Ytffgjjhopopgcaa
set_option linter.unusedVariables false
set_option linter.unusedSimpArgs false
open Go.RowKit
set_option maxRecDepth 100000
set_option maxHeartbeats 1000000

def extV (l : List Ext) : List Value := l.flatMap fun x => [.int .i64 x.first, .int .i64 x.count]
def rdExts (l : List UInt8) (k : Nat) : List Ext := (List.range k).map fun j => ⟨getB (sub l (102 + 4 * j) 2), getB (sub l (104 + 4 * j) 2)⟩

def RetIno (w : World) (i : Ino) (e : Ending) (w' : World) : Prop := ∃ a c, e = .returned (.agg #[.string i.name, .int .i64 i.size, .slice a i.exts.length c]) ∧ SlE w' a i.exts ∧ (∀ ad, a = some ad → w.heap.size ≤ ad.block) ∧ Below w.heap.size w w'

theorem mkS_extract (l : List UInt8) (a b : Nat) : (⟨l.toArray⟩ : ByteArray).extract a b = ⟨((l.take b).drop a).toArray⟩ := by
  apply ByteArray.ext
  rw [ByteArray.data_extract]
  simp [List.extract_toArray, List.drop_take]
theorem mkS_getElem (l : List UInt8) (i : Nat) (h : i < (⟨l.toArray⟩ : ByteArray).size) : (⟨l.toArray⟩ : ByteArray)[i] = l[i]'(by have h2 : i < l.toArray.size := h; simpa using h2) := rfl
attribute [local go_sem] mkS_extract mkS_getElem

theorem size_le (l : List UInt8) (h : l.length ≤ 1000000) : (⟨l.toArray⟩ : ByteArray).size ≤ maxLen := by
  show l.toArray.size ≤ _
  unfold maxLen
  simp
  omega
theorem getS_any (l : List UInt8) (h : l.length ≤ 8) (w : World) : Calls Try.prog 70 #[.string ⟨l.toArray⟩] w (Same w (.int .u64 (getB l : Nat))) := by
  have := get_any ⟨l.toArray⟩ (size_le l (by omega)) w
  rwa [show (⟨l.toArray⟩ : ByteArray).data.toList = l from rfl, List.take_of_length_le h] at this

def extAt (f n : Int) : Spec := fun v w => ∃ b, v = .slice (some ⟨b, 0, none⟩) 1 1 ∧ w.cell? ⟨b, 0, none⟩ = some (.int .i64 f) ∧ w.cell? ⟨b, 1, none⟩ = some (.int .i64 n)
theorem extAt_stable (f n : Int) : Stable (extAt f n) := fun v w w' ⟨b, hv, hc, hd⟩ hg => ⟨b, hv, (hg.cell (p := ⟨b, 0, none⟩) (World.block_lt_of_cell? w _ hc)).trans hc, (hg.cell (p := ⟨b, 1, none⟩) (World.block_lt_of_cell? w _ hd)).trans hd⟩

theorem ownsRow_below {w w1 : World} {base : Nat} {e : TypeId} {size : Nat} {v : Value} {n : Nat} {xs : List Value} (h : w.ownsRow base e size v n xs) (hb : Below w.heap.size w w1) : w1.ownsRow base e size v n xs :=
  h.kept (row := none) ⟨hb.os, hb.tape, hb.output, hb.size, fun k hk _ => hb.block k hk⟩ (by cases v.ownBlock <;> simp)

theorem row_succ {W : World} {base : Nat} {e : TypeId} {size : Nat} {v : Value} {k : Nat} {xs : List Value} (h : W.ownsRow base e size v (k + 1) xs) : ∃ g cap, v = .slice (some ⟨g, 0, none⟩) (k + 1) cap := by
  rcases h.2 with ⟨_, h0⟩ | ⟨g, cap, _, rfl, _⟩
  · omega
  · exact ⟨g, cap, rfl⟩

theorem extV_get : ∀ (l : List Ext) (k : Nat) (h : k < l.length), (extV l)[k * 2]? = some (.int .i64 l[k].first) ∧ (extV l)[k * 2 + 1]? = some (.int .i64 l[k].count)
  | [], k, h => by simp at h
  | x :: l, 0, _ => by simp [extV]
  | x :: l, k + 1, h => by
    have := extV_get l k (by simpa using h)
    have e : extV (x :: l) = .int .i64 x.first :: .int .i64 x.count :: extV l := by simp [extV]
    rw [e, show (k + 1) * 2 = k * 2 + 1 + 1 from by omega]
    simpa using this

theorem slE_of_owns {w : World} {base : Nat} {a : Option Addr} {n c : Nat} {l : List Ext} (h : w.ownsRow base 38 2 (.slice a n c) n (extV l)) : SlE w a l := by
  intro k hk
  have hg := extV_get l k hk
  rcases h.2 with ⟨hv, hn⟩ | ⟨g, cap, cur, hv, _⟩
  · exfalso
    have h0 := h.1
    have : (extV l)[k * 2]? = none := by
      rw [List.getElem?_eq_none]
      omega
    rw [hg.1] at this
    cases this
  · cases hv
    have hc := h.cells (g := g) rfl
    have h1 := hc _ _ hg.1
    have h2 := hc _ _ hg.2
    have add : ∀ j, (⟨g, 0, none⟩ : Addr).add j = ⟨g, j, none⟩ := fun j => by unfold Addr.add; split <;> simp_all
    rw [add] at h1 h2
    exact ⟨g, 0, rfl, by rw [Nat.zero_add]; exact h1, by rw [Nat.zero_add]; exact h2⟩

theorem owns_slice {w : World} {base : Nat} {e : TypeId} {size : Nat} {v : Value} {n : Nat} {xs : List Value} (h : w.ownsRow base e size v n xs) : ∃ a c, v = .slice a n c := by
  rcases h.2 with ⟨rfl, rfl⟩ | ⟨g, cap, _, rfl, _⟩
  · exact ⟨none, 0, rfl⟩
  · exact ⟨_, cap, rfl⟩

theorem grownBy_setRow (w : World) (g : Nat) (cs : Array Value) : w.grownBy (w.setRow g cs) (some g) := ⟨rfl, rfl, rfl, by simp, fun k _ hk => setRow_other w g k _ (fun e => hk (by rw [e]))⟩

theorem info_ext : (Try.prog.info? 38).map (fun i => (i.zero, i.size, i.bytes)) = some (some (.agg #[.int .i64 0, .int .i64 0]), 2, 16) := by kernel_rfl

theorem inoRead_any (l : List UInt8) (hl : l.length = 256) (w : World) :
    Calls Try.prog 44 #[.string ⟨l.toArray⟩] w (RetIno w (readIno l)) := by
  have h0 := byte_lt (l[0]'(by omega))
  have h101 := byte_lt (l[101]'(by omega))
  obtain ⟨m, hm⟩ : ∃ m : Nat, min ((l[0]'(by omega)).toNat) 96 = m := ⟨_, rfl⟩
  obtain ⟨n, hn⟩ : ∃ n : Nat, min ((l[101]'(by omega)).toNat) 8 = n := ⟨_, rfl⟩
  have hm2 : min ((1 : Int) + ((l[0]'(by omega)).toNat : Int)) 97 = 1 + (m : Int) := by omega
  have hn2 : min ((l[101]'(by omega)).toNat : Int) 8 = (n : Int) := by omega
  have hm3 : m ≤ 96 := by omega
  have hn3 : n ≤ 8 := by omega
  have HM := Lib.hid hm
  have HN := Lib.hid hn
  clear hm hn
  have ht : List.take 256 l = l := List.take_of_length_le (by omega)
  have ht2 : List.take 159 (List.drop 97 l) = List.drop 97 l := List.take_of_length_le (by simp; omega)
  have HName := Lib.hid (show (⟨(List.take (1 + m) l).tail.toArray⟩ : ByteArray) = (readIno l).name by
    show _ = (⟨(sub l 1 (min (l.getD 0 0).toNat 96)).toArray⟩ : ByteArray)
    congr 2
    rw [show 1 + m = m + 1 from by omega, ← List.drop_one, List.drop_take]
    unfold sub
    have : l.getD 0 0 = l[0]'(by omega) := by simp [List.getD_eq_getElem?_getD, List.getElem?_eq_getElem (show 0 < l.length by omega)]
    rw [this, HM.out]
    rfl)
  go_enter Try.func44, Try.ntmps44
  go_wp2_with fail
  refine (get_any _ (by show ((List.drop 97 l).take 4).toArray.size ≤ _; unfold maxLen; simp; omega) _).mono ?_
  rintro e w1 ⟨rfl, rfl⟩
  rw [show (⟨(List.take 4 (List.drop 97 l)).toArray⟩ : ByteArray).data.toList = List.take 4 (List.drop 97 l) from rfl]
  have hg4 := getB_lt (List.take 8 (List.take 4 (List.drop 97 l)))
  have HS := Lib.hid (show getB (List.take 8 (List.take 4 (List.drop 97 l))) = getB (sub l 97 4) by
    rw [List.take_take]; rfl)
  have hg5 : getB (List.take 8 (List.take 4 (List.drop 97 l))) < 2 ^ 32 := Nat.lt_of_lt_of_le hg4 (by
    calc 256 ^ (List.take 8 (List.take 4 (List.drop 97 l))).length ≤ 256 ^ 4 := Nat.pow_le_pow_right (by decide) (by simp; omega)
      _ = 2 ^ 32 := by decide)
  clear hg4
  generalize getB (List.take 8 (List.take 4 (List.drop 97 l))) = z at *
  go_wp2
  go_loopw [24] (fun i wr => ∃ (k : Nat) (v : Value), k ≤ n ∧ i = .int .i64 k ∧ wr.heap[w.heap.size]? = some (.cells #[.string (readIno l).name, .int .i64 z, v] 27 (0, 0)) ∧ wr.ownsRow (w.heap.size + 1) 38 2 v k (extV (rdExts l k)) ∧ Below w.heap.size w wr) (fun i _ => n - (intOf i).toNat)
  case atStart =>
    refine ⟨0, .slice none 0 0, by omega, rfl, ?_, World.ownsRow_nil _ _ _ _, (Below.refl _ _).alloc (Nat.le_refl _) _⟩
    rw [heap_alloc_last, ← HName.out]
  case round =>
    obtain ⟨k, v, hk, rfl, hh, hrow, hb⟩ := hrel
    by_cases hlk : k < n
    · have HH := Lib.hid hh
      clear hh
      obtain ⟨A, hA⟩ : ∃ A, getB (List.take 2 (List.drop (97 + (5 + 4 * k)) l)) = A := ⟨_, rfl⟩
      obtain ⟨B, hB⟩ : ∃ B, getB (List.drop 2 (List.take 4 (List.drop (97 + (5 + 4 * k)) l))) = B := ⟨_, rfl⟩
      have hA2 : A < 65536 := by
        rw [← hA]
        exact Nat.lt_of_lt_of_le (getB_lt _) (by
          calc 256 ^ (List.take 2 (List.drop (97 + (5 + 4 * k)) l)).length ≤ 256 ^ 2 := Nat.pow_le_pow_right (by decide) (by simp; omega)
            _ = 65536 := by decide)
      have hB2 : B < 65536 := by
        rw [← hB]
        exact Nat.lt_of_lt_of_le (getB_lt _) (by
          calc 256 ^ (List.drop 2 (List.take 4 (List.drop (97 + (5 + 4 * k)) l))).length ≤ 256 ^ 2 := Nat.pow_le_pow_right (by decide) (by simp; omega)
            _ = 65536 := by decide)
      have HE : Hid (extV (rdExts l (k + 1)) = extV (rdExts l k) ++ [.int .i64 (A : Int), .int .i64 (B : Int)]) := by
        show _ = _
        have e1 : sub l (102 + 4 * k) 2 = List.take 2 (List.drop (97 + (5 + 4 * k)) l) := by unfold sub; congr 2; omega
        have e2 : sub l (104 + 4 * k) 2 = List.drop 2 (List.take 4 (List.drop (97 + (5 + 4 * k)) l)) := by
          unfold sub
          rw [List.drop_take, List.drop_drop]
          congr 2
          omega
        simp only [rdExts, List.range_succ, List.map_append, List.map_cons, List.map_nil, extV, List.flatMap_append, List.flatMap_cons, List.flatMap_nil, List.append_nil, e1, e2, hA, hB]
      go_wp2
      have hlt : w.heap.size < wr.heap.size := (Array.getElem?_eq_some_iff.1 HH.out).1
      refine wp_region_rr2 12 (fun w' => Below wr.heap.size wr w') (by kernel_rfl) (by kernel_rfl) (fun w w' h g => h.trans (g.mono h.size)) (Below.refl _ _).drew ?_
      repeat
        apply RR2_run
        focus rfl
        focus rfl
        focus rfl
        focus
          intro w2 hS
          have e2 := (hS.cell (p := ⟨w.heap.size, 2, none⟩) hlt).trans (cell_of_row wr w.heap.size 2 _ 27 (0, 0) HH.out)
          go_wp2_with (((with_reducible refine (getS_any _ (by simp; omega) _).mono ?_); rintro e w3 ⟨rfl, rfl⟩))
          exact ⟨rfl, by first | exact Grew.refl _ | assumption⟩
        focus exact ⟨_, rfl⟩
      refine RR2_mk (extAt A B) 43 rfl (extAt_stable _ _) (by simp) rfl rfl rfl (fun w2 hS => ?_) ?_
      focus
        go_wp2
        refine ⟨⟨_, rfl, _, rfl, ?_, ?_⟩, (Below.refl _ _).alloc (Nat.le_refl _) _⟩
        · rw [cell_of_row _ _ _ _ _ _ (heap_alloc_last w2 _)]; rfl
        · rw [cell_of_row _ _ _ _ _ _ (heap_alloc_last w2 _)]; rfl
      refine RR2_end fun ρ w2 hS hpend => ?_
      simp only [overlay, List.foldl_cons, List.foldl_nil, List.nil_append, List.cons_append, Act.put, List.setIfInBounds_toArray, List.set_cons_zero, List.set_cons_succ]
      obtain ⟨b, hv, hc, hd⟩ := hpend (11, 43, extAt A B) (by simp)
      simp only at hv
      generalize ρ 11 = v11 at *
      subst hv
      have hrow2 := ownsRow_below hrow hS
      have hh2 : w2.heap[w.heap.size]? = some (.cells #[.string (readIno l).name, .int .i64 (z : Int), v] 27 (0, 0)) := (hS.block _ hlt).trans HH.out
      have hnews : ∀ (j : Nat) (u : Value), [Value.int .i64 (A : Int), .int .i64 (B : Int)][j]? = some u → w2.cell? ((⟨b, 0, none⟩ : Addr).add j) = some u := fun j u hu => by
        cases j with
        | zero => simp at hu; subst hu; simpa [Addr.add] using hc
        | succ j => cases j with
          | zero => simp at hu; subst hu; simpa [Addr.add] using hd
          | succ j => simp at hu
      have HN2 := Lib.hid hnews
      have HH2 := Lib.hid hh2
      have hbs := hb.size
      have hss := hS.size
      obtain ⟨i0, hi, hz0, hz1, hz2⟩ := info_parts info_ext
      have hz1 := Lib.hid hz1
      have hz2 := Lib.hid hz2
      have hz0 := Lib.hid hz0
      have hi := Lib.hid hi
      have hrowlt := Lib.hid hrow2.lt
      clear hpend hnews hh2 hc hd hA hB
      go_wp2_with (at_builtin; refine wpList_append_own _ rfl _ _ 25 rfl (w.heap.size + 1) 38 i0 _ 2 16 Try.underlying25 hi.out hz0.out hz1.out hz2.out rfl (by decide) _ _ _ rfl hrow2 ⟨b, 0, none⟩ 1 1 [.int .i64 (A : Int), .int .i64 (B : Int)] rfl rfl HN2.out (by simp [Value.oneCell']) (by unfold maxLen; omega) (by omega) (by omega) ?_; intro v' w3 hown' hgrow' _; obtain ⟨g', cap', rfl⟩ := row_succ hown'; have hh3 := (hgrow'.block w.heap.size (by omega) (fun e => by have := (hrowlt.out _ e.symm).1; omega)).trans HH2.out; have hc3 := cell_of_row w3 w.heap.size 2 _ 27 (0, 0) hh3; have hf3 := frozen_of_row w3 w.heap.size 2 _ 27 hh3; have H3 := Lib.hid (heap_setCell_same w3 w.heap.size 2 _ 27 (.slice (some ⟨g', 0, none⟩) (k + 1) cap') hh3); have HO := Lib.hid hown'; have HG := Lib.hid hgrow'; clear hh3 hown' hgrow')
      go_roundw
      case rel =>
        refine ⟨k + 1, _, by omega, by go_num, H3.out, ?_, ?_⟩
        · rw [HE.out]
          exact ownsRow_setCell_below HO.out (Nat.lt_succ_self _) _
        · refine ((hb.trans (hS.mono hb.size)).trans (below_of_grown HG.out (by omega) fun r hr => ?_)).setCell (Nat.le_refl _) _
          have := (hrowlt.out r hr).1
          omega
      case measure => simp [intOf]; omega
    · obtain rfl : k = n := by omega
      obtain ⟨a, c, rfl⟩ := owns_slice hrow
      have hlr : rdExts l k = (readIno l).exts := by
        show _ = (List.range (min (l.getD 101 0).toNat 8)).map _
        have : l.getD 101 0 = l[101]'(by omega) := by simp [List.getD_eq_getElem?_getD, List.getElem?_eq_getElem (show 101 < l.length by omega)]
        rw [this, HN.out]
        rfl
      have hlen : (readIno l).exts.length = k := by rw [← hlr]; simp [rdExts]
      have hsz : (readIno l).size = (z : Int) := by rw [HS.out]; rfl
      rw [hlr] at hrow
      have H3 := Lib.hid (setRow_heap wr w.heap.size _ #[.string (readIno l).name, .int .i64 (z : Int), .slice a k c] 27 (0, 0) hh)
      have HH := Lib.hid hh
      have Hr := Lib.hid hrow
      have Hlen := Lib.hid hlen
      have Hsz := Lib.hid hsz
      have Hinf := Lib.hid (show (Try.prog.info? 27).map (·.size) = some (#[.string (readIno l).name, .int .i64 (z : Int), .slice a k c] : Array Value).size by kernel_rfl)
      have Hone := Lib.hid (show (#[.string (readIno l).name, .int .i64 (z : Int), .slice a k c] : Array Value).all (·.oneCell') = true by simp [Value.oneCell'])
      clear hh hrow hlr hlen hsz
      go_wp2_with (first | (refine wpList_load_row rfl 27 _ rfl w.heap.size rfl _ _ _ _ HH.out Try.underlying27 rfl Hinf.out ?_) | (refine wpList_store_row rfl 27 _ _ rfl w.heap.size _ rfl rfl _ _ HH.out Hinf.out rfl Hone.out ?_))
      refine bodyPost_ret (v := .agg #[.string (readIno l).name, .int .i64 (z : Int), .slice a k c]) (results_cell_row rfl _ _ w.heap.size _ _ _ _ rfl H3.out Try.underlying27 rfl Hinf.out) rfl ⟨a, c, by rw [Hlen.out, Hsz.out], slE_of_owns (Hr.out.kept (grownBy_setRow _ _ _) ?_), fun ad e => ?_, below_setRow hb (Nat.le_refl _) _⟩
      rotate_left
      · subst e
        have := (Hr.out.lt ad.block rfl).1
        omega
      right
      intro e
      cases hv : (Value.slice a k c).ownBlock with
      | none => rw [hv] at e; cases e
      | some r =>
        have := (Hr.out.lt r hv).1
        rw [hv] at e
        injection e with e
        omega
theorem SlE.setCell {w : World} {a : Option Addr} {l : List Ext} (h : SlE w a l) (p : Addr) (v : Value) (hp : ∀ ad, a = some ad → p.block ≠ ad.block) : SlE (w.setCell p v) a l := fun k hk => by
  obtain ⟨b, off, rfl, h1, h2⟩ := h k hk
  have hne : b ≠ p.block := fun e => hp _ rfl e.symm
  exact ⟨b, off, rfl, (World.cell?_of_block (w := w) (Below.heap_setCell _ _ _ _ hne)).trans h1, (World.cell?_of_block (w := w) (Below.heap_setCell _ _ _ _ hne)).trans h2⟩

theorem getB_sub_lt (l : List UInt8) (a n : Nat) : getB (sub l a n) < 256 ^ n :=
  Nat.lt_of_lt_of_le (getB_lt _) (Nat.pow_le_pow_right (by decide) (by simp [sub]; omega))

theorem readIno_bounds (l : List UInt8) : (readIno l).name.size ≤ 96 ∧ 0 ≤ (readIno l).size ∧ (readIno l).size < 4294967296 ∧ (readIno l).exts.length ≤ 8 ∧ ExtsI64 (readIno l).exts := by
  refine ⟨?_, ?_, ?_, ?_, ?_⟩
  · show (sub l 1 _).toArray.size ≤ 96
    simp [sub]
    omega
  · exact Int.natCast_nonneg _
  · have := getB_sub_lt l 97 4
    show ((getB (sub l 97 4) : Nat) : Int) < _
    omega
  · simp [readIno]
    omega
  · intro x hx
    simp only [readIno, List.mem_map] at hx
    obtain ⟨k, _, rfl⟩ := hx
    have h1 := getB_sub_lt l (102 + 4 * k) 2
    have h2 := getB_sub_lt l (104 + 4 * k) 2
    simp only [inI64]
    omega
end Go.Proofs.Ytffgjjhopopgcaa
