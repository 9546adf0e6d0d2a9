/-
  The walks of seen and with.
-/
import Derived.Test.YtffgjjhopopgcaaWb
namespace Go.Proofs.Ytffgjjhopopgcaa
set_option linter.unusedVariables false
set_option linter.unusedSimpArgs false
open Go.RowKit
set_option maxRecDepth 100000
set_option maxHeartbeats 8000000

/-! ### eight bytes -/
def row8 (l : List UInt8) : Array Value := (l.map fun c => .int .u8 c.toNat).toArray
theorem info79 : (Try.prog.info? 79).map (fun i => (i.zero, i.size)) = some (some (.agg (Array.replicate 8 (.int .u8 0))), 8) := by kernel_rfl
theorem row8_size (l : List UInt8) : (row8 l).size = l.length := by simp [row8]
theorem row8_zero : row8 (zeros 8) = Array.replicate 8 (.int .u8 0) := rfl
theorem row8_get (l : List UInt8) (i : Nat) (h : i < l.length) : (row8 l)[i]? = some (.int .u8 l[i].toNat) := by simp [row8, h]
theorem row8_set (l : List UInt8) (i : Nat) (c : UInt8) : (row8 l).setIfInBounds i (.int .u8 c.toNat) = row8 (l.set i c) := by
  unfold row8
  rw [List.setIfInBounds_toArray, List.map_set]
theorem row8_one (l : List UInt8) : (row8 l).all (·.oneCell') = true := by
  unfold row8
  rw [List.all_toArray, List.all_map, List.all_eq_true]
  intro i _
  rfl
theorem row8_inj {l m : List UInt8} (h : row8 l = row8 m) : l = m := by
  unfold row8 at h
  have h2 : l.map (fun c => Value.int .u8 c.toNat) = m.map (fun c => Value.int .u8 c.toNat) := by simpa using h
  clear h
  induction l generalizing m with
  | nil =>
    cases m with
    | nil => rfl
    | cons y m => simp at h2
  | cons x l ih =>
    cases m with
    | nil => simp at h2
    | cons y m =>
      simp only [List.map_cons, List.cons.injEq, Value.int.injEq, true_and] at h2
      have e : x = y := UInt8.toNat_inj.1 (by have := h2.1; omega)
      rw [e, ih h2.2]
theorem size8 (l : List UInt8) (h : l.length = 8) : (Try.prog.info? 79).map (·.size) = some (row8 l).size := by
  rw [row8_size, h]
  exact (zero_of_info info79).2
/-- Its first byte. -/
def byte0 (s : ByteArray) : UInt8 := (bOf s).getD 0 0
theorem byte0_eq (s : ByteArray) (h : 0 < s.size) : s[0] = byte0 s := by
  unfold byte0 bOf
  rw [List.getD, List.getElem?_eq_getElem (by rw [Array.length_toList]; exact h)]
  rfl
theorem byte0_sector (c : UInt8) : byte0 (sectorB c) = c := by
  unfold byte0 sectorB
  rw [bOf_mk]
  rfl

theorem results_row_tmp {P : Program} {fn : Func} {p q : Tmp} {ty : TypeId} (h : fn.results = #[.cell p ty, .tmp q]) (tmps : Array Value) (w : World) (g : Nat) (t : TypeId) (cs : Array Value) (fr : Nat × Nat) (d : TypeDesc) (v : Value)
    (hp : tmps.getD p undef = .pointer (some ⟨g, 0, none⟩)) (hg : w.heap[g]? = some (.cells cs t fr)) (hv : tmps.getD q undef = v)
    (hu : P.underlying ty = some d) (hd : (match d with | .struct _ | .array _ _ => true | _ => false) = true) (hi : (P.info? ty).map (·.size) = some cs.size) :
    (results fn tmps).run P w = .ok (.tuple #[.agg cs, v]) w := by
  have hp' : tmps[p]?.getD undef = .pointer (some ⟨g, 0, none⟩) := by simpa using hp
  have hv' : tmps[q]?.getD undef = v := by simpa using hv
  simp [results, h, hp', hv', asAddr, run_loadVar_row w g t ty cs fr d hg hu hd hi]

/-! ### seen -/
def seenGo (R : Nat → ByteArray × Int) : Nat → Nat → List UInt8 → List UInt8 × Bool
  | 0, _, out => (out, true)
  | m + 1, i, out => if (R i).2 = 0 ∧ (R i).1.size = 512 ∧ (R i).1 = sectorB (byte0 (R i).1) then seenGo R m (i + 1) (out.set i (byte0 (R i).1)) else (out, false)
def seenL (R : Nat → ByteArray × Int) : List UInt8 × Bool := seenGo R 8 0 (zeros 8)
theorem seenGo_length (R : Nat → ByteArray × Int) : ∀ m i out, (seenGo R m i out).1.length = out.length := by
  intro m
  induction m with
  | zero => intro i out; rfl
  | succ m ih =>
    intro i out
    rw [seenGo]
    split
    · rw [ih]; simp
    · rfl
theorem seenGo_congr {R R' : Nat → ByteArray × Int} : ∀ m i out, (∀ j, i ≤ j → j < i + m → R j = R' j) → seenGo R m i out = seenGo R' m i out := by
  intro m
  induction m with
  | zero => intro i out _; rfl
  | succ m ih =>
    intro i out h
    rw [seenGo, seenGo, h i (by omega) (by omega), ih (i + 1) _ fun j h1 h2 => h j (by omega) (by omega)]
theorem seenGo_good {R : Nat → ByteArray × Int} {b : List UInt8} (hb : b.length = 8) : ∀ m i out, i + m = 8 → out.length = 8 → (∀ j (h : j < 8), i ≤ j → R j = (sectorB (b[j]'(by omega)), 0)) → (∀ j (h : j < 8), j < i → out[j]? = some (b[j]'(by omega))) → seenGo R m i out = (b, true) := by
  intro m
  induction m with
  | zero =>
    intro i out h1 h2 _ h4
    have : out = b := by
      apply List.ext_getElem?
      intro j
      by_cases hj : j < 8
      · rw [h4 j hj (by omega), List.getElem?_eq_getElem]
      · rw [List.getElem?_eq_none (by omega), List.getElem?_eq_none (by omega)]
    rw [seenGo, this]
  | succ m ih =>
    intro i out h1 h2 h3 h4
    have hi : i < 8 := by omega
    rw [seenGo, h3 i hi (Nat.le_refl _)]
    rw [if_pos ⟨rfl, sectorB_size _, by rw [byte0_sector]⟩]
    refine ih (i + 1) _ (by omega) (by simpa using h2) (fun j hj hij => h3 j hj (by omega)) fun j hj hij => ?_
    rw [byte0_sector]
    by_cases e : j = i
    · subst e
      rw [List.getElem?_set_self (by omega)]
    · rw [List.getElem?_set_ne (by omega)]
      exact h4 j hj (by omega)

theorem seen_any {w : World} {K : Nat → Prop} {jp p : Nat} {J : Jn} {D : Dk} (h : JAt w K jp p J D) :
    Calls Try.prog 39 #[.pointer (some ⟨jp, 0, none⟩)] w (Ret w (.tuple #[.agg (row8 (seenL fun i => J.read D i).1), .bool (seenL fun i => J.read D i).2])) := by
  have HRD := Lib.hid (fun (w' : World) (hb : Below w.heap.size w w') (n : Int) (hn : inL n) => jread_any (h.below hb) n hn)
  have HSC := Lib.hid (fun c w => sector_any c w)
  generalize hL : (seenL fun i => J.read D i) = res
  have HL := Lib.hid hL
  generalize hR : Ret w (.tuple #[.agg (row8 res.1), .bool res.2]) = R
  have HR := Lib.hid hR
  clear hL hR
  have hz : ∀ w : World, (zeroValue 79).run Try.prog w = .ok (.agg (row8 (zeros 8))) w := fun w => by
    rw [row8_zero]
    exact (zero_of_info info79).1 w
  have hz0 : (row8 (zeros 8)).size = 8 := rfl
  generalize hT : row8 (zeros 8) = T0 at hz hz0
  have HT := Lib.hid hT
  clear hT h
  go_enter Try.func39, Try.ntmps39
  go_wp2
  have h0 := heap_alloc_last w (.cells T0 79)
  have hb1 := (Below.refl w.heap.size w).alloc (Nat.le_refl _) (.cells T0 79)
  have hb2 := hb1.alloc (Nat.le_of_lt (by simp : w.heap.size < (w.alloc (.cells T0 79)).heap.size)) (.cells T0 79)
  have hA : ((w.alloc (.cells T0 79)).alloc (.cells T0 79)).heap[w.heap.size]? = some (.cells T0 79 (0, 0)) := by
    rw [heap_alloc_old _ _ (by simp)]
    exact h0
  have hB : ((w.alloc (.cells T0 79)).alloc (.cells T0 79)).heap[w.heap.size + 1]? = some (.cells T0 79 (0, 0)) := by
    have := heap_alloc_last (w.alloc (.cells T0 79)) (.cells T0 79)
    simpa using this
  generalize (w.alloc (.cells T0 79)).alloc (.cells T0 79) = W0 at *
  have hL0 : seenGo (fun i => J.read D i) 8 0 (zeros 8) = res := HL.out
  go_loopw [5] (fun i wr => ∃ (k : Nat) (out : List UInt8), k ≤ 8 ∧ i = .int .i64 k ∧ out.length = 8 ∧ seenGo (fun i => J.read D i) (8 - k) k out = res ∧ wr.heap[w.heap.size]? = some (.cells T0 79 (0, 0)) ∧ wr.heap[w.heap.size + 1]? = some (.cells (row8 out) 79 (0, 0)) ∧ Below w.heap.size w wr) (fun i _ => 8 - (intOf i).toNat)
  case atStart => exact ⟨0, zeros 8, by omega, rfl, rfl, hL0, hA, by rw [HT.out]; exact hB, hb2⟩
  case round =>
    obtain ⟨k, out, hk, rfl, hlen, hgo, hra, hrb, hb⟩ := hrel
    clear hA hB hb1 hb2 hL0 h0 HL
    by_cases hlt : k < 8
    · have hrd := fun (w' : World) (hb' : Below wr.heap.size wr w') => HRD.out w' (hb.trans (hb'.mono hb.size)) (k : Int) (by unfold inL; omega)
      have hm : 8 - k = (8 - (k + 1)) + 1 := by omega
      rw [hm, seenGo] at hgo
      generalize J.read D (k : Int) = rr at *
      obtain ⟨s, e⟩ := rr
      simp only at hgo hrd
      have HRK := Lib.hid (hrd wr (Below.refl _ _))
      have HGO := Lib.hid hgo
      have HA := Lib.hid hra
      have HB := Lib.hid hrb
      have HBB := Lib.hid hb
      have Hsz := Lib.hid (size8 out hlen)
      have Hone := Lib.hid (row8_one out)
      have HzT := Lib.hid (show T0.size = (row8 out).size by rw [hz0, row8_size, hlen])
      clear hgo hra hrb hb hrd
      cases he : (e == 0) with
      | false =>
        have HF := Lib.hid (HGO.out.symm.trans (if_neg (by rintro ⟨h, _⟩; simp at he; exact he h)))
        have he2 : (e != 0) = true := by simpa using he
        go_wp2_with (first | (go_at_call 32; refine HRK.out.mono ?_; rintro e w3 ⟨rfl, hb3⟩; have HA3 := Lib.hid ((hb3.block w.heap.size (Array.getElem?_eq_some_iff.1 HA.out).1).trans HA.out); have HB3 := Lib.hid ((hb3.block (w.heap.size + 1) (Array.getElem?_eq_some_iff.1 HB.out).1).trans HB.out); have HBB3 := Lib.hid (HBB.out.trans (hb3.mono HBB.out.size)); have HS3 := Lib.hid (setRow_heap w3 w.heap.size T0 (row8 out) 79 (0, 0) ((hb3.block w.heap.size (Array.getElem?_eq_some_iff.1 HA.out).1).trans HA.out)); clear hb3) | (refine wpList_load_row rfl 79 _ rfl (w.heap.size + 1) rfl _ _ _ _ HB3.out Try.underlying79 rfl Hsz.out ?_) | (refine wpList_store_row rfl 79 _ _ rfl w.heap.size _ rfl rfl _ _ HA3.out Hsz.out HzT.out Hone.out ?_))
        rw [← HR.out, HF.out]
        exact bodyPost_ret (v := .tuple #[.agg (row8 out), .bool false]) (results_row_tmp rfl _ _ w.heap.size _ _ _ _ _ rfl HS3.out rfl Try.underlying79 rfl Hsz.out) rfl ⟨rfl, below_setRow HBB3.out (Nat.le_refl _) _⟩
      | true =>
        have he2 : (e != 0) = false := by simpa using he
        by_cases hsz : s.size = 512
        · have hs1 : ((s.size : Int) != 512) = false := by rw [hsz]; rfl
          have h0s : 0 < s.size := by omega
          have hbe := byte0_eq s h0s
          by_cases hq : s = sectorB (byte0 s)
          · have hq1 : (s.toList == (sectorB (s[0]'h0s)).toList) = true := by rw [toList_beq2, hbe]; simpa using hq
            have HF := Lib.hid ((if_pos ⟨by simpa using he, hsz, hq⟩).symm.trans HGO.out)
            have HBE := Lib.hid hbe
            have HSET := Lib.hid (row8_set out k (byte0 s))
            clear hbe hq
            go_wp2_with (first | (go_at_call 32; refine HRK.out.mono ?_; rintro e w3 ⟨rfl, hb3⟩; have HA3 := Lib.hid ((hb3.block w.heap.size (Array.getElem?_eq_some_iff.1 HA.out).1).trans HA.out); have HB3 := Lib.hid ((hb3.block (w.heap.size + 1) (Array.getElem?_eq_some_iff.1 HB.out).1).trans HB.out); have HBB3 := Lib.hid (HBB.out.trans (hb3.mono HBB.out.size)); have HS3 := Lib.hid (setRow_heap w3 w.heap.size T0 (row8 out) 79 (0, 0) ((hb3.block w.heap.size (Array.getElem?_eq_some_iff.1 HA.out).1).trans HA.out)); clear hb3) | (go_at_call 31; refine (HSC.out _ _).mono ?_; rintro e w4 ⟨rfl, hb4⟩; have HA4 := Lib.hid ((hb4.block w.heap.size (Array.getElem?_eq_some_iff.1 HA3.out).1).trans HA3.out); have HB4 := Lib.hid ((hb4.block (w.heap.size + 1) (Array.getElem?_eq_some_iff.1 HB3.out).1).trans HB3.out); have HBB4 := Lib.hid (HBB3.out.trans (hb4.mono HBB3.out.size)); have HS4 := Lib.hid (setRow_heap w4 w.heap.size T0 (row8 out) 79 (0, 0) ((hb4.block w.heap.size (Array.getElem?_eq_some_iff.1 HA3.out).1).trans HA3.out)); have hc4 := cell_of_row w4 (w.heap.size + 1) k (row8 out) 79 (0, 0) HB4.out; rw [row8_get out k (by omega)] at hc4; have hf4 := frozen_of_row w4 (w.heap.size + 1) k (row8 out) 79 HB4.out; have HX4 := Lib.hid (heap_setCell_same w4 (w.heap.size + 1) k (row8 out) 79 (.int .u8 (s[0]'(by omega)).toNat) HB4.out); have HO4 := Lib.hid ((Below.heap_setCell w4 ⟨w.heap.size + 1, k, none⟩ (.int .u8 (s[0]'(by omega)).toNat) w.heap.size (by show w.heap.size ≠ w.heap.size + 1; omega)).trans HA4.out); clear hb4))
            go_roundw
            case rel =>
              refine ⟨k + 1, out.set k (byte0 s), by omega, by go_num, by simpa using hlen, HF.out, HO4.out, ?_, HBB4.out.setCell (by simp) _⟩
              rw [HX4.out, HBE.out, HSET.out]
            case measure => simp [intOf]; omega
          · have hq1 : (s.toList == (sectorB (s[0]'h0s)).toList) = false := by rw [toList_beq2, hbe]; simpa using hq
            have HF := Lib.hid (HGO.out.symm.trans (if_neg (by rintro ⟨_, _, h⟩; exact hq h)))
            clear hbe hq
            go_wp2_with (first | (go_at_call 32; refine HRK.out.mono ?_; rintro e w3 ⟨rfl, hb3⟩; have HA3 := Lib.hid ((hb3.block w.heap.size (Array.getElem?_eq_some_iff.1 HA.out).1).trans HA.out); have HB3 := Lib.hid ((hb3.block (w.heap.size + 1) (Array.getElem?_eq_some_iff.1 HB.out).1).trans HB.out); have HBB3 := Lib.hid (HBB.out.trans (hb3.mono HBB.out.size)); have HS3 := Lib.hid (setRow_heap w3 w.heap.size T0 (row8 out) 79 (0, 0) ((hb3.block w.heap.size (Array.getElem?_eq_some_iff.1 HA.out).1).trans HA.out)); clear hb3) | (go_at_call 31; refine (HSC.out _ _).mono ?_; rintro e w4 ⟨rfl, hb4⟩; have HA4 := Lib.hid ((hb4.block w.heap.size (Array.getElem?_eq_some_iff.1 HA3.out).1).trans HA3.out); have HB4 := Lib.hid ((hb4.block (w.heap.size + 1) (Array.getElem?_eq_some_iff.1 HB3.out).1).trans HB3.out); have HBB4 := Lib.hid (HBB3.out.trans (hb4.mono HBB3.out.size)); have HS4 := Lib.hid (setRow_heap w4 w.heap.size T0 (row8 out) 79 (0, 0) ((hb4.block w.heap.size (Array.getElem?_eq_some_iff.1 HA3.out).1).trans HA3.out)); clear hb4) | (refine wpList_load_row rfl 79 _ rfl (w.heap.size + 1) rfl _ _ _ _ HB4.out Try.underlying79 rfl Hsz.out ?_) | (refine wpList_store_row rfl 79 _ _ rfl w.heap.size _ rfl rfl _ _ HA4.out Hsz.out HzT.out Hone.out ?_))
            rw [← HR.out, HF.out]
            exact bodyPost_ret (v := .tuple #[.agg (row8 out), .bool false]) (results_row_tmp rfl _ _ w.heap.size _ _ _ _ _ rfl HS4.out rfl Try.underlying79 rfl Hsz.out) rfl ⟨rfl, below_setRow HBB4.out (Nat.le_refl _) _⟩
        · have hs1 : ((s.size : Int) != 512) = true := by simp; omega
          have HF := Lib.hid (HGO.out.symm.trans (if_neg (by rintro ⟨_, h, _⟩; exact hsz h)))
          go_wp2_with (first | (go_at_call 32; refine HRK.out.mono ?_; rintro e w3 ⟨rfl, hb3⟩; have HA3 := Lib.hid ((hb3.block w.heap.size (Array.getElem?_eq_some_iff.1 HA.out).1).trans HA.out); have HB3 := Lib.hid ((hb3.block (w.heap.size + 1) (Array.getElem?_eq_some_iff.1 HB.out).1).trans HB.out); have HBB3 := Lib.hid (HBB.out.trans (hb3.mono HBB.out.size)); have HS3 := Lib.hid (setRow_heap w3 w.heap.size T0 (row8 out) 79 (0, 0) ((hb3.block w.heap.size (Array.getElem?_eq_some_iff.1 HA.out).1).trans HA.out)); clear hb3) | (refine wpList_load_row rfl 79 _ rfl (w.heap.size + 1) rfl _ _ _ _ HB3.out Try.underlying79 rfl Hsz.out ?_) | (refine wpList_store_row rfl 79 _ _ rfl w.heap.size _ rfl rfl _ _ HA3.out Hsz.out HzT.out Hone.out ?_))
          rw [← HR.out, HF.out]
          exact bodyPost_ret (v := .tuple #[.agg (row8 out), .bool false]) (results_row_tmp rfl _ _ w.heap.size _ _ _ _ _ rfl HS3.out rfl Try.underlying79 rfl Hsz.out) rfl ⟨rfl, below_setRow HBB3.out (Nat.le_refl _) _⟩
    · obtain rfl : k = 8 := by omega
      have HF := Lib.hid (show (out, true) = res from hgo)
      have HA := Lib.hid hra
      have HB3 := Lib.hid hrb
      have HBB := Lib.hid hb
      have Hsz := Lib.hid (size8 out hlen)
      have Hone := Lib.hid (row8_one out)
      have HzT := Lib.hid (show T0.size = (row8 out).size by rw [hz0, row8_size, hlen])
      have HS3 := Lib.hid (setRow_heap wr w.heap.size T0 (row8 out) 79 (0, 0) hra)
      clear hgo hra hrb hb
      go_wp2_with (first | (refine wpList_load_row rfl 79 _ rfl (w.heap.size + 1) rfl _ _ _ _ HB3.out Try.underlying79 rfl Hsz.out ?_) | (refine wpList_store_row rfl 79 _ _ rfl w.heap.size _ rfl rfl _ _ HA.out Hsz.out HzT.out Hone.out ?_))
      rw [← HR.out, ← HF.out]
      exact bodyPost_ret (v := .tuple #[.agg (row8 out), .bool true]) (results_row_tmp rfl _ _ w.heap.size _ _ _ _ _ rfl HS3.out rfl Try.underlying79 rfl Hsz.out) rfl ⟨rfl, below_setRow HBB.out (Nat.le_refl _) _⟩

/-! ### with -/
def withL (a : List UInt8) (l : List Wr) : List UInt8 := l.foldl (fun a x => a.set x.sec.toNat (byte0 x.data)) a
theorem withL_length (l : List Wr) : ∀ a, (withL a l).length = a.length := by
  induction l with
  | nil => intro a; rfl
  | cons x l ih => intro a; exact (ih _).trans (by simp)
theorem withL_take (a : List UInt8) (l : List Wr) (k : Nat) (h : k < l.length) : withL a (l.take (k + 1)) = (withL a (l.take k)).set l[k].sec.toNat (byte0 l[k].data) := by
  rw [List.take_succ_eq_append_getElem h]
  unfold withL
  rw [List.foldl_append]
  rfl
theorem with_any (out : List UInt8) (hlen : out.length = 8) (a : Option Addr) (c : Nat) (l : List Wr) (hl : l.length ≤ 1000000) (hw : ∀ x ∈ l, 0 ≤ x.sec ∧ x.sec < 8 ∧ x.data.size = 512) (w : World) (hs : SlW w a l) :
    Calls Try.prog 40 #[.agg (row8 out), .slice a l.length c] w (Ret w (.agg (row8 (withL out l)))) := by
  generalize hR : Ret w (.agg (row8 (withL out l))) = R
  have HR := Lib.hid hR
  clear hR
  have hz : ∀ w : World, (zeroValue 79).run Try.prog w = .ok (.agg (row8 (zeros 8))) w := fun w => by
    rw [row8_zero]
    exact (zero_of_info info79).1 w
  have hz0 : (row8 (zeros 8)).size = 8 := rfl
  generalize row8 (zeros 8) = T0 at hz hz0
  have HS := Lib.hid hs
  clear hs
  go_enter Try.func40, Try.ntmps40
  go_wp2
  have h0 := heap_alloc_last w (.cells (row8 out) 79)
  have hb1 := (Below.refl w.heap.size w).alloc (Nat.le_refl _) (.cells (row8 out) 79)
  have hb2 := hb1.alloc (Nat.le_of_lt (by simp : w.heap.size < (w.alloc (.cells (row8 out) 79)).heap.size)) (.cells T0 79)
  have hA : ((w.alloc (.cells (row8 out) 79)).alloc (.cells T0 79)).heap[w.heap.size]? = some (.cells (row8 out) 79 (0, 0)) := by
    rw [heap_alloc_old _ _ (by simp)]
    exact h0
  have hB : ((w.alloc (.cells (row8 out) 79)).alloc (.cells T0 79)).heap[w.heap.size + 1]? = some (.cells T0 79 (0, 0)) := by
    have := heap_alloc_last (w.alloc (.cells (row8 out) 79)) (.cells T0 79)
    simpa using this
  generalize (w.alloc (.cells (row8 out) 79)).alloc (.cells T0 79) = W0 at *
  go_loopw [5] (fun i wr => ∃ k : Nat, k ≤ l.length ∧ i = .int .i64 k ∧ wr.heap[w.heap.size]? = some (.cells (row8 (withL out (l.take k))) 79 (0, 0)) ∧ wr.heap[w.heap.size + 1]? = some (.cells T0 79 (0, 0)) ∧ Below w.heap.size w wr) (fun i _ => l.length - (intOf i).toNat)
  case atStart => exact ⟨0, by omega, rfl, hA, hB, hb2⟩
  case round =>
    obtain ⟨k, hk, rfl, hra, hrb, hb⟩ := hrel
    clear hA hB hb1 hb2 h0
    have hlo : (withL out (l.take k)).length = 8 := by rw [withL_length, hlen]
    by_cases hlk : k < l.length
    · obtain ⟨b, off, rfl, q0, q1⟩ := HS.out.below hb k hlk
      obtain ⟨w1, w2, w3⟩ := hw l[k] (List.getElem_mem hlk)
      have HT := Lib.hid (withL_take out l k hlk)
      obtain ⟨n, hn⟩ : ∃ n : Nat, l[k].sec = n := ⟨l[k].sec.toNat, by omega⟩
      rw [hn] at HT q0 w1 w2
      rw [Int.toNat_natCast] at HT
      generalize l[k].data = s at *
      generalize hV : withL out (l.take k) = V at *
      have hn8 : n < 8 := by omega
      have h0s : 0 < s.size := by omega
      have hsz : ((s.size : Nat) : Int) = 512 := by omega
      have HA := Lib.hid hra
      have HB := Lib.hid hrb
      have HBB := Lib.hid hb
      have HQ := Lib.hid (And.intro q0 (And.intro q1 (World.block_lt_of_cell? _ _ q0)))
      clear hra hrb hb
      go_wp2
      clear q0 q1
      refine wp_region_rr 12 (fun w' => Below wr.heap.size wr w') (by kernel_rfl) (by kernel_rfl) (Below.refl _ _).drew ?_
      iterate 12
        (apply RR_run
         focus rfl
         focus
           intro w4 hS
           have q0 := (hS.cell (p := ⟨b, off + k * 2, none⟩) HQ.out.2.2).trans HQ.out.1
           have q1 := (hS.cell (p := ⟨b, off + k * 2 + 1, none⟩) HQ.out.2.2).trans HQ.out.2.1
           go_wp2
           exact ⟨rfl, hS⟩
         focus exact ⟨_, rfl⟩)
      refine RR_end fun w4 hS => ?_
      have HA4 := Lib.hid ((hS.block w.heap.size (Array.getElem?_eq_some_iff.1 HA.out).1).trans HA.out)
      have HB4 := Lib.hid ((hS.block (w.heap.size + 1) (Array.getElem?_eq_some_iff.1 HB.out).1).trans HB.out)
      have HBB4 := Lib.hid (HBB.out.trans (hS.mono HBB.out.size))
      have hc4 := cell_of_row w4 w.heap.size n (row8 V) 79 (0, 0) HA4.out
      rw [row8_get V n (by omega)] at hc4
      have hf4 := frozen_of_row w4 w.heap.size n (row8 V) 79 HA4.out
      have HX4 := Lib.hid (heap_setCell_same w4 w.heap.size n (row8 V) 79 (.int .u8 (s[0]'h0s).toNat) HA4.out)
      have HO4 := Lib.hid ((Below.heap_setCell w4 ⟨w.heap.size, n, none⟩ (.int .u8 (s[0]'h0s).toNat) (w.heap.size + 1) (by show w.heap.size + 1 ≠ w.heap.size; omega)).trans HB4.out)
      have HBE := Lib.hid (byte0_eq s h0s)
      have HSET := Lib.hid (row8_set V n (byte0 s))
      clear hS
      go_wp2
      go_roundw
      case rel =>
        refine ⟨k + 1, by omega, by go_num, ?_, HO4.out, HBB4.out.setCell (Nat.le_refl _) _⟩
        rw [HX4.out, HBE.out, HSET.out, HT.out]
      case measure => simp [intOf]; omega
    · obtain rfl : k = l.length := by omega
      rw [List.take_length] at hra hlo
      generalize withL out l = V at *
      have HA := Lib.hid hra
      have HB := Lib.hid hrb
      have HBB := Lib.hid hb
      have Hsz := Lib.hid (size8 V hlo)
      have Hone := Lib.hid (row8_one V)
      have HzT := Lib.hid (show T0.size = (row8 V).size by rw [hz0, row8_size, hlo])
      have HS3 := Lib.hid (setRow_heap wr (w.heap.size + 1) T0 (row8 V) 79 (0, 0) hrb)
      clear hra hrb hb
      go_wp2_with (first | (refine wpList_load_row rfl 79 _ rfl w.heap.size rfl _ _ _ _ HA.out Try.underlying79 rfl Hsz.out ?_) | (refine wpList_store_row rfl 79 _ _ rfl (w.heap.size + 1) _ rfl rfl _ _ HB.out Hsz.out HzT.out Hone.out ?_))
      rw [← HR.out]
      exact bodyPost_ret (v := .agg (row8 V)) (results_cell_row rfl _ _ (w.heap.size + 1) _ _ _ _ rfl HS3.out Try.underlying79 rfl Hsz.out) rfl ⟨rfl, below_setRow HBB.out (by simp) _⟩
/-- What a sector has behind writes is told by its byte. -/
theorem with_upd : ∀ (l : List Wr) (a : List UInt8) (U : Nat → ByteArray) (i : Nat), (∀ x ∈ l, 0 ≤ x.sec ∧ x.data = sectorB (byte0 x.data)) → (h : i < a.length) → U i = sectorB a[i] → upd l U i = sectorB ((withL a l)[i]'(by rw [withL_length]; exact h)) := by
  intro l
  induction l with
  | nil => intro a U i _ h e; exact e
  | cons x l ih =>
    intro a U i hx h e
    have h1 := hx x (by simp)
    refine ih (a.set x.sec.toNat (byte0 x.data)) _ i (fun y hy => hx y (List.mem_cons_of_mem _ hy)) (by simpa using h) ?_
    by_cases ei : x.sec = (i : Int)
    · rw [if_pos ei, List.getElem_set, if_pos (by omega)]
      exact h1.2
    · rw [if_neg ei, List.getElem_set, if_neg (by omega)]
      exact e
end Go.Proofs.Ytffgjjhopopgcaa
