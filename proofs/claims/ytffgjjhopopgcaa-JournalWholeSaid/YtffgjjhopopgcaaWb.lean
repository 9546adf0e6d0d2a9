/-
  The walk of an act's writes.
-/
import Derived.Test.YtffgjjhopopgcaaWa
namespace Go.Proofs.Ytffgjjhopopgcaa
set_option linter.unusedVariables false
set_option linter.unusedSimpArgs false
open Go.RowKit
set_option maxRecDepth 100000
set_option maxHeartbeats 8000000

/-- The i-th of an act's writes. -/
def wrOf (x : ActL) (size i : Nat) : Wr := ⟨(((x.n.getD i 0).toNat % max size 1 : Nat) : Int), sectorB (x.c + UInt8.ofNat i)⟩
/-- A write is taken, unless its sector is. -/
def took (l : List Wr) (x : Wr) : List Wr := if (l.any fun y => y.sec == x.sec) then l else l ++ [x]
def writesK (x : ActL) (size : Nat) : Nat → List Wr
  | 0 => []
  | k + 1 => took (writesK x size k) (wrOf x size k)
def writesL (x : ActL) (size : Nat) : List Wr := writesK x size x.n.length
theorem took_length (l : List Wr) (x : Wr) : (took l x).length ≤ l.length + 1 := by unfold took; split <;> simp
theorem writesK_length (x : ActL) (size : Nat) : ∀ k, (writesK x size k).length ≤ k := by
  intro k
  induction k with
  | zero => simp [writesK]
  | succ k ih => exact Nat.le_trans (took_length _ _) (by omega)
theorem wrOf_may (x : ActL) (size i : Nat) (hs : 1 ≤ size) : 0 ≤ (wrOf x size i).sec ∧ (wrOf x size i).sec < size ∧ (wrOf x size i).data.size = 512 := by
  refine ⟨by unfold wrOf; simp only; omega, ?_, sectorB_size _⟩
  unfold wrOf
  simp only
  have : (x.n.getD i 0).toNat % max size 1 < max size 1 := Nat.mod_lt _ (by omega)
  omega
theorem writesK_may (x : ActL) (size : Nat) (hs : 1 ≤ size) (m : Int) (hm : (size : Int) ≤ m) : ∀ k, mayW m (writesK x size k) = true := by
  intro k
  induction k with
  | zero => simp [writesK, mayW]
  | succ k ih =>
    rw [writesK]
    unfold took
    split
    · exact ih
    · rename_i hno
      rw [mayW_iff] at ih ⊢
      refine ⟨fun y hy => ?_, ?_⟩
      · rcases List.mem_append.1 hy with hy | hy
        · exact ih.1 y hy
        · simp only [List.mem_singleton] at hy
          subst hy
          have := wrOf_may x size k hs
          omega
      · rw [List.map_append, List.nodup_append]
        refine ⟨ih.2, by simp, ?_⟩
        intro a ha b hb e
        simp only [List.map_cons, List.map_nil, List.mem_singleton] at hb
        subst hb
        obtain ⟨y, hy, ey⟩ := List.mem_map.1 ha
        exact hno (List.any_eq_true.2 ⟨y, hy, by simp [ey, e]⟩)
theorem writesL_may (x : ActL) (size : Nat) (hs : 1 ≤ size) (m : Int) (hm : (size : Int) ≤ m) : mayW m (writesL x size) = true := writesK_may x size hs m hm _
theorem writesL_le (x : ActL) (size : Nat) : (writesL x size).length ≤ x.n.length := writesK_length x size _
theorem nodup_le (n : Nat) : ∀ (l : List Int), l.Nodup → (∀ x ∈ l, 0 ≤ x ∧ x < n) → l.length ≤ n := by
  induction n with
  | zero =>
    intro l _ h
    cases l with
    | nil => simp
    | cons x l => have := h x (by simp); omega
  | succ n ih =>
    intro l hn h
    have h1 := ih (l.filter fun x : Int => decide (x ≠ (n : Int))) (hn.filter _) fun x hx => by
      rw [List.mem_filter] at hx
      have := h x hx.1
      have h2 : x ≠ n := by simpa using hx.2
      omega
    have h2 : l.length ≤ (l.filter fun x : Int => decide (x ≠ (n : Int))).length + 1 := by
      clear h1 h ih
      induction l with
      | nil => simp
      | cons x l ih =>
        rw [List.nodup_cons] at hn
        by_cases e : x = n
        · have e2 : l.filter (fun x : Int => decide (x ≠ (n : Int))) = l := List.filter_eq_self.2 fun y hy => by
            rw [decide_eq_true_eq]
            intro e3
            exact hn.1 (by rw [e, ← e3]; exact hy)
          rw [List.filter_cons_of_neg (by simp [e]), e2]
          simp
        · rw [List.filter_cons_of_pos (by simp [e])]
          have := ih hn.2
          simp only [List.length_cons]
          omega
    omega
theorem writesL_size (x : ActL) (size : Nat) (hs : 1 ≤ size) : (writesL x size).length ≤ size := by
  have h := (mayW_iff _ _).1 (writesL_may x size hs size (Int.le_refl _))
  have := nodup_le size _ h.2 fun s hs => by
    obtain ⟨y, hy, rfl⟩ := List.mem_map.1 hs
    exact ⟨(h.1 y hy).1, (h.1 y hy).2.1⟩
  simpa using this

def wrAt0 (B : Nat) : Spec := fun v w => ∃ g, v = .pointer (some ⟨g, 0, none⟩) ∧ B ≤ g ∧ w.heap[g]? = some (.cells #[.int .i64 0, .string ⟨#[]⟩] 59 (0, 0))
theorem wrAt0_stable (B : Nat) : Stable (wrAt0 B) := fun v w w' ⟨g, hv, hB, hc⟩ hg => ⟨g, hv, hB, (hg.block g (Array.getElem?_eq_some_iff.1 hc).1).trans hc⟩
/-- What an act's writes leave. -/
def RetL (w : World) (l : List Wr) (e : Ending) (w' : World) : Prop := ∃ a c, e = .returned (.slice a l.length c) ∧ SlW w' a l ∧ (∀ ad, a = some ad → w.heap.size ≤ ad.block ∧ ad.block < w'.heap.size) ∧ Below w.heap.size w w'
theorem any_take_succ (l : List Wr) (j : Nat) (h : j < l.length) (s : Int) : ((l.take (j + 1)).any fun y => y.sec == s) = (((l.take j).any fun y => y.sec == s) || (l[j].sec == s)) := by
  rw [List.take_succ_eq_append_getElem h, List.any_append]
  simp only [List.any_cons, List.any_nil, Bool.or_false]

theorem writes_any (x : ActL) (y : Lies) (size : Nat) (hs : size < 1000000) (hn : x.n.length ≤ 1000000) (w : World) (hx : SlU w y.an x.n) :
    Calls Try.prog 24 #[.agg (actV x y), .int .i64 size] w (RetL w (writesL x size)) := by
  generalize hR : RetL w (writesL x size) = R
  have HR := Lib.hid hR
  clear hR
  have HX := Lib.hid hx
  have HONE := Lib.hid (fun n c w => one_any n c w)
  have hb0 := (Below.refl w.heap.size w).alloc (Nat.le_refl _) (.cells (actV x y) 55)
  have hr0 := heap_alloc_last w (.cells (actV x y) 55)
  have hs0 : (w.alloc (.cells (actV x y) 55)).heap.size = w.heap.size + 1 := by simp
  unfold actV at *
  go_enter Try.func24, Try.ntmps24
  go_wp2
  generalize w.alloc (.cells #[.int .u8 x.kind.toNat, .int .u8 x.c.toNat, .slice y.an x.n.length y.cn, .int .i64 x.pos, .slice y.ar x.raw.length y.cr, .slice y.ak x.keep.length y.ck] 55) = w0 at *
  have HB0 := Lib.hid hb0
  have HR0 := Lib.hid hr0
  have HS0 := Lib.hid hs0
  clear hb0 hr0 hs0 hx
  go_loopw [5, 6] (fun v i wr => ∃ k : Nat, k ≤ x.n.length ∧ i = .int .i64 k ∧ wr.ownsRow (w.heap.size + 1) 59 2 v (writesK x size k).length (wrV (writesK x size k)) ∧ Below w0.heap.size w0 wr) (fun _ i _ => x.n.length - (intOf i).toNat)
  case atStart => exact ⟨0, by omega, rfl, World.ownsRow_nil _ _ _ _, Below.refl _ _⟩
  case round =>
    obtain ⟨k, hk, rfl, hrow, hb⟩ := hrel
    have hA := (hb.block w.heap.size (by have := HS0.out; omega)).trans HR0.out
    obtain ⟨⟨c0, c1, c2, c3, c4, c5⟩, f0, f1, f2, f3, f4, f5⟩ := cells6 hA
    by_cases hlk : k < x.n.length
    · obtain ⟨b, off, hay, g1⟩ := (HX.out.below HB0.out).below hb k hlk
      rw [hay] at c2
      clear hay
      generalize hsn : x.n[k] = un at *
      have HW := Lib.hid (show writesK x size (k + 1) = took (writesK x size k) (wrOf x size k) from rfl)
      have HO : Hid (∀ w : World, Calls Try.prog 27 #[.int .i64 ((un.toNat : Int) % (max size 1 : Nat)), .int .u8 ((x.c + UInt8.ofNat k).toNat : Int)] w (Ret w (.agg #[.int .i64 (wrOf x size k).sec, .string (wrOf x size k).data]))) := fun w => by
        have e1 : (wrOf x size k).sec = (un.toNat : Int) % (max size 1 : Nat) := by
          unfold wrOf
          simp only [List.getD, List.getElem?_eq_getElem hlk, hsn, Option.getD_some, Int.natCast_emod]
        rw [e1]
        exact HONE.out _ _ _
      have HC1 := Lib.hid (show ((x.c.toNat : Int) + k % 256) % 256 = ((x.c + UInt8.ofNat k).toNat : Int) by
        rw [UInt8.toNat_add, UInt8.toNat_ofNat']
        omega)
      have HC2 := Lib.hid (show ((x.c.toNat : Int) + k) % 256 = ((x.c + UInt8.ofNat k).toNat : Int) by
        rw [UInt8.toNat_add, UInt8.toNat_ofNat']
        omega)
      generalize (x.c + UInt8.ofNat k).toNat = cc at *
      generalize wrOf x size k = z at *
      obtain ⟨M, hM⟩ : ∃ M : Nat, max size 1 = M := ⟨_, rfl⟩
      rw [hM] at HO
      have hMI : max (size : Int) 1 = (M : Int) := by omega
      have hM1 : 1 ≤ M := by omega
      have hunl := UInt8.toNat_lt un
      have hwu : wrap64 (un.toNat : Int) = (un.toNat : Int) := by unfold wrap64; omega
      have LT := Lib.hid (And.intro (World.block_lt_of_cell? wr _ c1) (And.intro (World.block_lt_of_cell? wr _ c2) (World.block_lt_of_cell? wr _ g1)))
      have C := Lib.hid (And.intro c1 (And.intro c2 g1))
      clear c0 c1 c2 c3 c4 c5 f0 f1 f2 f3 f4 f5 g1
      have c2 := C.out.2.1
      go_wp2
      clear c2
      refine wp_region_rr2 16 (fun w' => Below wr.heap.size wr w') (by kernel_rfl) (by kernel_rfl) (fun w w' h g => h.trans (g.mono h.size)) (Below.refl _ _).drew ?_
      iterate 13
        apply RR2_run
        focus rfl
        focus rfl
        focus rfl
        focus
          intro w3 hS
          have e1 := (hS.cell (p := ⟨w.heap.size, 1, none⟩) LT.out.1).trans C.out.1
          have e2 := (hS.cell (p := ⟨w.heap.size, 2, none⟩) LT.out.2.1).trans C.out.2.1
          have e3 := (hS.cell (p := ⟨b, off + k, none⟩) LT.out.2.2).trans C.out.2.2
          go_wp2
          exact ⟨rfl, Grew.refl _⟩
        focus exact ⟨_, rfl⟩
      apply RR2_run
      focus rfl
      focus rfl
      focus rfl
      focus
        intro w3 hS
        go_wp2
        rw [HC1.out]
        exact ⟨rfl, Grew.refl _⟩
      focus exact ⟨_, rfl⟩
      apply RR2_run
      focus rfl
      focus rfl
      focus rfl
      focus
        intro w3 hS
        go_wp2_with ((with_reducible refine (HO.out _).mono ?_); rintro e w4 ⟨rfl, h4⟩)
        exact ⟨rfl, h4⟩
      focus exact ⟨_, rfl⟩
      refine RR2_mk (wrAt0 wr.heap.size) 7 rfl (wrAt0_stable _) (by simp) rfl rfl rfl (fun w3 hS => ?_) ?_
      focus
        go_wp2
        exact ⟨⟨_, rfl, _, rfl, hS.size, heap_alloc_last w3 _⟩, (Below.refl _ _).alloc (Nat.le_refl _) _⟩
      refine RR2_end fun ρ w3 hS hpend => ?_
      simp only [overlay, List.foldl_cons, List.foldl_nil, List.nil_append, List.cons_append, Act.put, List.setIfInBounds_toArray, List.set_cons_zero, List.set_cons_succ]
      obtain ⟨g, hv, hB, hc⟩ := hpend (15, 7, wrAt0 wr.heap.size) (by simp)
      simp only at hv
      generalize ρ 15 = v15 at *
      subst hv
      have hst := heap_setCell_same w3 g 0 _ 59 (.int .i64 z.sec) hc
      have hst2 := heap_setCell_same _ g 1 _ 59 (.string z.data) hst
      obtain ⟨c0, c1⟩ := cells2' hc
      have f0 : w3.frozen? ⟨g, 0, none⟩ = false := frozen_of_row _ _ _ _ _ hc
      have f1 : w3.frozen? ⟨g, 1, none⟩ = false := frozen_of_row _ _ _ _ _ hc
      have HG := Lib.hid hst2
      have HB3 := Lib.hid ((hS.setCell (p := ⟨g, 0, none⟩) hB (.int .i64 z.sec)).setCell (p := ⟨g, 1, none⟩) hB (.string z.data))
      clear hst hst2 hc hS hpend
      go_wp2
      generalize (w3.setCell ⟨g, 0, none⟩ (.int .i64 z.sec)).setCell ⟨g, 1, none⟩ (.string z.data) = W3 at *
      obtain ⟨a', c', rfl⟩ := row_slice hrow
      have hrow3 := row_below hrow HB3.out
      have hsl3 := slW_of_owns hrow3
      have hlen := writesK_length x size k
      generalize writesK x size k = L at *
      have HR3 := Lib.hid hrow3
      have HSL := Lib.hid hsl3
      have HB := Lib.hid hb
      have HCC := Lib.hid (cells2' HG.out)
      have HGL := Lib.hid (Array.getElem?_eq_some_iff.1 HG.out).1
      have HBG := Lib.hid hB
      clear hrow hrow3 hsl3 hb hB c0 c1 f0 f1 HR0 HC1 HC2 HO C LT
      go_loopw [8, 9] (fun t i wr => ∃ j : Nat, j ≤ L.length ∧ i = .int .i64 j ∧ t = .bool ((L.take j).any fun y => y.sec == z.sec) ∧ Below W3.heap.size W3 wr) (fun _ i _ => L.length - (intOf i).toNat)
      case atStart => exact ⟨0, by omega, rfl, by simp, Below.refl _ _⟩
      case round =>
        obtain ⟨j, hj, rfl, rfl, hbj⟩ := hrel
        by_cases hlj : j < L.length
        · obtain ⟨b2, off2, rfl, q0, q1⟩ := HSL.out j hlj
          have HA := Lib.hid (any_take_succ L j hlj z.sec)
          generalize L[j] = u at *
          have HQ := Lib.hid (And.intro q0 (And.intro (World.block_lt_of_cell? _ _ q0) q1))
          have HBJ := Lib.hid hbj
          clear q0 q1
          cases hag : (L.take j).any fun y => y.sec == z.sec with
          | true =>
            rw [hag] at HA
            go_wp2
            refine wp_region_rr 12 (fun w' => Below wr.heap.size wr w') (by kernel_rfl) (by kernel_rfl) (Below.refl _ _).drew ?_
            iterate 2
              (apply RR_run
               focus rfl
               focus
                 intro w4 hS
                 go_wp2
                 exact ⟨rfl, hS⟩
               focus exact ⟨_, rfl⟩)
            iterate 8
              (apply RR_skip
               focus rfl
               focus (simp only [Act.put, List.setIfInBounds_toArray, List.set_cons_zero, List.set_cons_succ]; rfl))
            iterate 2
              (apply RR_run
               focus rfl
               focus
                 intro w4 hS
                 go_wp2
                 exact ⟨rfl, hS⟩
               focus exact ⟨_, rfl⟩)
            refine RR_end fun w4 hS => ?_
            go_wp2
            go_roundw
            case rel => exact ⟨j + 1, by omega, by go_num, by rw [HA.out]; rfl, HBJ.out.trans (hS.mono HBJ.out.size)⟩
            case measure => simp [intOf]; omega
          | false =>
            rw [hag, Bool.false_or] at HA
            go_wp2
            refine wp_region_rr 12 (fun w' => Below wr.heap.size wr w') (by kernel_rfl) (by kernel_rfl) (Below.refl _ _).drew ?_
            iterate 12
              (apply RR_run
               focus rfl
               focus
                 intro w4 hS
                 have hb4 := HBJ.out.trans (hS.mono HBJ.out.size)
                 have q0 := (hb4.cell (p := ⟨b2, off2 + j * 2, none⟩) HQ.out.2.1).trans HQ.out.1
                 have q1 := (hb4.cell (p := ⟨g, 0, none⟩) HGL.out).trans HCC.out.1
                 clear hb4
                 go_wp2
                 exact ⟨rfl, hS⟩
               focus exact ⟨_, rfl⟩)
            refine RR_end fun w4 hS => ?_
            go_wp2
            go_roundw
            case rel => exact ⟨j + 1, by omega, by go_num, by rw [HA.out], HBJ.out.trans (hS.mono HBJ.out.size)⟩
            case measure => simp [intOf]; omega
        · obtain rfl : j = L.length := by omega
          rw [List.take_length]
          have hbw : Below w0.heap.size w0 wr := HB.out.trans ((HB3.out.trans (hbj.mono HB3.out.size)).mono HB.out.size)
          have hrw := row_below HR3.out hbj
          have hcg := (hbj.cell (p := ⟨g, 0, none⟩) HGL.out).trans HCC.out.1
          have hcg1 := (hbj.cell (p := ⟨g, 1, none⟩) HGL.out).trans HCC.out.2
          cases hag : L.any fun y => y.sec == z.sec with
          | true =>
            have HRW := Lib.hid hrw
            have HBW := Lib.hid hbw
            clear hrw hbw hcg hcg1 hbj
            go_wp2
            go_roundw
            case rel => exact ⟨k + 1, by omega, by go_num, by rw [HW.out, took, if_pos hag]; exact HRW.out, HBW.out⟩
            case measure => simp [intOf]; omega
          | false =>
            have hT : took L z = L ++ [z] := by unfold took; rw [hag]; rfl
            have HT := Lib.hid hT
            have hal := (Below.refl wr.heap.size wr).alloc (Nat.le_refl _) (.cells #[.int .i64 z.sec, .string z.data] 59)
            have hrow2 := row_below hrw hal
            have hlast := heap_alloc_last wr (.cells #[.int .i64 z.sec, .string z.data] 59)
            have hnews : ∀ (j : Nat) (u : Value), [Value.int .i64 z.sec, .string z.data][j]? = some u → (wr.alloc (.cells #[.int .i64 z.sec, .string z.data] 59)).cell? ((⟨wr.heap.size, 0, none⟩ : Addr).add j) = some u := fun j u hu => by
              rw [Go.WideShapes.add_plain, Nat.zero_add, cell_of_row _ _ _ _ _ _ hlast]
              simpa using hu
            have HN2 := Lib.hid hnews
            have HAL := Lib.hid hal
            have hws : (wr.alloc (.cells #[.int .i64 z.sec, .string z.data] 59)).heap.size = wr.heap.size + 1 := by simp
            have HWS := Lib.hid hws
            have hbs := hbw.size
            obtain ⟨i0, hi, hz0, hz1, hz2⟩ := info_parts info_wr
            have hz1 := Lib.hid hz1
            have hz2 := Lib.hid hz2
            have hz0 := Lib.hid hz0
            have hi := Lib.hid hi
            have hrowlt := Lib.hid hrow2.lt
            have hHS := HS0.out
            have HBW := Lib.hid hbw
            clear hnews hlast hal hws hrw hT hbw hbj
            go_wp2_with (at_builtin; refine wpList_append_own _ rfl _ _ 53 rfl (w.heap.size + 1) 59 i0 _ 2 24 Try.underlying53 hi.out hz0.out hz1.out hz2.out rfl (by decide) _ _ _ rfl hrow2 ⟨wr.heap.size, 0, none⟩ 1 1 [.int .i64 z.sec, .string z.data] rfl rfl HN2.out (by simp [Value.oneCell']) (by unfold maxLen; omega) (by omega) (by rw [HWS.out]; omega) ?_; intro v' w5 hown' hgrow' _; obtain ⟨g', cap', rfl⟩ := row_suc hown'; have HO2 := Lib.hid hown'; have HG2 := Lib.hid hgrow'; clear hown' hgrow')
            go_roundw
            case rel =>
              refine ⟨k + 1, by omega, by go_num, ?_, ?_⟩
              · rw [HW.out, HT.out, wrV_snoc, List.length_append]
                exact HO2.out
              · refine (HBW.out.trans (HAL.out.mono hbs)).trans (below_of_grown HG2.out (by rw [HWS.out]; omega) fun r hr => ?_)
                have := (hrowlt.out r hr).1
                omega
            case measure => simp [intOf]; omega
    · obtain rfl : k = x.n.length := by omega
      obtain ⟨a', c', rfl⟩ := row_slice hrow
      have hsl := slW_of_owns hrow
      have hlt := hrow.lt
      have HSL := Lib.hid hsl
      have HLT := Lib.hid hlt
      have HB := Lib.hid hb
      have hHS := HS0.out
      clear hrow hsl hlt hb HR0 c0 c1 c3 c4 c5 f0 f1 f2 f3 f4 f5
      have hlw := Lib.hid (show writesK x size x.n.length = writesL x size from rfl)
      go_wp2
      rw [← HR.out]
      refine ⟨a', c', by rw [← hlw.out]; rfl, by rw [← hlw.out]; exact HSL.out, fun ad e => ?_, HB0.out.trans (HB.out.mono HB0.out.size)⟩
      have := HLT.out ad.block (by rw [e]; rfl)
      omega
end Go.Proofs.Ytffgjjhopopgcaa
