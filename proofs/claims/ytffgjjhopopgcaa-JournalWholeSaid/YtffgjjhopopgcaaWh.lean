/-
  JournalAgain answers true for every row of acts and of bools, in every world: the walk.
-/
import Derived.Test.YtffgjjhopopgcaaWg
import Derived.Deep.CutBlock
import Derived.Deep.DeepCutAuto
namespace Go.Proofs.Ytffgjjhopopgcaa
set_option linter.unusedVariables false
set_option linter.unusedSimpArgs false
open Go.RowKit
set_option maxRecDepth 100000
set_option maxHeartbeats 8000000
attribute [local go_sem high] eq8

theorem great_false {l : List ActL} {most : Nat} (h : greatA l most = false) : l.length ≤ most ∧ ∀ x ∈ l, x.n.length ≤ 30 ∧ x.raw.length ≤ 30 ∧ x.keep.length ≤ 200 ∧ ∀ y ∈ x.raw, y.data.size ≤ 600 := by
  unfold greatA at h
  rw [Bool.or_eq_false_iff] at h
  refine ⟨by have := h.2; simp at this; omega, fun x hx => ?_⟩
  have hb : big x = false := by
    have := List.any_eq_false.1 h.1 x hx
    simpa using this
  unfold big big1 at hb
  simp only [Bool.or_eq_false_iff, decide_eq_false_iff_not] at hb
  obtain ⟨⟨⟨h1, h2⟩, h3⟩, h4⟩ := hb
  refine ⟨by omega, by omega, by omega, fun y hy => ?_⟩
  have := List.any_eq_false.1 h4 y hy
  simp at this
  omega
theorem AgInv.mono {J : Jn} {D : Dk} {k m : Nat} (h : AgInv J D k) (hk : k ≤ m) : AgInv J D m := ⟨h.live, h.fails, h.size, h.starts, by have := h.number; omega, by have := h.loose; omega⟩
/-- The cells of an act in a slice. -/
theorem SlA.cells {w : World} {a : Option Addr} {l : List ActL} {ys : List Lies} (h : SlA w a l ys) (k : Nat) (hk : k < l.length) : ∃ b off y, a = some ⟨b, off, none⟩ ∧ ActAt w l[k] y ∧ b < w.heap.size ∧
    w.cell? ⟨b, off + k * 6, none⟩ = some (.int .u8 l[k].kind.toNat) ∧ w.cell? ⟨b, off + k * 6 + 1, none⟩ = some (.int .u8 l[k].c.toNat) ∧ w.cell? ⟨b, off + k * 6 + 2, none⟩ = some (.slice y.an l[k].n.length y.cn) ∧
    w.cell? ⟨b, off + k * 6 + 3, none⟩ = some (.int .i64 l[k].pos) ∧ w.cell? ⟨b, off + k * 6 + 4, none⟩ = some (.slice y.ar l[k].raw.length y.cr) ∧ w.cell? ⟨b, off + k * 6 + 5, none⟩ = some (.slice y.ak l[k].keep.length y.ck) := by
  obtain ⟨⟨b, off, e, hc⟩, hat⟩ := h.2 k hk (by have := h.1; omega)
  have h0 := hc 0 (by decide)
  refine ⟨b, off, _, e, hat, World.block_lt_of_cell? w _ h0, h0, hc 1 (by decide), hc 2 (by decide), hc 3 (by decide), hc 4 (by decide), hc 5 (by decide)⟩

theorem wpList_load_row_g {P : Program} {ops : Array Oper} {rest : List Oper} {o : Oper} {a : Act} {w : World} {Q : Exit → Act → World → Prop} (hw : Region.wanted o (yielded ops a.tmps) = true) (ty : TypeId) (x : Operand) (ho : o.op = .load ty x)
    (g : Nat) (hx : a.eval x = .pointer (some ⟨g, 0, none⟩)) (t : TypeId) (cs : Array Value) (fr : Nat × Nat) (d : TypeDesc) (hg : w.heap[g]? = some (.cells cs t fr))
    (hu : P.underlying ty = some d) (hd : (match d with | .struct _ | .array _ _ => true | _ => false) = true) (hi : (P.info? ty).map (·.size) = some cs.size)
    (h : wpList P ops Q rest (a.put o.dst (.agg cs)) w) : wpList P ops Q (o :: rest) a w :=
  BigFrame.wpList_want hw fun _ hK => wp_load_row ty x ho g hx t cs fr d hg hu hd hi (hK _ _ h)
theorem put8 (w : World) (T0 r : Array Value) (t : TypeId) : ((w.alloc (.cells T0 t)).setRow w.heap.size r).heap[w.heap.size]? = some (.cells r t (0, 0)) ∧ Below w.heap.size w ((w.alloc (.cells T0 t)).setRow w.heap.size r) ∧ w.heap.size < ((w.alloc (.cells T0 t)).setRow w.heap.size r).heap.size := by
  have h1 := setRow_heap _ w.heap.size T0 r t (0, 0) (heap_alloc_last w (.cells T0 t))
  exact ⟨h1, below_setRow ((Below.refl w.heap.size w).alloc (Nat.le_refl _) _) (Nat.le_refl _) _, (Array.getElem?_eq_some_iff.1 h1).1⟩
theorem again_walk (l : List ActL) (ys : List Lies) (a : Option Addr) (c : Nat) (lk : List Bool) (ak : Option Addr) (ck : Nat) (w : World) (hl : l.length ≤ maxLen) (hx : SlA w a l ys) (hf : ∀ x ∈ l, x.Fine) (hkl : lk.length ≤ maxLen) (hk : SlO w ak lk) (hkb : ∀ ad, ak = some ad → lk ≠ [] → ad.block < w.heap.size) :
    Calls Try.prog 10 #[.slice a l.length c, .slice ak lk.length ck] w (Ret w (.bool true)) := by
  have HLG := Lib.hid (fun w => logged_any w)
  have HO := Lib.hid (opened_any w 80 (by decide) (by decide))
  unfold maxLen at hl hkl
  have hg := great_any l ys a c 10 (by omega) w hx hf
  cases hgr : greatA l 10 with
  | true =>
    rw [hgr] at hg
    clear hx hf hk hkb hgr
    go_enter Try.func10, Try.ntmps10
    go_wp2_with fail
    refine hg.mono ?_
    rintro e w1 ⟨rfl, rfl⟩
    clear hg
    go_wp2_with fail
    refine (HLG.out _).mono ?_
    rintro e w2 ⟨rfl, hb2⟩
    go_wp2
    go_ret
    exact ⟨rfl, hb2⟩
  | false =>
    rw [hgr] at hg
    by_cases hk2 : 200 < lk.length
    · have hd : decide ((200 : Int) < (lk.length : Int)) = true := by simp; omega
      clear hx hf hk hkb hgr hk2
      go_enter Try.func10, Try.ntmps10
      go_wp2_with fail
      refine hg.mono ?_
      rintro e w1 ⟨rfl, rfl⟩
      clear hg
      go_wp2_with fail
      refine (HLG.out _).mono ?_
      rintro e w2 ⟨rfl, hb2⟩
      go_wp2
      go_ret
      exact ⟨rfl, hb2⟩
    · have hd : decide ((200 : Int) < (lk.length : Int)) = false := by simp; omega
      obtain ⟨hl10, hsm⟩ := great_false hgr
      have HX := Lib.hid hx
      have HSM := Lib.hid hsm
      have HK := Lib.hid (And.intro hk hkb)
      have hz : ∀ w : World, (zeroValue 79).run Try.prog w = .ok (.agg (row8 (zeros 8))) w := fun w => by
        rw [row8_zero]
        exact (zero_of_info info79).1 w
      have hz0 : (row8 (zeros 8)).size = 8 := rfl
      generalize row8 (zeros 8) = T0 at hz hz0
      have HZ := Lib.hid hz
      clear hx hf hk hkb hgr hk2 hsm hz
      go_enter Try.func10, Try.ntmps10
      go_wp2_with fail
      refine hg.mono ?_
      rintro e w1 ⟨rfl, rfl⟩
      clear hg
      go_wp2_with fail
      refine HO.out.mono ?_
      rintro e w1 ⟨p, jp, J, D, rfl, hj1, hN, hb1⟩
      have HI := Lib.hid (AgInv.zero hN)
      have HJ1 := Lib.hid hj1
      have HB1 := Lib.hid hb1
      clear hj1 hN hb1 HO hd
      go_wp2
      go_loopw [8] (fun i wr => ∃ (k : Nat) (J : Jn) (D : Dk), k ≤ l.length ∧ i = .int .i64 k ∧ JUp wr (fun b => b < w.heap.size) jp p J D ∧ AgInv J D k ∧ Below w.heap.size w wr) (fun i _ => l.length - (intOf i).toNat)
      case atStart => exact ⟨0, J, D, by omega, rfl, HJ1.out, HI.out, HB1.out⟩
      case round =>
        clear HJ1 HI HB1
        clear J D
        obtain ⟨k, J, D, hk, rfl, hj, hI, hb⟩ := hrel
        by_cases hlk : k < l.length
        · obtain ⟨b, off, y, hae, hat, hbl, c0, c1, c2, c3, c4, c5⟩ := (HX.out.below hb).cells k hlk
          have hsm := HSM.out l[k] (List.getElem_mem hlk)
          subst hae
          generalize l[k] = x at *
          have hwr := writes_any x y 15 (by decide) (by omega) wr hat.n
          unfold actV at hwr
          have m1 := writesL_may x 15 (by decide) 15 (Int.le_refl _)
          have s1 := writesL_size x 15 (by decide)
          have i1 := writesL_in (x := x) (size := 15) (by decide) (by decide)
          generalize writesL x 15 = L at *
          have C0 := Lib.hid c0
          have HBL := Lib.hid hbl
          have HJ := Lib.hid hj
          have HI := Lib.hid hI
          have HB := Lib.hid hb
          have HM := Lib.hid (And.intro m1 (And.intro s1 i1))
          clear hat hbl hj hI hb m1 s1 i1 hsm
          go_wp2_with fail
          refine hwr.mono ?_
          rintro e w2 ⟨a1, cc1, rfl, q1, f1, b2⟩
          have c0 := (b2.cell (p := ⟨b, off + k * 6, none⟩) HBL.out).trans C0.out
          have hj2 := HJ.out.fresh b2
          have HB2 := Lib.hid (HB.out.trans (b2.mono HB.out.size))
          by_cases m5 : ((x.kind.toNat : Nat) : Int) % 14 = 5
          · obtain ⟨J', D', hst, hI'⟩ := HI.out.direct (by omega) HM.out.1 HM.out.2.1
            have hcl := direct_any hj2 a1 cc1 L q1 (fun ad e => .inr (f1 ad e)) HM.out.2.2 (by have := HI.out.loose; omega) (by have := HM.out.2.1; omega)
            rw [hst] at hcl
            have HI' := Lib.hid hI'
            clear hst hI' q1 f1 b2 hj2 hwr
            go_wp2_with fail
            refine hcl.mono ?_
            rintro e w3 ⟨rfl, hj3, hk3⟩
            have HJ3 := Lib.hid (hj3.mono (K' := fun b => b < w.heap.size) fun b hb => .inl hb)
            have HB3 := Lib.hid (HB2.out.trans (hk3.mono fun b hb => .inl hb).below)
            clear hcl hj3 hk3 c0
            go_wp2
            go_roundw
            case rel => exact ⟨k + 1, J', D', by omega, by go_num, HJ3.out, HI'.out, HB3.out⟩
            case measure => simp [intOf]; omega
          · by_cases m6 : ((x.kind.toNat : Nat) : Int) % 14 = 6
            · obtain ⟨J', D', hst, hI'⟩ := HI.out.direct (by omega) HM.out.1 HM.out.2.1
              have hcl := direct_any hj2 a1 cc1 L q1 (fun ad e => .inr (f1 ad e)) HM.out.2.2 (by have := HI.out.loose; omega) (by have := HM.out.2.1; omega)
              rw [hst] at hcl
              have HI' := Lib.hid hI'
              clear hst hI' q1 f1 b2 hj2 hwr
              go_wp2_with fail
              refine hcl.mono ?_
              rintro e w3 ⟨rfl, hj3, hk3⟩
              have HJ3 := Lib.hid (hj3.mono (K' := fun b => b < w.heap.size) fun b hb => .inl hb)
              have HB3 := Lib.hid (HB2.out.trans (hk3.mono fun b hb => .inl hb).below)
              clear hcl hj3 hk3 c0
              go_wp2
              go_roundw
              case rel => exact ⟨k + 1, J', D', by omega, by go_num, HJ3.out, HI'.out, HB3.out⟩
              case measure => simp [intOf]; omega
            · by_cases m7 : ((x.kind.toNat : Nat) : Int) % 14 = 7
              · obtain ⟨J', D', hst, hI'⟩ := HI.out.checkpoint
                have hcl := checkpointed_any hj2 (by have := HI.out.loose; omega)
                rw [hst] at hcl
                have HI' := Lib.hid hI'
                clear hst hI' q1 f1 b2 hj2 hwr
                go_wp2_with fail
                refine hcl.mono ?_
                rintro e w3 ⟨rfl, hj3, hk3⟩
                have HJ3 := Lib.hid (hj3.mono (K' := fun b => b < w.heap.size) fun b hb => .inl hb)
                have HB3 := Lib.hid (HB2.out.trans (hk3.mono fun b hb => .inl hb).below)
                clear hcl hj3 hk3 c0
                go_wp2
                go_roundw
                case rel => exact ⟨k + 1, J', D', by omega, by go_num, HJ3.out, HI'.out, HB3.out⟩
                case measure => simp [intOf]; omega
              · have n5 : (((x.kind.toNat : Nat) : Int) % 14 == 5) = false := by simpa using m5
                have n6 : (((x.kind.toNat : Nat) : Int) % 14 == 6) = false := by simpa using m6
                have n7 : (((x.kind.toNat : Nat) : Int) % 14 == 7) = false := by simpa using m7
                obtain ⟨J', D', hst, hI'⟩ := HI.out.commit (by omega) HM.out.1 HM.out.2.1
                have hcl := commit_any hj2 a1 cc1 L q1 (fun ad e => .inr (f1 ad e)) HM.out.2.2 (by have := HI.out.loose; omega) (by have := HI.out.number; omega)
                rw [hst] at hcl
                have HI' := Lib.hid hI'
                clear hst hI' q1 f1 b2 hj2 hwr
                go_wp2_with fail
                refine hcl.mono ?_
                rintro e w3 ⟨rfl, hj3, hk3⟩
                have HJ3 := Lib.hid (hj3.mono (K' := fun b => b < w.heap.size) fun b hb => .inl hb)
                have HB3 := Lib.hid (HB2.out.trans (hk3.mono fun b hb => .inl hb).below)
                clear hcl hj3 hk3 c0
                go_wp2
                go_roundw
                case rel => exact ⟨k + 1, J', D', by omega, by go_num, HJ3.out, HI'.out, HB3.out⟩
                case measure => simp [intOf]; omega
        · obtain rfl : k = l.length := by omega
          obtain ⟨D1, D2, Ja, Da, D3, D4, Jb, Db, Jc, Dc, Jd, Dd, S, hT⟩ := again_law (hI.mono hl10) lk
          have HT := Lib.hid hT
          have HCM := Lib.hid hT.cm
          have HSX := Lib.hid (show ∀ w, Calls Try.prog 31 #[.int .u8 120] w (Ret w (.string (sectorB 120))) from fun w => sector_any 120 w)
          generalize sectorB 120 = sx at *
          have hS8 := hT.len
          have hq := eq_self_iff_true S.1
          have hdec : decide (S.1 = S.1) = true := by simp
          have Hsz := Lib.hid (size8 S.1 hT.len)
          have Hone := Lib.hid (row8_one S.1)
          have HzT := Lib.hid (show T0.size = (row8 S.1).size by rw [hz0, row8_size, hT.len])
          have HB := Lib.hid hb
          have hcr := crash_any hj.at.disk ak ck lk (HK.out.1.below hb) (fun ad e hne => HK.out.2 ad e hne)
          rw [HT.out.cr] at hcr
          clear hT hj hI hb
          go_wp2_with fail
          refine hcr.mono ?_
          rintro e w1 ⟨rfl, hd1, hk1⟩
          have HB := Lib.hid (HB.out.trans hk1.below)
          have hst := start_any hd1 (by have := HT.out.s1; show D1.starts < _; omega)
          rw [HT.out.st] at hst
          clear hcr hd1 hk1
          go_wp2_with fail
          refine hst.mono ?_
          rintro e w2 ⟨rfl, hd2, hk2⟩
          have HB := Lib.hid (HB.out.trans hk2.below)
          obtain ⟨n0, p0, T, U, hr, hbig⟩ := HT.out.r2
          have hop := open_told hd2 HT.out.l2 hr hbig HT.out.op
          clear hst hd2 hk2 hr hbig
          go_wp2_with fail
          refine hop.mono ?_
          rintro e w3 ⟨jpa, rfl, hj3, hk3⟩
          have HB := Lib.hid (HB.out.trans hk3.below)
          have hse := seen_any hj3.at
          rw [HT.out.sa] at hse
          have HJ3 := Lib.hid hj3
          clear hop hj3 hk3
          go_wp2_with fail
          refine hse.mono ?_
          rintro e w4 ⟨rfl, hb4⟩
          clear hse
          have hz := HZ.out
          go_upto_region 24 with (refine wpList_store_row rfl 79 _ _ rfl w4.heap.size _ rfl rfl _ _ (heap_alloc_last w4 _) Hsz.out HzT.out Hone.out ?_)
          have hp6 := put8 w4 T0 (row8 S.1) 79
          generalize (w4.alloc (.cells T0 79)).setRow w4.heap.size (row8 S.1) = w6 at *
          have HRA := Lib.hid hp6.1
          have hb36 := hb4.trans (hp6.2.1.mono hb4.size)
          have hd6 := (HJ3.out.fresh hb36).at.disk
          have hKA : w3.heap.size ≤ w4.heap.size ∧ w4.heap.size < w6.heap.size := ⟨hb4.size, hp6.2.2⟩
          have HKA := Lib.hid hKA
          have HB := Lib.hid (HB.out.trans (hb36.mono HB.out.size))
          have hcr := crash_any hd6 none 0 [] (slO_nil _) (fun ad e => by cases e)
          rw [HT.out.cr2, show ([] : List Bool).length = 0 from rfl] at hcr
          clear hp6 hb4 hb36 hd6 hKA hz HJ3
          go_wp2_with fail
          refine hcr.mono ?_
          rintro e w7 ⟨rfl, hd7, hk7⟩
          have HB := Lib.hid (HB.out.trans (hk7.mono fun b hb => .inl hb).below)
          have HRA := Lib.hid ((hk7.block w4.heap.size (.inr HKA.out)).trans HRA.out)
          have hst := start_any hd7 (by have := HT.out.s3; show D3.starts < _; omega)
          rw [HT.out.st2] at hst
          clear hcr hd7 hk7
          go_wp2_with fail
          refine hst.mono ?_
          rintro e w8 ⟨rfl, hd8, hk8⟩
          have HB := Lib.hid (HB.out.trans (hk8.mono fun b hb => .inl hb).below)
          have HRA := Lib.hid ((hk8.block w4.heap.size (.inr HKA.out)).trans HRA.out)
          obtain ⟨n0, p0, T, U, hr, hbig⟩ := HT.out.r4
          have hop := open_told hd8 HT.out.l4 hr hbig HT.out.op2
          clear hst hd8 hk8 hr hbig
          go_wp2_with fail
          refine hop.mono ?_
          rintro e w9 ⟨jpb, rfl, hj9, hk9⟩
          have HB := Lib.hid (HB.out.trans (hk9.mono fun b hb => .inl hb).below)
          have HRA := Lib.hid ((hk9.block w4.heap.size (.inr HKA.out)).trans HRA.out)
          have hse := seen_any hj9.at
          rw [HT.out.sb] at hse
          have HJ9 := Lib.hid hj9
          clear hop hj9 hk9
          go_wp2_with fail
          refine hse.mono ?_
          rintro e w10 ⟨rfl, hb10⟩
          clear hse
          have hz := HZ.out
          go_upto_region 30 with (refine wpList_store_row rfl 79 _ _ rfl w10.heap.size _ rfl rfl _ _ (heap_alloc_last w10 _) Hsz.out HzT.out Hone.out ?_)
          have hp12 := put8 w10 T0 (row8 S.1) 79
          generalize (w10.alloc (.cells T0 79)).setRow w10.heap.size (row8 S.1) = w12 at *
          have HRB := Lib.hid hp12.1
          have hb12 := hb10.trans (hp12.2.1.mono hb10.size)
          have hj12 := HJ9.out.fresh hb12
          have HKB := Lib.hid (show w9.heap.size ≤ w10.heap.size ∧ w10.heap.size < w12.heap.size from ⟨hb10.size, hp12.2.2⟩)
          have HB := Lib.hid (HB.out.trans (hb12.mono HB.out.size))
          have HRA := Lib.hid ((hb12.block w4.heap.size (Array.getElem?_eq_some_iff.1 HRA.out).1).trans HRA.out)
          have hrm := room_any hj12.at
          rw [HT.out.room] at hrm
          have HD12 := Lib.hid hj12.at.disk
          clear hp12 hb10 hb12 hj12 hz HJ9
          go_wp2_with (first | (refine wpList_load_row_g rfl 79 _ rfl w4.heap.size rfl _ _ _ _ HRA.out Try.underlying79 rfl Hsz.out ?_) | (refine wpList_load_row_g rfl 79 _ rfl w10.heap.size rfl _ _ _ _ HRB.out Try.underlying79 rfl Hsz.out ?_))
          refine hrm.mono ?_
          rintro e w13 ⟨rfl, rfl⟩
          clear hrm
          obtain ⟨n0, p0, T, U, hr, hbig⟩ := HT.out.rb
          have hop := open_told HD12.out HT.out.lb hr hbig HT.out.op3
          clear hr hbig
          go_wp2_with fail
          refine hop.mono ?_
          rintro e w13 ⟨jpc, rfl, hj13, hk13⟩
          have HB := Lib.hid (HB.out.trans (hk13.mono fun b hb => .inl (.inl hb)).below)
          have HRB := Lib.hid ((hk13.block w10.heap.size (.inr HKB.out)).trans HRB.out)
          have hse := seen_any hj13.at
          rw [HT.out.sc] at hse
          have HJ13 := Lib.hid hj13
          clear hop hj13 hk13 HD12 HRA
          go_wp2_with fail
          refine hse.mono ?_
          rintro e w14 ⟨rfl, hb14⟩
          clear hse
          have hz := HZ.out
          go_upto_region 34 with (refine wpList_store_row rfl 79 _ _ rfl w14.heap.size _ rfl rfl _ _ (heap_alloc_last w14 _) Hsz.out HzT.out Hone.out ?_)
          have hp16 := put8 w14 T0 (row8 S.1) 79
          generalize (w14.alloc (.cells T0 79)).setRow w14.heap.size (row8 S.1) = w16 at *
          have HRC := Lib.hid hp16.1
          have hb16 := hb14.trans (hp16.2.1.mono hb14.size)
          have HJ16 := Lib.hid (HJ13.out.fresh hb16)
          have HB := Lib.hid (HB.out.trans (hb16.mono HB.out.size))
          have HRB := Lib.hid ((hb16.block w10.heap.size (Array.getElem?_eq_some_iff.1 HRB.out).1).trans HRB.out)
          clear hp16 hb14 hb16 hz HJ13
          go_wp2_with (first | (refine wpList_load_row_g rfl 79 _ rfl w10.heap.size rfl _ _ _ _ HRB.out Try.underlying79 rfl Hsz.out ?_) | (refine wpList_load_row_g rfl 79 _ rfl w14.heap.size rfl _ _ _ _ HRC.out Try.underlying79 rfl Hsz.out ?_))
          refine (HSX.out _).mono ?_
          rintro e w17 ⟨rfl, hb17⟩
          go_wp2_with fail
          have hb18 := hb17.trans (((Below.refl w17.heap.size w17).alloc (Nat.le_refl _) (.cells #[.int .i64 2, .string sx] 59)).mono hb17.size)
          have hlast := heap_alloc_last w17 (.cells #[.int .i64 2, .string sx] 59)
          have hj18 := HJ16.out.fresh hb18
          have hK18 : w16.heap.size ≤ w17.heap.size ∧ w17.heap.size < (w17.alloc (.cells #[.int .i64 2, .string sx] 59)).heap.size := ⟨hb17.size, by simp⟩
          generalize w17.alloc (.cells #[.int .i64 2, .string sx] 59) = w18 at *
          have HB := Lib.hid (HB.out.trans (hb18.mono HB.out.size))
          have hcm := commit_any hj18 (some ⟨w17.heap.size, 0, none⟩) 1 [⟨2, sx⟩] (slW_of_block hlast rfl) (fun ad e => by cases e; exact .inr hK18) (fun x hx => by
            simp only [List.mem_cons, List.not_mem_nil, or_false] at hx
            rcases hx with rfl
            simp only [inL]
            omega) (by rw [HT.out.lc]; decide) (by have := HT.out.nc; omega)
          rw [HCM.out, show ([⟨2, sx⟩] : List Wr).length = 1 from rfl] at hcm
          clear hb17 hb18 hlast hj18 hK18 HJ16
          refine hcm.mono ?_
          rintro e w19 ⟨rfl, -, hk19⟩
          have HB := Lib.hid (HB.out.trans (hk19.mono fun b hb => .inl (.inl (.inl (.inl hb)))).below)
          clear hcm hk19
          go_wp2_with fail
          refine (HLG.out _).mono ?_
          rintro e w20 ⟨rfl, hb20⟩
          have HB := Lib.hid (HB.out.trans (hb20.mono HB.out.size))
          clear hb20
          go_wp2
          go_ret
          exact ⟨rfl, HB.out⟩
end Go.Proofs.Ytffgjjhopopgcaa
