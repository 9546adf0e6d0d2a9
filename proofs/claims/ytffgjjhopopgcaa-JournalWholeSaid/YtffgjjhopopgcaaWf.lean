/-
  JournalDirect answers true for every rows of bytes and bools, in every world.
-/
import Derived.Test.YtffgjjhopopgcaaWd
namespace Go.Proofs.Ytffgjjhopopgcaa
set_option linter.unusedVariables false
set_option linter.unusedSimpArgs false
open Go.RowKit
set_option maxRecDepth 100000
set_option maxHeartbeats 8000000

theorem SlW.kept {K : Nat → Prop} {w w1 : World} {a : Option Addr} {l : List Wr} (h : SlW w a l) (hb : Kept K w w1) (hK : ∀ ad, a = some ad → K ad.block) : SlW w1 a l := h.block fun ad e => hb.block _ (hK ad e)
theorem SlO.kept {K : Nat → Prop} {w w1 : World} {a : Option Addr} {l : List Bool} (h : SlO w a l) (hb : Kept K w w1) (hK : ∀ ad, a = some ad → K ad.block) : SlO w1 a l := h.block fun ad e => hb.block _ (hK ad e)
theorem upd_snoc (l : List Wr) (x : Wr) (U : Nat → ByteArray) (i : Nat) : upd (l ++ [x]) U i = if x.sec = i then x.data else upd l U i := by rw [upd_append]; rfl
theorem writesL_in {x : ActL} {size : Nat} (hs : 1 ≤ size) (h : size ≤ 1000000) : ∀ z ∈ writesL x size, inL z.sec := fun z hz => by
  have := wSec (writesL_may x size hs size (Int.le_refl _)) z hz
  unfold inL
  omega

/-- What JournalDirect goes through. -/
structure DirT (L1 L2 : List Wr) (keep : List Bool) (J : Jn) (D : Dk) (J1 : Jn) (D1 : Dk) (J2 : Jn) (D2 : Dk) (J3 : Jn) (D3 D4 D5 : Dk) (J6 : Jn) (D6 : Dk) : Prop where
  c1 : J.commit L1 D = (J1, D1, 0)
  d1 : J1.direct L2 D1 = (J2, D2, 0)
  c2 : J2.commit [⟨24, sectorB 122⟩] D2 = (J3, D3, 0)
  cr : D3.crash keep = (D4, 0)
  st : D4.start = (D5, 0)
  op : openD D5 = (some J6, D6, 0)
  rd : ∀ n : Nat, n < 20 → J6.read D6 n = (upd L2 (upd L1 fun _ => zeroS) n, 0)
  rz : J6.read D6 24 = (sectorB 122, 0)
  num : J.number + 1 < 1000 ∧ J2.number + 1 < 1000
  lo : D.loose.length < 1000 ∧ D1.loose.length < 1000 ∧ D2.loose.length < 1000
  s4 : D4.starts < 1000
  l5 : D5.loose = []
  r5 : ∃ n0 p0 T U, RecS D5.sure n0 p0 T U ∧ n0 + T.length < 2 ^ 60
theorem dir_law {J : Jn} {D : Dk} (h : New J D 90) {L1 L2 : List Wr} (m1 : mayW 20 L1 = true) (m2 : mayW 20 L2 = true) (l1 : L1.length ≤ 20) (l2 : L2.length ≤ 20) (keep : List Bool) :
    ∃ J1 D1 J2 D2 J3 D3 D4 D5 J6 D6, DirT L1 L2 keep J D J1 D1 J2 D2 J3 D3 D4 D5 J6 D6 := by
  have wide : ∀ (L : List Wr) (D : Dk), D.sure.length = 90 → mayW 20 L = true → mayW (Jn.size D) L = true := fun L D hs hm => by
    unfold Jn.size
    rw [hs]
    rw [mayW_iff] at hm ⊢
    exact ⟨fun x hx => by have := hm.1 x hx; omega, hm.2⟩
  obtain ⟨a1, a2, a3, a4⟩ := commit_fine h.live h.fails L1 (by omega) (wide L1 D h.size m1) (by rw [h.number]; decide) (by rw [h.loose]; decide)
  obtain ⟨r, hr⟩ : ∃ r, J.commit L1 D = r := ⟨_, rfl⟩
  obtain ⟨J1, D1, e1⟩ := r
  rw [hr] at a1 a2 a3 a4
  simp only at a1 a2 a3 a4
  subst a1
  obtain ⟨n0, p0, T, hL, -⟩ := a2.live
  have hs1 : D1.sure.length = 90 := a2.size.trans h.size
  have hf1 : D1.fails = false := a2.fails.trans h.fails
  have hl1 : D1.loose.length ≤ 20 := by rw [a4, home_length]; exact l1
  have hn1 : J1.number = 3 := by rw [a3, h.number]
  obtain ⟨b1, ⟨n1, p1, T1, b2⟩, b3, b4, b5, b6, b7⟩ := direct_law hL hf1 L2 (wide L2 D1 hs1 m2) (by omega)
  obtain ⟨r, hr2⟩ : ∃ r, J1.direct L2 D1 = r := ⟨_, rfl⟩
  obtain ⟨J2, D2, e2⟩ := r
  rw [hr2] at b1 b2 b3 b4 b5 b6 b7
  simp only at b1 b2 b3 b4 b5 b6 b7
  subst b1
  have hs2 : D2.sure.length = 90 := b4.trans hs1
  have m3 : mayW (Jn.size D2) [⟨24, sectorB 122⟩] = true := by
    unfold Jn.size
    rw [hs2, mayW_iff]
    refine ⟨fun x hx => ?_, by simp⟩
    rw [List.mem_singleton.1 hx]
    exact ⟨by decide, by decide, sectorB_size _⟩
  obtain ⟨c1, c2, c3, c4⟩ := commit_fine b2 b3 [⟨24, sectorB 122⟩] (by simp) m3 (by omega) (by omega)
  obtain ⟨r, hr3⟩ : ∃ r, J2.commit [⟨24, sectorB 122⟩] D2 = r := ⟨_, rfl⟩
  obtain ⟨J3, D3, e3⟩ := r
  rw [hr3] at c1 c2 c3 c4
  simp only at c1 c2 c3 c4
  subst c1
  obtain ⟨n2, p2, T2, hL3, hT3⟩ := c2.live
  have hs3 : D3.sure.length = 90 := c2.size.trans hs2
  have hst : D3.starts = 0 := c2.starts.trans (b5.trans (a2.starts.trans h.starts))
  obtain ⟨d1, d2, d3⟩ := crash_start hL3.toSeen hT3 (by rw [hst]; decide) keep
  have hnT : n2 + T2.length = 4 := hL3.number.symm.trans (by rw [c3, b6, hn1])
  obtain ⟨J6, D6, f1, f2, f3, f4, f5, f6, f7, f8⟩ := open_fine d3.ok d3.up d3.loose d3.recs (by omega) d3.fails
  have hs6 : D6.sure.length = 90 := f7.trans (d3.size.trans hs3)
  have hno : ∀ L : List Wr, mayW 20 L = true → ∀ x ∈ L, x.sec ≠ ((24 : Nat) : Int) := fun L hm x hx => by
    have := ((mayW_iff _ _).1 hm).1 x hx
    omega
  refine ⟨J1, D1, J2, D2, J3, D3, _, _, J6, D6, hr, hr2, hr3, Prod.ext rfl d1, Prod.ext rfl d2, f1, fun n hn => ?_, ?_, ⟨by rw [h.number]; decide, by omega⟩, ⟨by rw [h.loose]; decide, by omega, by omega⟩, ?_, d3.loose, n2, p2, T2, _, d3.recs, by omega⟩
  · rw [live_read f2 n (by omega)]
    congr 1
    exact upd_out _ _ _ fun x hx => by rw [List.mem_singleton.1 hx]; show (24 : Int) ≠ n; omega
  · exact (live_read f2 24 (by omega)).trans rfl
  · rw [crash_up hL3.up]
    show D3.starts < _
    rw [hst]
    decide

/-- Which bytes are wanted of a sector. -/
theorem upd_take (L : List Wr) (j : Nat) (h : j < L.length) (U : Nat → ByteArray) (n : Nat) : upd (L.take (j + 1)) U n = if L[j].sec = n then L[j].data else upd (L.take j) U n := by
  rw [List.take_succ_eq_append_getElem h, upd_snoc]

theorem direct_walk (la lb : List UInt8) (lk : List Bool) (aa ab ak : Option Addr) (ca cb ck : Nat) (w : World) (hla : la.length ≤ 15) (hlb : lb.length ≤ 15) (hlk : lk.length ≤ 200) (ha : SlU w aa la) (hb : SlU w ab lb) (hk : SlO w ak lk) (hkl : ∀ ad, ak = some ad → lk ≠ [] → ad.block < w.heap.size) :
    Calls Try.prog 8 #[.slice aa la.length ca, .slice ab lb.length cb, .slice ak lk.length ck] w (Ret w (.bool true)) := by
  have HLG := Lib.hid (fun w => logged_any w)
  have HO := Lib.hid (opened_any w 90 (by decide) (by decide))
  have HONE := Lib.hid (show ∀ w, Calls Try.prog 27 #[.int .i64 24, .int .u8 122] w (Ret w (.agg #[.int .i64 24, .string (sectorB 122)])) from fun w => one_any 24 122 w)
  have HS0 := Lib.hid (show ∀ w, Calls Try.prog 31 #[.int .u8 0] w (Ret w (.string zeroS)) from fun w => sector_any 0 w)
  have HSZ := Lib.hid (show ∀ w, Calls Try.prog 31 #[.int .u8 122] w (Ret w (.string (sectorB 122))) from fun w => sector_any 122 w)
  have HW1 := Lib.hid (show ∀ w' : World, Below w.heap.size w w' → Calls Try.prog 24 #[.agg #[.int .u8 0, .int .u8 1, .slice aa la.length ca, .int .i64 0, .slice none 0 0, .slice none 0 0], .int .i64 20] w' (RetL w' (writesL ⟨0, 1, la, 0, [], []⟩ 20)) from
    fun w' h => writes_any ⟨0, 1, la, 0, [], []⟩ ⟨aa, ca, none, 0, none, 0⟩ 20 (by decide) (by show la.length ≤ _; omega) w' (ha.below h))
  have HW2 := Lib.hid (show ∀ w' : World, Below w.heap.size w w' → Calls Try.prog 24 #[.agg #[.int .u8 0, .int .u8 100, .slice ab lb.length cb, .int .i64 0, .slice none 0 0, .slice none 0 0], .int .i64 20] w' (RetL w' (writesL ⟨0, 100, lb, 0, [], []⟩ 20)) from
    fun w' h => writes_any ⟨0, 100, lb, 0, [], []⟩ ⟨ab, cb, none, 0, none, 0⟩ 20 (by decide) (by show lb.length ≤ _; omega) w' (hb.below h))
  have m1 := writesL_may ⟨0, 1, la, 0, [], []⟩ 20 (by decide) 20 (Int.le_refl _)
  have m2 := writesL_may ⟨0, 100, lb, 0, [], []⟩ 20 (by decide) 20 (Int.le_refl _)
  have s1 := writesL_size ⟨0, 1, la, 0, [], []⟩ 20 (by decide)
  have s2 := writesL_size ⟨0, 100, lb, 0, [], []⟩ 20 (by decide)
  have i1 := writesL_in (x := ⟨0, 1, la, 0, [], []⟩) (size := 20) (by decide) (by decide)
  have i2 := writesL_in (x := ⟨0, 100, lb, 0, [], []⟩) (size := 20) (by decide) (by decide)
  generalize writesL ⟨0, 1, la, 0, [], []⟩ 20 = L1 at *
  generalize writesL ⟨0, 100, lb, 0, [], []⟩ 20 = L2 at *
  have hda : decide ((15 : Int) < (la.length : Int)) = false := by simp; omega
  have hdb : decide ((15 : Int) < (lb.length : Int)) = false := by simp; omega
  have hdk : decide ((200 : Int) < (lk.length : Int)) = false := by simp; omega
  have HK := Lib.hid (And.intro hk hkl)
  clear ha hb hk hkl
  go_enter Try.func8, Try.ntmps8
  go_wp2_with fail
  refine HO.out.mono ?_
  rintro e w1 ⟨p, jp, J, D, rfl, hj1, hN, hb1⟩
  obtain ⟨J1, D1, J2, D2, J3, D3, D4, D5, J6, D6, hT⟩ := dir_law hN m1 m2 s1 s2 lk
  have HT := Lib.hid hT
  have HC2 := Lib.hid hT.c2
  have HRZ := Lib.hid hT.rz
  have HRD := Lib.hid hT.rd
  have HM := Lib.hid (And.intro i1 (And.intro i2 (And.intro s1 s2)))
  have HJ1 := Lib.hid hj1
  have HB1 := Lib.hid hb1
  have hqz : ((sectorB 122).toList == (sectorB 122).toList) = true := by simp
  have HZ := Lib.hid (show (fun _ : Nat => zeroS) = fun _ => zeroS from rfl)
  generalize sectorB 122 = sz at *
  generalize zeroS = z0 at *
  clear hT hj1 hb1 hN m1 m2 s1 s2 i1 i2 HO hda hdb hdk
  go_wp2_with fail
  refine (HW1.out _ HB1.out).mono ?_
  rintro e w2 ⟨a1, c1, rfl, q1, f1, b2⟩
  have HB2 := Lib.hid (HB1.out.trans (b2.mono HB1.out.size))
  go_wp2_with fail
  refine (HW2.out _ HB2.out).mono ?_
  rintro e w3 ⟨a2, c2, rfl, q2, f2, b3⟩
  have HB3 := Lib.hid (HB2.out.trans (b3.mono HB2.out.size))
  have b13 := b2.trans (b3.mono b2.size)
  have hj3 := HJ1.out.fresh b13
  have hK1 : ∀ ad, a1 = some ad → w1.heap.size ≤ ad.block ∧ ad.block < w3.heap.size := fun ad e => ⟨(f1 ad e).1, Nat.lt_of_lt_of_le (f1 ad e).2 b3.size⟩
  have hK2 : ∀ ad, a2 = some ad → w1.heap.size ≤ ad.block ∧ ad.block < w3.heap.size := fun ad e => ⟨Nat.le_trans b2.size (f2 ad e).1, (f2 ad e).2⟩
  have hc3 := commit_any hj3 a1 c1 L1 (q1.below b3) (fun ad e => .inr (hK1 ad e)) HM.out.1 (by have := HT.out.lo; omega) (by have := HT.out.num; omega)
  rw [HT.out.c1] at hc3
  have HQ1 := Lib.hid (q1.below b3)
  have HQ2 := Lib.hid q2
  have HK1 := Lib.hid hK1
  have HK2 := Lib.hid hK2
  clear q1 q2 f1 f2 b2 b3 b13 hj3 hK1 hK2
  go_wp2_with fail
  refine hc3.mono ?_
  rintro e w4 ⟨rfl, hj4, hk4⟩
  have HB4 := Lib.hid (HB3.out.trans (hk4.mono fun b hb => .inl hb).below)
  have HQ1 := Lib.hid (HQ1.out.kept hk4 fun ad e => .inr (HK1.out ad e))
  have HQ2 := Lib.hid (HQ2.out.kept hk4 fun ad e => .inr (HK2.out ad e))
  have hd4 := direct_any hj4 a2 c2 L2 HQ2.out (fun ad e => .inr (HK2.out ad e)) HM.out.2.1 (by have := HT.out.lo; show D1.loose.length < _; omega) (by have := HM.out.2.2; omega)
  rw [HT.out.d1] at hd4
  clear hc3 hk4 hj4
  go_wp2_with fail
  refine hd4.mono ?_
  rintro e w5 ⟨rfl, hj5, hk5⟩
  have HB5 := Lib.hid (HB4.out.trans (hk5.mono fun b hb => .inl hb).below)
  have HQ1 := Lib.hid (HQ1.out.kept hk5 fun ad e => .inr (HK1.out ad e))
  have HQ2 := Lib.hid (HQ2.out.kept hk5 fun ad e => .inr (HK2.out ad e))
  have HJ5 := Lib.hid hj5
  clear hd4 hk5 hj5
  go_wp2_with fail
  refine (HONE.out _).mono ?_
  rintro e w6 ⟨rfl, hb6⟩
  go_wp2_with fail
  have hb7 := hb6.trans (((Below.refl w6.heap.size w6).alloc (Nat.le_refl _) (.cells #[.int .i64 24, .string sz] 59)).mono hb6.size)
  have hlast := heap_alloc_last w6 (.cells #[.int .i64 24, .string sz] 59)
  have hj7 := HJ5.out.fresh hb7
  have hK7 : w5.heap.size ≤ w6.heap.size ∧ w6.heap.size < (w6.alloc (.cells #[.int .i64 24, .string sz] 59)).heap.size := ⟨hb6.size, by simp⟩
  generalize w6.alloc (.cells #[.int .i64 24, .string sz] 59) = w7 at *
  have hc7 := commit_any hj7 (some ⟨w6.heap.size, 0, none⟩) 1 [⟨24, sz⟩] (slW_of_block hlast rfl) (fun ad e => by cases e; exact .inr hK7) (fun x hx => by
    simp only [List.mem_cons, List.not_mem_nil, or_false] at hx
    rcases hx with rfl
    simp only [inL]
    omega) (by have := HT.out.lo; show D2.loose.length < _; omega) (by have := HT.out.num; show J2.number + 1 < _; omega)
  rw [HC2.out, show ([⟨24, sz⟩] : List Wr).length = 1 from rfl] at hc7
  have HB7 := Lib.hid (HB5.out.trans (hb7.mono HB5.out.size))
  have HQ1 := Lib.hid (HQ1.out.below hb7)
  have HQ2 := Lib.hid (HQ2.out.below hb7)
  clear hb6 hb7 hlast hj7 hK7 HJ5
  refine hc7.mono ?_
  rintro e w8 ⟨rfl, hj8, hk8⟩
  have HB8 := Lib.hid (HB7.out.trans (hk8.mono fun b hb => .inl (.inl hb)).below)
  have HQ1 := Lib.hid (HQ1.out.kept hk8 fun ad e => .inl (.inr (HK1.out ad e)))
  have HQ2 := Lib.hid (HQ2.out.kept hk8 fun ad e => .inl (.inr (HK2.out ad e)))
  have hcr := crash_any hj8.at.disk ak ck lk (HK.out.1.below HB8.out) (fun ad e hne => .inl (.inl (HK.out.2 ad e hne)))
  rw [HT.out.cr] at hcr
  clear hc7 hk8 hj8
  go_wp2_with fail
  refine hcr.mono ?_
  rintro e w9 ⟨rfl, hd9, hk9⟩
  have HB9 := Lib.hid (HB8.out.trans (hk9.mono fun b hb => .inl (.inl hb)).below)
  have HQ1 := Lib.hid (HQ1.out.kept hk9 fun ad e => .inl (.inr (HK1.out ad e)))
  have HQ2 := Lib.hid (HQ2.out.kept hk9 fun ad e => .inl (.inr (HK2.out ad e)))
  have hst := start_any hd9 (by have := HT.out.s4; omega)
  rw [HT.out.st] at hst
  clear hcr hk9 hd9
  go_wp2_with fail
  refine hst.mono ?_
  rintro e w10 ⟨rfl, hd10, hk10⟩
  have HB10 := Lib.hid (HB9.out.trans (hk10.mono fun b hb => .inl (.inl hb)).below)
  have HQ1 := Lib.hid (HQ1.out.kept hk10 fun ad e => .inl (.inr (HK1.out ad e)))
  have HQ2 := Lib.hid (HQ2.out.kept hk10 fun ad e => .inl (.inr (HK2.out ad e)))
  obtain ⟨n0, p0, T, U, hr, hbig⟩ := HT.out.r5
  have hop := open_told hd10 HT.out.l5 hr hbig HT.out.op
  clear hst hk10 hd10 hr hbig
  go_wp2_with fail
  refine hop.mono ?_
  rintro e w11 ⟨jp6, rfl, hj11, hk11⟩
  have HB11 := Lib.hid (HB10.out.trans (hk11.mono fun b hb => .inl (.inl hb)).below)
  have HQ1 := Lib.hid (HQ1.out.kept hk11 fun ad e => .inl (.inr (HK1.out ad e)))
  have HQ2 := Lib.hid (HQ2.out.kept hk11 fun ad e => .inl (.inr (HK2.out ad e)))
  have HJ11 := Lib.hid hj11
  clear hop hk11 hj11
  go_wp2
  go_loopw [14] (fun i wr => ∃ k : Nat, k ≤ 20 ∧ i = .int .i64 k ∧ Below w11.heap.size w11 wr) (fun i _ => 20 - (intOf i).toNat)
  case atStart => exact ⟨0, by omega, rfl, Below.refl _ _⟩
  case round =>
    obtain ⟨n, hn, rfl, hbn⟩ := hrel
    by_cases hlt : n < 20
    · go_wp2_with fail
      refine (HS0.out _).mono ?_
      rintro e w12 ⟨rfl, hb12⟩
      have HB12 := Lib.hid (hbn.trans (hb12.mono hbn.size))
      have HX1 := Lib.hid (HQ1.out.below HB12.out)
      have HX2 := Lib.hid (HQ2.out.below HB12.out)
      clear hb12 hbn
      go_wp2
      go_loopw [15, 16] (fun s i wr => ∃ j : Nat, j ≤ L1.length ∧ i = .int .i64 j ∧ s = .string (upd (L1.take j) (fun _ => z0) n) ∧ wr = w12) (fun _ i _ => L1.length - (intOf i).toNat)
      case atStart => exact ⟨0, by omega, rfl, rfl, rfl⟩
      case round =>
        obtain ⟨j, hj, rfl, rfl, rfl⟩ := hrel
        by_cases hlj : j < L1.length
        · obtain ⟨b, off, hae, g0, g1⟩ := HX1.out j hlj
          have HU := Lib.hid (upd_take L1 j hlj (fun _ => z0) n)
          have hl1 := HM.out.2.2.1
          subst hae
          generalize L1[j] = u at *
          by_cases hs : u.sec = (n : Int)
          · rw [if_pos hs] at HU
            rw [hs] at g0
            go_wp2
            go_roundw
            case rel => exact ⟨j + 1, by omega, by go_num, by rw [HU.out], trivial⟩
            case measure => simp [intOf]; omega
          · rw [if_neg hs] at HU
            have hs1 : (u.sec == (n : Int)) = false := by simpa using hs
            go_wp2
            go_roundw
            case rel => exact ⟨j + 1, by omega, by go_num, by rw [HU.out], trivial⟩
            case measure => simp [intOf]; omega
        · obtain rfl : j = L1.length := by omega
          rw [List.take_length]
          have HRN := Lib.hid (HRD.out n hlt)
          generalize upd L1 (fun _ => z0) = U1 at *
          obtain ⟨w13, rfl⟩ : ∃ w13 : World, w13 = wr := ⟨_, rfl⟩
          go_wp2
          go_loopw [15, 17] (fun s i wr => ∃ j : Nat, j ≤ L2.length ∧ i = .int .i64 j ∧ s = .string (upd (L2.take j) U1 n) ∧ wr = w13) (fun _ i _ => L2.length - (intOf i).toNat)
          case atStart => exact ⟨0, by omega, rfl, rfl, rfl⟩
          case round =>
            obtain ⟨j, hj, rfl, rfl, rfl⟩ := hrel
            by_cases hlj : j < L2.length
            · obtain ⟨b, off, hae, g0, g1⟩ := HX2.out j hlj
              have HU := Lib.hid (upd_take L2 j hlj U1 n)
              have hl2 := HM.out.2.2.2
              subst hae
              generalize L2[j] = u at *
              by_cases hs : u.sec = (n : Int)
              · rw [if_pos hs] at HU
                rw [hs] at g0
                go_wp2
                go_roundw
                case rel => exact ⟨j + 1, by omega, by go_num, by rw [HU.out], trivial⟩
                case measure => simp [intOf]; omega
              · rw [if_neg hs] at HU
                have hs1 : (u.sec == (n : Int)) = false := by simpa using hs
                go_wp2
                go_roundw
                case rel => exact ⟨j + 1, by omega, by go_num, by rw [HU.out], trivial⟩
                case measure => simp [intOf]; omega
            · obtain rfl : j = L2.length := by omega
              rw [List.take_length]
              generalize upd L2 U1 n = v at *
              have hqv : (v.toList == v.toList) = true := by simp
              have hrd := jread_any (HJ11.out.below HB12.out).at (n : Int) (by unfold inL; omega)
              rw [HRN.out] at hrd
              go_wp2_with fail
              refine hrd.mono ?_
              rintro e w14 ⟨rfl, hb14⟩
              have HB14 := Lib.hid (HB12.out.trans (hb14.mono HB12.out.size))
              clear hrd hb14
              go_wp2
              go_roundw
              case rel => exact ⟨n + 1, by omega, by go_num, HB14.out⟩
              case measure => simp [intOf]; omega
    · obtain rfl : n = 20 := by omega
      have hrd := jread_any (HJ11.out.below hbn).at 24 (by decide)
      rw [HRZ.out] at hrd
      have HBN := Lib.hid hbn
      clear hbn
      go_wp2_with fail
      refine hrd.mono ?_
      rintro e w14 ⟨rfl, hb14⟩
      have HB14 := Lib.hid (HBN.out.trans (hb14.mono HBN.out.size))
      clear hrd hb14
      go_wp2_with fail
      refine (HSZ.out _).mono ?_
      rintro e w15 ⟨rfl, hb15⟩
      have HB15 := Lib.hid (HB14.out.trans (hb15.mono HB14.out.size))
      clear hb15
      go_wp2_with fail
      refine (HLG.out _).mono ?_
      rintro e w16 ⟨rfl, hb16⟩
      have HB16 := Lib.hid (HB15.out.trans (hb16.mono HB15.out.size))
      clear hb16
      go_wp2
      go_ret
      exact ⟨rfl, HB11.out.trans (HB16.out.mono HB11.out.size)⟩

theorem direct_great (la lb : List UInt8) (lk : List Bool) (aa ab ak : Option Addr) (ca cb ck : Nat) (w : World) (h1 : la.length ≤ maxLen) (h2 : lb.length ≤ maxLen) (h3 : lk.length ≤ maxLen) (h : 15 < la.length ∨ 15 < lb.length ∨ 200 < lk.length) :
    Calls Try.prog 8 #[.slice aa la.length ca, .slice ab lb.length cb, .slice ak lk.length ck] w (Ret w (.bool true)) := by
  have HLG := Lib.hid (fun w => logged_any w)
  unfold maxLen at h1 h2 h3
  have go : ∀ (b1 b2 b3 : Bool), decide ((15 : Int) < (la.length : Int)) = b1 → decide ((15 : Int) < (lb.length : Int)) = b2 → decide ((200 : Int) < (lk.length : Int)) = b3 → (b1 || b2 || b3) = true →
      Calls Try.prog 8 #[.slice aa la.length ca, .slice ab lb.length cb, .slice ak lk.length ck] w (Ret w (.bool true)) := by
    intro b1 b2 b3 e1 e2 e3 hor
    clear h
    cases b1
    · cases b2
      · cases b3
        · cases hor
        · go_enter Try.func8, Try.ntmps8
          go_wp2_with fail
          refine (HLG.out _).mono ?_
          rintro e w16 ⟨rfl, hb16⟩
          go_wp2
          go_ret
          exact ⟨rfl, hb16⟩
      · go_enter Try.func8, Try.ntmps8
        go_wp2_with fail
        refine (HLG.out _).mono ?_
        rintro e w16 ⟨rfl, hb16⟩
        go_wp2
        go_ret
        exact ⟨rfl, hb16⟩
    · go_enter Try.func8, Try.ntmps8
      go_wp2_with fail
      refine (HLG.out _).mono ?_
      rintro e w16 ⟨rfl, hb16⟩
      go_wp2
      go_ret
      exact ⟨rfl, hb16⟩
  refine go _ _ _ rfl rfl rfl ?_
  simp
  omega
end Go.Proofs.Ytffgjjhopopgcaa
