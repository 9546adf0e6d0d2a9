/-
  A crash, a start, an Open, whole; the walk of logged.
-/
import Derived.Test.YtffgjjhopopgcaaWc
namespace Go.Proofs.Ytffgjjhopopgcaa
set_option linter.unusedVariables false
set_option linter.unusedSimpArgs false
open Go.RowKit
set_option maxRecDepth 100000
set_option maxHeartbeats 8000000

/-! ### plain laws -/
/-- Behind a crash and a start. -/
structure Restarted (D D2 : Dk) (n0 p0 : Nat) (T : List (List Wr)) (U : Nat → ByteArray) : Prop where
  ok : D2.Ok
  up : D2.down = false
  loose : D2.loose = []
  fails : D2.fails = false
  recs : RecS D2.sure n0 p0 T U
  size : D2.sure.length = D.sure.length
  starts : D2.starts = D.starts + 1
theorem start_ok {D : Dk} (ok : D.Ok) (hs : D.starts < 1000000000000) : ({ D with down := false, starts := D.starts + 1 } : Dk).Ok :=
  ⟨⟨ok.size, ok.sure, ok.loose, by have := ok.starts; simp only; omega, ok.lefts, ok.keep, ok.many⟩, ok.left⟩
theorem crash_up {D : Dk} (up : D.down = false) (keep : List Bool) : D.crash keep = (D.crashed keep, 0) := by unfold Dk.crash; rw [if_neg (by simp [up])]
theorem start_down {D : Dk} (dn : D.down = true) : D.start = ({ D with down := false, starts := D.starts + 1 }, 0) := by unfold Dk.start; rw [if_pos dn]
theorem crash_start {D : Dk} {n0 p0 : Nat} {T : List (List Wr)} {U : Nat → ByteArray} (h : Seen D n0 p0 T U) (hh : HomeT D.sure.length T D.loose) (hs : D.starts < 1000000000000) (keep : List Bool) :
    (D.crash keep).2 = 0 ∧ (D.crash keep).1.start.2 = 0 ∧ Restarted D (D.crash keep).1.start.1 n0 p0 T U := by
  rw [crash_up h.up]
  have e : (D.crashed keep).start = ({ D.crashed keep with down := false, starts := (D.crashed keep).starts + 1 }, 0) := start_down rfl
  refine ⟨rfl, by rw [e], ?_⟩
  rw [e]
  have okc := h.ok.toOkw.crashed keep
  refine ⟨start_ok okc hs, rfl, rfl, rfl, ?_, Dk.settle_length _ _ _ _, rfl⟩
  exact (h.recS hh).settle hh _ 0
/-- Whatever is loose. -/
theorem crash_any_start {D : Dk} {n0 p0 : Nat} {T : List (List Wr)} {U : Nat → ByteArray} (h : Seen D n0 p0 T U) (hs : D.starts < 1000000000000) (keep : List Bool) :
    (D.crash keep).2 = 0 ∧ (D.crash keep).1.start.2 = 0 ∧ ∃ U', Restarted D (D.crash keep).1.start.1 n0 p0 T U' := by
  rw [crash_up h.up]
  have e : (D.crashed keep).start = ({ D.crashed keep with down := false, starts := (D.crashed keep).starts + 1 }, 0) := start_down rfl
  refine ⟨rfl, by rw [e], upd T.flatten (homeS (D.crashed keep).sure), ?_⟩
  rw [e]
  have okc := h.ok.toOkw.crashed keep
  refine ⟨start_ok okc hs, rfl, rfl, rfl, ⟨?_, fun i hi => rfl⟩, Dk.settle_length _ _ _ _, rfl⟩
  refine settle_ind (fun S => Lg S n0 p0 T) _ D.loose 0 D.sure (fun S x hx hl => ?_) h.lg
  obtain ⟨i, ei, _⟩ := h.home x hx
  rw [ei]
  exact hl.set_home _ (by omega) _

/-- An Open of a disk that does not fail. -/
theorem open_fine {D : Dk} {n0 p0 : Nat} {T : List (List Wr)} {U : Nat → ByteArray} (ok : D.Ok) (up : D.down = false) (hl : D.loose = []) (hr : RecS D.sure n0 p0 T U) (hbig : n0 + T.length < 2 ^ 60) (hf : D.fails = false) :
    ∃ J D', openD D = (some J, D', 0) ∧ Live J D' J.number J.place [] U ∧ D'.loose = [] ∧ J.number = n0 + T.length + 1 ∧ J.used = 0 ∧ D'.fails = false ∧ D'.sure.length = D.sure.length ∧ D'.starts = D.starts := by
  rcases openD_law ok up hl hr (by omega) with ⟨J, D', h1, h2, h3, h4, h5, h6, h7, h8⟩ | ⟨D', _, h⟩
  · exact ⟨J, D', h1, h2, h3, h4, h5, h6.trans hf, h7, h8⟩
  · have := h.failing
    rw [hf] at this
    cases this
theorem num_small {D : Dk} {n0 p0 : Nat} {T : List (List Wr)} {U : Nat → ByteArray} (hl : D.loose = []) (hr : RecS D.sure n0 p0 T U) (hbig : n0 + T.length < 2 ^ 60) :
    manyOf (D.get 0) < 64 → D.get 0 = ⟨(markL (numOf (D.get 0)) (manyOf (D.get 0))).toArray⟩ → numOf (D.get 0) < 2305843009213693952 := fun _ _ => by
  have hsz := hr.lg.size
  have g0 : D.get 0 = ⟨(markL n0 p0).toArray⟩ := by
    rw [get_low (by rw [hl]; intro x hx; cases hx) 0 (by omega) (by omega)]
    exact hr.lg.mark
  rw [g0, numOf_mark _ _ (by omega)]
  omega
/-- The walk of such an Open. -/
def RetOpen (w : World) (K : Nat → Prop) (p : Nat) (J : Jn) (D : Dk) (e : Ending) (w' : World) : Prop :=
  ∃ jp, e = .returned (.tuple #[.pointer (some ⟨jp, 0, none⟩), .int .i64 0]) ∧ JUp w' K jp p J D ∧ Kept K w w'
theorem open_told {w : World} {K : Nat → Prop} {p : Nat} {D : Dk} {n0 p0 : Nat} {T : List (List Wr)} {U : Nat → ByteArray} (h : DiskAt w K p D) (hl : D.loose = []) (hr : RecS D.sure n0 p0 T U) (hbig : n0 + T.length < 2 ^ 60) {J : Jn} {D' : Dk} (he : openD D = (some J, D', 0)) :
    Calls Try.prog 30 #[.pointer (some ⟨p, 0, none⟩)] w (RetOpen w K p J D') := by
  have := open_any h (by rw [hl]; decide) (num_small hl hr hbig)
  rw [he] at this
  exact this.mono fun e w' ⟨⟨jp, h1, h2, h3⟩, h4⟩ => ⟨jp, h1, h2, h4⟩
theorem live_read {J : Jn} {D : Dk} {n0 p0 : Nat} {T : List (List Wr)} {U : Nat → ByteArray} (h : Live J D n0 p0 T U) (i : Nat) (hi : 65 + i < D.sure.length) : J.read D i = (U i, 0) := by
  unfold Jn.read
  rw [if_neg (by simp [h.over]), if_neg (by unfold Jn.size; omega)]
  rw [show (65 + (i : Int)) = ((65 + i : Nat) : Int) by omega, read_up h.up _ hi, h.view i hi]
theorem commit_added {J : Jn} {l : List Wr} {D : Dk} (h : (J.commit l D).2.2 = 0) (hr : J.used + 1 + l.length ≤ 64) : (J.commit l D).1 = J.added l := by
  unfold Jn.commit at *
  split at h
  · contradiction
  · rename_i h1
    split at h
    · cases h
    · rename_i h2
      split at h
      · contradiction
      · rename_i h3
        rw [if_neg h1, if_neg h2, if_neg h3]
        have e : J.roomed l D = (J, D, 0) := if_neg (by omega)
        simp only [e] at h ⊢
        rw [if_neg (by simp)] at h ⊢
        split at h
        · contradiction
        · rename_i h4
          rw [if_neg h4]
theorem commit_bad2 {J : Jn} {l : List Wr} {D : Dk} (ho : J.over D = 0) (hl : l.length ≤ 24) (hm : mayW (Jn.size D) l = false) : J.commit l D = (J, D, 2) := by
  have hc : Jn.check D l = 2 := by unfold Jn.check; rw [hm]; rfl
  unfold Jn.commit
  rw [if_neg (by simp [ho]), if_neg (by omega), if_pos (by rw [hc]; decide), hc]
/-- A commit, of a disk that does not fail. -/
theorem commit_fine {J : Jn} {D : Dk} {n0 p0 : Nat} {T : List (List Wr)} {U : Nat → ByteArray} (h : Live J D n0 p0 T U) (hf : D.fails = false) (l : List Wr) (hl : l.length ≤ 24) (hm : mayW (Jn.size D) l = true)
    (hn : J.number + 1 < 2 ^ 60) (hmany : D.loose.length < 1000000000) :
    (J.commit l D).2.2 = 0 ∧ Done J D (upd l U) (J.commit l D).1 (J.commit l D).2.1 ∧ (J.commit l D).1.number = J.number + 1 ∧ (J.commit l D).2.1.loose = home l := by
  rcases commit_law h (fun hfl => by rw [hf] at hfl; cases hfl) l hl hm (by omega) hmany with h1 | ⟨_, h1⟩
  · exact h1
  · have := h1.failing
    rw [hf] at this
    cases this

/-! ### slices that are built -/
theorem slW_of_block {w : World} {g : Nat} {l : List Wr} {cs : Array Value} {t : TypeId} {fr : Nat × Nat} (h : w.heap[g]? = some (.cells cs t fr)) (hc : cs.toList = wrV l) : SlW w (some ⟨g, 0, none⟩) l := fun k hk => by
  have h3 := wrV_get l k hk
  refine ⟨g, 0, rfl, ?_, ?_⟩
  · rw [Nat.zero_add, cell_of_row _ _ _ _ _ _ h, ← Array.getElem?_toList, hc]
    exact h3.1
  · rw [Nat.zero_add, cell_of_row _ _ _ _ _ _ h, ← Array.getElem?_toList, hc]
    exact h3.2
theorem slO_nil (w : World) : SlO w none [] := fun k hk => by simp at hk

/-! ### logged -/
def logL : List Wr := [⟨0, sectorB 97⟩, ⟨3, sectorB 98⟩]
theorem logL_may : mayW 8 logL = true := by
  rw [mayW_iff]
  refine ⟨fun x hx => ?_, by decide⟩
  simp only [logL, List.mem_cons, List.not_mem_nil, or_false] at hx
  rcases hx with rfl | rfl
  · exact ⟨by decide, by decide, sectorB_size _⟩
  · exact ⟨by decide, by decide, sectorB_size _⟩
theorem logL_bad : mayW 8 [⟨9, sectorB 99⟩] = false := by
  cases h : mayW 8 [⟨9, sectorB 99⟩] with
  | false => rfl
  | true =>
    have := ((mayW_iff _ _).1 h).1 _ (List.mem_singleton.2 rfl)
    exact absurd this.2.1 (by decide)
/-- What logged goes through. -/
structure LogT (J : Jn) (D : Dk) (J1 : Jn) (D1 D2 D3 D4 : Dk) (J4 : Jn) : Prop where
  c1 : J.commit logL D = (J1, D1, 0)
  room : 64 - (J1.used : Int) = 61
  c2 : J1.commit [⟨9, sectorB 99⟩] D1 = (J1, D1, 2)
  cr : D1.crash [] = (D2, 0)
  st : D2.start = (D3, 0)
  op : openD D3 = (some J4, D4, 0)
  rd0 : J4.read D4 0 = (sectorB 97, 0)
  rd3 : J4.read D4 3 = (sectorB 98, 0)
  room4 : 64 - (J4.used : Int) = 64
  num : J1.number + 1 < 1000
  l1 : D1.loose.length < 1000
  s1 : D2.starts < 1000
  l3 : D3.loose = []
  r3 : ∃ n0 p0 T U, RecS D3.sure n0 p0 T U ∧ n0 + T.length < 2 ^ 60
theorem log_law {J : Jn} {D : Dk} (h : New J D 73) : ∃ J1 D1 D2 D3 D4 J4, LogT J D J1 D1 D2 D3 D4 J4 := by
  have hs : Jn.size D = 8 := by unfold Jn.size; rw [h.size]; rfl
  obtain ⟨a1, a2, a3, a4⟩ := commit_fine h.live h.fails logL (by decide) (by rw [hs]; exact logL_may) (by rw [h.number]; decide) (by rw [h.loose]; decide)
  have au := commit_added a1 (by rw [h.used]; decide)
  obtain ⟨r, hr⟩ : ∃ r, J.commit logL D = r := ⟨_, rfl⟩
  obtain ⟨J1, D1, e1⟩ := r
  rw [hr] at a1 a2 a3 a4 au
  simp only at a1 a2 a3 a4 au
  subst a1
  obtain ⟨n0, p0, T, hL, hT⟩ := a2.live
  have hn1 : J1.number = 3 := by rw [a3, h.number]
  have hst : D1.starts = 0 := a2.starts.trans h.starts
  have hsz : D1.sure.length = 73 := a2.size.trans h.size
  obtain ⟨b1, b2, b3⟩ := crash_start hL.toSeen hT (by rw [hst]; decide) []
  have hnT : n0 + T.length = 3 := hL.number.symm.trans hn1
  obtain ⟨J4, D4, c1, c2, c3, c4, c5, c6, c7, c8⟩ := open_fine b3.ok b3.up b3.loose b3.recs (by omega) b3.fails
  have hsz4 : D4.sure.length = 73 := c7.trans (b3.size.trans hsz)
  refine ⟨J1, D1, _, _, D4, J4, hr, ?_, commit_bad2 hL.over (by decide) (by unfold Jn.size; rw [hsz]; exact logL_bad), Prod.ext rfl b1, Prod.ext rfl b2, c1, ?_, ?_, by rw [c5]; rfl, by omega, by rw [a4]; decide, ?_, b3.loose, n0, p0, T, _, b3.recs, by omega⟩
  · rw [au]
    show 64 - ((J.used + (1 + logL.length) : Nat) : Int) = 61
    rw [h.used]
    rfl
  · have := live_read c2 0 (by omega)
    exact this
  · have := live_read c2 3 (by omega)
    exact this
  · rw [crash_up hL.up]
    show D1.starts < _
    rw [hst]
    decide

theorem logged_any (w : World) : Calls Try.prog 22 #[] w (Ret w (.bool true)) := by
  have HO := Lib.hid (opened_any w 73 (by decide) (by decide))
  have HONE := Lib.hid (fun n c w => one_any n c w)
  have HSC := Lib.hid (fun c w => sector_any c w)
  go_enter Try.func22, Try.ntmps22
  go_wp2_with fail
  refine HO.out.mono ?_
  rintro e w1 ⟨p, jp, J, D, rfl, hj1, hN, hb1⟩
  obtain ⟨J1, D1, D2, D3, D4, J4, hT⟩ := log_law hN
  have hS : Jn.size D = 8 := by unfold Jn.size; rw [hN.size]; rfl
  have hU : 64 - (J.used : Int) = 64 := by rw [hN.used]; rfl
  have HSZ := jsize_any hj1.at
  have HRM := room_any hj1.at
  rw [hS] at HSZ
  rw [hU] at HRM
  have HT := Lib.hid hT
  have HC2 := Lib.hid hT.c2
  have HRD0 := Lib.hid hT.rd0
  have HRD3 := Lib.hid hT.rd3
  have HJ1 := Lib.hid hj1
  have HB1 := Lib.hid hb1
  have HLJ := Lib.hid (show D.loose.length < 1000000000 ∧ J.number + 1 < 4611686018427387904 by rw [hN.loose, hN.number]; decide)
  clear hT hj1 hb1 hN hS hU
  go_wp2_with fail
  refine HSZ.mono ?_
  rintro e w2 ⟨rfl, rfl⟩
  go_wp2_with fail
  refine HRM.mono ?_
  rintro e w2 ⟨rfl, rfl⟩
  have H97 := Lib.hid (show ∀ w, Calls Try.prog 27 #[.int .i64 0, .int .u8 97] w (Ret w (.agg #[.int .i64 0, .string (sectorB 97)])) from fun w => HONE.out 0 97 w)
  have H98 := Lib.hid (show ∀ w, Calls Try.prog 27 #[.int .i64 3, .int .u8 98] w (Ret w (.agg #[.int .i64 3, .string (sectorB 98)])) from fun w => HONE.out 3 98 w)
  have H99 := Lib.hid (show ∀ w, Calls Try.prog 27 #[.int .i64 9, .int .u8 99] w (Ret w (.agg #[.int .i64 9, .string (sectorB 99)])) from fun w => HONE.out 9 99 w)
  have HLOG := Lib.hid (show logL = [⟨0, sectorB 97⟩, ⟨3, sectorB 98⟩] from rfl)
  have HS97 := Lib.hid (show ∀ w, Calls Try.prog 31 #[.int .u8 97] w (Ret w (.string (sectorB 97))) from fun w => HSC.out 97 w)
  have HS98 := Lib.hid (show ∀ w, Calls Try.prog 31 #[.int .u8 98] w (Ret w (.string (sectorB 98))) from fun w => HSC.out 98 w)
  have hq97 : ((sectorB 97).toList == (sectorB 97).toList) = true := by simp
  have hq98 : ((sectorB 98).toList == (sectorB 98).toList) = true := by simp
  generalize hg97 : sectorB 97 = s97 at *
  generalize hg98 : sectorB 98 = s98 at *
  generalize hg99 : sectorB 99 = s99 at *
  clear hg97 hg98 hg99 HO HONE HSC HSZ HRM
  go_wp2_with fail
  refine (H97.out _).mono ?_
  rintro e w3 ⟨rfl, hb3⟩
  go_wp2_with fail
  refine (H98.out _).mono ?_
  rintro e w4 ⟨rfl, hb4⟩
  go_wp2_with fail
  have hb5 := (hb3.trans (hb4.mono hb3.size)).trans (((Below.refl w4.heap.size w4).alloc (Nat.le_refl _) (.cells #[.int .i64 0, .string s97, .int .i64 3, .string s98] 59)).mono (hb3.trans (hb4.mono hb3.size)).size)
  have hlast := heap_alloc_last w4 (.cells #[.int .i64 0, .string s97, .int .i64 3, .string s98] 59)
  have hj5 := HJ1.out.fresh hb5
  have hK5 : w1.heap.size ≤ w4.heap.size ∧ w4.heap.size < (w4.alloc (.cells #[.int .i64 0, .string s97, .int .i64 3, .string s98] 59)).heap.size := ⟨(hb3.trans (hb4.mono hb3.size)).size, by simp⟩
  generalize w4.alloc (.cells #[.int .i64 0, .string s97, .int .i64 3, .string s98] 59) = w5 at *
  have hc5 := commit_any hj5 (some ⟨w4.heap.size, 0, none⟩) 2 logL (slW_of_block hlast (by rw [HLOG.out]; rfl)) (fun ad e => by cases e; exact .inr hK5) (fun x hx => by
    rw [HLOG.out] at hx
    simp only [List.mem_cons, List.not_mem_nil, or_false] at hx
    rcases hx with rfl | rfl <;> (simp only [inL]; omega)) HLJ.out.1 HLJ.out.2
  rw [HT.out.c1, show logL.length = 2 from rfl] at hc5
  have HB5 := Lib.hid (HB1.out.trans (hb5.mono HB1.out.size))
  clear hb3 hb4 hb5 hlast hK5
  refine hc5.mono ?_
  rintro e w6 ⟨rfl, hj6, hk6⟩
  have hr6 := room_any hj6.at
  rw [HT.out.room] at hr6
  have HB6 := Lib.hid (HB5.out.trans (hk6.mono fun b hb => .inl hb).below)
  clear hc5 hk6 HJ1 hj5
  go_wp2_with fail
  refine hr6.mono ?_
  rintro e w7 ⟨rfl, rfl⟩
  clear hr6
  go_wp2_with fail
  refine (H99.out _).mono ?_
  rintro e w7 ⟨rfl, hb7⟩
  go_wp2_with fail
  have hb8 := hb7.trans (((Below.refl w7.heap.size w7).alloc (Nat.le_refl _) (.cells #[.int .i64 9, .string s99] 59)).mono hb7.size)
  have hlast := heap_alloc_last w7 (.cells #[.int .i64 9, .string s99] 59)
  have hj8 := hj6.fresh hb8
  have hK8 : w6.heap.size ≤ w7.heap.size ∧ w7.heap.size < (w7.alloc (.cells #[.int .i64 9, .string s99] 59)).heap.size := ⟨hb7.size, by simp⟩
  generalize w7.alloc (.cells #[.int .i64 9, .string s99] 59) = w8 at *
  have hc8 := commit_any hj8 (some ⟨w7.heap.size, 0, none⟩) 1 [⟨9, s99⟩] (slW_of_block hlast rfl) (fun ad e => by cases e; exact .inr hK8) (fun x hx => by
    simp only [List.mem_cons, List.not_mem_nil, or_false] at hx
    rcases hx with rfl
    simp only [inL]
    omega) (by have := HT.out.l1; omega) (by have := HT.out.num; omega)
  rw [HC2.out, show ([⟨9, s99⟩] : List Wr).length = 1 from rfl] at hc8
  have HB8 := Lib.hid (HB6.out.trans (hb8.mono HB6.out.size))
  clear hb7 hb8 hlast hK8 hj6
  refine hc8.mono ?_
  rintro e w9 ⟨rfl, hj9, hk9⟩
  have HB9 := Lib.hid (HB8.out.trans (hk9.mono fun b hb => .inl (.inl hb)).below)
  have hcr := crash_any hj9.at.disk none 0 [] (slO_nil _) (fun ad e => by cases e)
  rw [HT.out.cr, show ([] : List Bool).length = 0 from rfl] at hcr
  clear hc8 hk9 hj8 hj9
  go_wp2_with fail
  refine hcr.mono ?_
  rintro e w10 ⟨rfl, hd10, hk10⟩
  have HB10 := Lib.hid (HB9.out.trans (hk10.mono fun b hb => .inl (.inl hb)).below)
  have hst := start_any hd10 (by have := HT.out.s1; omega)
  rw [HT.out.st] at hst
  clear hcr hk10 hd10
  go_wp2_with fail
  refine hst.mono ?_
  rintro e w11 ⟨rfl, hd11, hk11⟩
  have HB11 := Lib.hid (HB10.out.trans (hk11.mono fun b hb => .inl (.inl hb)).below)
  obtain ⟨n0, p0, T, U, hr, hbig⟩ := HT.out.r3
  have hop := open_told hd11 HT.out.l3 hr hbig HT.out.op
  clear hst hk11 hd11 hr hbig
  go_wp2_with fail
  refine hop.mono ?_
  rintro e w12 ⟨jp4, rfl, hj12, hk12⟩
  have HB12 := Lib.hid (HB11.out.trans (hk12.mono fun b hb => .inl (.inl hb)).below)
  have hr0 := jread_any hj12.at 0 (by decide)
  rw [HRD0.out] at hr0
  have HJ12 := Lib.hid hj12
  clear hop hk12 hj12
  go_wp2_with fail
  refine hr0.mono ?_
  rintro e w13 ⟨rfl, hb13⟩
  have HB13 := Lib.hid (HB12.out.trans (hb13.mono HB12.out.size))
  have hj13 := HJ12.out.below hb13
  have hr3 := jread_any hj13.at 3 (by decide)
  rw [HRD3.out] at hr3
  have HJ13 := Lib.hid hj13
  clear hr0 hb13 hj13
  go_wp2_with fail
  refine hr3.mono ?_
  rintro e w14 ⟨rfl, hb14⟩
  have HB14 := Lib.hid (HB13.out.trans (hb14.mono HB13.out.size))
  have HJ14 := Lib.hid (HJ13.out.below hb14)
  clear hr3 hb14
  go_wp2_with fail
  refine (HS97.out _).mono ?_
  rintro e w15 ⟨rfl, hb15⟩
  have HB15 := Lib.hid (HB14.out.trans (hb15.mono HB14.out.size))
  have HJ15 := Lib.hid (HJ14.out.below hb15)
  clear hb15
  go_wp2_with fail
  refine (HS98.out _).mono ?_
  rintro e w16 ⟨rfl, hb16⟩
  have HB16 := Lib.hid (HB15.out.trans (hb16.mono HB15.out.size))
  have hj16 := HJ15.out.below hb16
  have hrm := room_any hj16.at
  rw [HT.out.room4] at hrm
  clear hb16 hj16
  go_wp2_with fail
  refine hrm.mono ?_
  rintro e w17 ⟨rfl, rfl⟩
  clear hrm
  go_wp2
  go_ret
  exact ⟨rfl, HB16.out⟩
end Go.Proofs.Ytffgjjhopopgcaa
