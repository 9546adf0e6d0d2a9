/-
  The walk of stands: which transaction stands at the journal's place.
-/
import Derived.Test.YtffgjjhopopgcaaJm
namespace Go.Proofs.Ytffgjjhopopgcaa
set_option linter.unusedVariables false
set_option linter.unusedSimpArgs false
open Go.RowKit
set_option maxRecDepth 100000
set_option maxHeartbeats 8000000

def dMark : List UInt8 := [76, 68, 48, 49]
def isD (s : ByteArray) : Bool := Lib.hasPrefix (bOf s) dMark
def restD (s : ByteArray) : List UInt8 := Lib.trimPrefix (bOf s) dMark
/-- What a head says of a write, with its data's sector. -/
def readWr (s data : ByteArray) (i : Nat) : Wr := ⟨(getB (((bOf s).drop (13 + 8 * i)).take 4) : Nat), ⟨((((bOf s).drop (17 + 8 * i)).take 4) ++ restD data).toArray⟩⟩
/-- The first k writes of a transaction, if each has its data. -/
def standL (place : Nat) (D : Dk) (s : ByteArray) : Nat → Option (List Wr)
  | 0 => some []
  | k + 1 => (standL place D s k).bind fun l => if isD (D.get (1 + (place + 1 + k) % 64)) then some (l ++ [readWr s (D.get (1 + (place + 1 + k) % 64)) k]) else none
def manyOf (s : ByteArray) : Nat := ((bOf s).getD 12 0).toNat
/-- The transaction that stands. -/
def Jn.stands (J : Jn) (D : Dk) : List Wr × Bool :=
  if 24 < manyOf (D.get (1 + J.place % 64)) then ([], false)
  else match standL J.place D (D.get (1 + J.place % 64)) (manyOf (D.get (1 + J.place % 64))) with
    | none => ([], false)
    | some l => (l, decide (headL J.number l = bOf (D.get (1 + J.place % 64))) && decide (Jn.check D l = 0))

theorem standL_none {place : Nat} {D : Dk} {s : ByteArray} {k : Nat} (h : standL place D s k = none) : ∀ m, k ≤ m → standL place D s m = none := by
  intro m hm
  induction m with
  | zero =>
    obtain rfl : k = 0 := by omega
    exact h
  | succ m ih =>
    by_cases e : k = m + 1
    · exact e ▸ h
    · simp [standL, ih (by omega)]
theorem standL_length {place : Nat} {D : Dk} {s : ByteArray} : ∀ (k : Nat) (l : List Wr), standL place D s k = some l → l.length = k := by
  intro k
  induction k with
  | zero => intro l h; simp [standL] at h; subst h; rfl
  | succ k ih =>
    intro l h
    simp only [standL, Option.bind_eq_some_iff] at h
    obtain ⟨l0, h0, h1⟩ := h
    split at h1
    · cases h1
      simp [ih l0 h0]
    · cases h1
theorem get_size {D : Dk} (h : D.Ok) (n : Nat) (hn : n < D.sure.length) : (D.get n).size = 512 := by
  unfold Dk.get
  split
  · rename_i x hx
    exact (h.loose x (by have := List.mem_of_find?_eq_some hx; simpa using this)).2.2
  · rw [List.getD, List.getElem?_eq_getElem hn]
    exact h.sure _ (List.getElem_mem hn)
theorem read_up {D : Dk} (hd : D.down = false) (n : Nat) (hn : n < D.sure.length) : D.read (n : Int) = (D.get n, 0) := by
  unfold Dk.read
  rw [if_neg (by simp [hd]), if_neg (by rintro (h | h) <;> omega)]
  simp

/-- What stands leaves. -/
def RetS (w : World) (r : List Wr × Bool) (e : Ending) (w' : World) : Prop := ∃ a c, e = .returned (.tuple #[.slice a r.1.length c, .bool r.2]) ∧ SlW w' a r.1 ∧ (∀ ad, a = some ad → w.heap.size ≤ ad.block ∧ ad.block < w'.heap.size) ∧ Below w.heap.size w w'

theorem readWr_get (s data : ByteArray) (k : Nat) (hs : s.size = 512) (hk : k < 24) : ∃ n : Nat, n < 4294967296 ∧ (readWr s data k).sec = n ∧ getB (((s.extract (13 + 8 * k) (21 + 8 * k)).extract 0 4).data.toList.take 8) = n ∧
    (s.extract (13 + 8 * k) (21 + 8 * k)).extract 4 8 ++ ⟨(restD data).toArray⟩ = (readWr s data k).data ∧ (s.extract (13 + 8 * k) (21 + 8 * k)).size = 8 := by
  have hl : (bOf s).length = 512 := by rw [bOf_size, hs]
  have e1 : bOf (s.extract (13 + 8 * k) (21 + 8 * k)) = ((bOf s).drop (13 + 8 * k)).take 8 := by
    rw [extract_bytes, bOf_mk, List.drop_take, show 21 + 8 * k - (13 + 8 * k) = 8 by omega]
  have e2 : ((s.extract (13 + 8 * k) (21 + 8 * k)).extract 0 4).data.toList = ((bOf s).drop (13 + 8 * k)).take 4 := by
    show bOf _ = _
    rw [extract_bytes, bOf_mk, List.drop_zero, e1, List.take_take]
    rfl
  refine ⟨getB (((bOf s).drop (13 + 8 * k)).take 4), ?_, rfl, ?_, ?_, ?_⟩
  · have := getB_lt (((bOf s).drop (13 + 8 * k)).take 4)
    have e : (((bOf s).drop (13 + 8 * k)).take 4).length = 4 := by rw [List.length_take, List.length_drop]; omega
    rw [e] at this
    omega
  · rw [e2, List.take_of_length_le (by rw [List.length_take]; omega)]
  · rw [extract_bytes, e1, mk_append]
    show _ = (⟨((((bOf s).drop (17 + 8 * k)).take 4) ++ restD data).toArray⟩ : ByteArray)
    rw [List.take_take, List.drop_take, List.drop_drop, show 13 + 8 * k + 4 = 17 + 8 * k by omega]
    rfl
  · rw [ByteArray.size_extract]
    omega

theorem restD_length {s : ByteArray} (h : isD s = true) : (restD s).length = (bOf s).length - 4 := by
  unfold restD Lib.trimPrefix
  rw [show Lib.hasPrefix (bOf s) dMark = true from h, if_pos rfl, List.length_drop]
  rfl
theorem standL_good {place : Nat} {D : Dk} {s : ByteArray} (hok : D.Ok) (hsz : 65 ≤ D.sure.length) (hs : s.size = 512) : ∀ (k : Nat) (l : List Wr), k ≤ 24 → standL place D s k = some l → ∀ x ∈ l, 0 ≤ x.sec ∧ x.sec < 4294967296 ∧ x.data.size = 512 := by
  intro k
  induction k with
  | zero => intro l _ h; simp [standL] at h; subst h; intro x hx; cases hx
  | succ k ih =>
    intro l hk h
    simp only [standL, Option.bind_eq_some_iff] at h
    obtain ⟨l0, h0, h1⟩ := h
    split at h1
    · rename_i hd
      cases h1
      intro x hx
      rcases List.mem_append.1 hx with hx | hx
      · exact ih l0 (by omega) h0 x hx
      · simp only [List.mem_singleton] at hx
        subst hx
        obtain ⟨n, hn, e1, -, -, -⟩ := readWr_get s (D.get (1 + (place + 1 + k) % 64)) k hs (by omega)
        have hl : (bOf (D.get (1 + (place + 1 + k) % 64))).length = 512 := by rw [bOf_size]; exact get_size hok _ (by omega)
        have hls : (bOf s).length = 512 := by rw [bOf_size, hs]
        refine ⟨by rw [e1]; omega, by rw [e1]; omega, ?_⟩
        show (⟨((((bOf s).drop (17 + 8 * k)).take 4) ++ restD (D.get (1 + (place + 1 + k) % 64))).toArray⟩ : ByteArray).size = 512
        rw [mk_size, List.length_append, restD_length hd, hl, List.length_take, List.length_drop]
        omega
    · cases h1
theorem toList_beq2 (a b : ByteArray) : (a.toList == b.toList) = decide (a = b) := by
  rw [← beq_toListBytes]
  rw [Bool.eq_iff_iff, decide_eq_true_eq]
  cases a with | mk x => cases b with | mk y =>
  show ((x == y) = true) ↔ _
  simp

theorem stands_any {w : World} {K : Nat → Prop} {jp p : Nat} {mv : Option Nat} {J : Jn} {D : Dk} (h : JRows w K jp p mv J D) (hd : D.down = false) (hsz : 73 ≤ D.sure.length) :
    Calls Try.prog 72 #[.pointer (some ⟨jp, 0, none⟩)] w (RetS w (J.stands D)) := by
  have hpl := h.ok.place
  have hmod : J.place % 64 = J.place := Nat.mod_eq_of_lt hpl
  have HJ := Lib.hid h
  have HC := Lib.hid (And.intro h.c0 (cells6 h.row).1.2.2.2.1)
  have HLT := Lib.hid h.lt
  have hrd := fun w' (hb : Below w.heap.size w w') => read_any (h.disk.below hb) ((1 + J.place % 64 : Nat) : Int)
  rw [read_up hd _ (by omega)] at hrd
  have HRD := Lib.hid hrd
  have HAT := Lib.hid (fun w' => at_any J.place (by omega) w')
  have hss : (D.get (1 + J.place % 64)).size = 512 := get_size h.disk.1 _ (by omega)
  generalize hR : (RetS w (J.stands D)) = R
  have HR := Lib.hid hR
  clear hR h hrd
  obtain ⟨s, hs⟩ : ∃ s, D.get (1 + J.place % 64) = s := ⟨_, rfl⟩
  rw [hs] at hss HRD
  have HSS := Lib.hid hs
  clear hs hmod
  go_enter Try.func72, Try.ntmps72
  go_wp2
  refine wp_region_rr 14 (fun w' => Below w.heap.size w w') (by kernel_rfl) (by kernel_rfl) (Below.refl _ _).drew ?_
  iterate 14
    (apply RR_run
     focus rfl
     focus
       intro w3 hS
       have j0 := (hS.cell (p := ⟨jp, 0, none⟩) HLT.out).trans HC.out.1
       have j3 := (hS.cell (p := ⟨jp, 3, none⟩) HLT.out).trans HC.out.2
       have HS3 := Lib.hid hS
       clear hS
       go_wp2_with (first | (go_at_call 59; refine (HAT.out _).mono ?_; rintro e w5 ⟨rfl, rfl⟩) | (go_at_call 68; refine (HRD.out _ HS3.out).mono ?_; rintro e w5 ⟨rfl, h5⟩))
       exact ⟨rfl, by first | exact HS3.out | exact HS3.out.trans (Below.mono (by assumption) HS3.out.size)⟩
     focus exact ⟨_, rfl⟩)
  refine RR_end fun w3 hS => ?_
  have HB3 := Lib.hid hS
  clear hS
  have hidx : 12 < s.size := by omega
  have hMo : s[12].toNat = manyOf s := by
    unfold manyOf bOf
    rw [List.getD, List.getElem?_eq_getElem (by rw [Array.length_toList]; exact hidx)]
    rfl
  have hMb : manyOf s < 256 := by rw [← hMo]; exact UInt8.toNat_lt _
  obtain ⟨M, hM⟩ : ∃ M, manyOf s = M := ⟨_, rfl⟩
  rw [hM] at hMo hMb
  have hw64 : wrap64 (M : Int) = (M : Int) := by unfold wrap64; omega
  have HMO := Lib.hid hM
  clear hM
  by_cases h24 : 24 < M
  · have hd24 : decide (24 < (M : Int)) = true := by simp; omega
    have e : J.stands D = ([], false) := by
      unfold Jn.stands
      rw [HSS.out, HMO.out, if_pos h24]
    have HE := Lib.hid e
    clear e
    go_wp2
    rw [← HR.out, HE.out]
    exact ⟨none, 0, rfl, fun k hk => (by simp at hk), fun ad e => (by cases e), HB3.out⟩
  · have hd24 : decide (24 < (M : Int)) = false := by simp; omega
    go_wp2
    go_loopw [2, 34] (fun v i wr => ∃ (k : Nat) (l : List Wr), k ≤ M ∧ i = .int .i64 k ∧ standL J.place D s k = some l ∧ wr.ownsRow w.heap.size 59 2 v k (wrV l) ∧ Below w.heap.size w wr) (fun _ i _ => M - (intOf i).toNat)
    case atStart => exact ⟨0, [], by omega, rfl, rfl, World.ownsRow_nil _ _ _ _, HB3.out⟩
    case round =>
      obtain ⟨k, l, hk, rfl, hst, hrow, hbr⟩ := hrel
      by_cases hlt : k < M
      · have hrd := fun w' (hb : Below w.heap.size w w') => read_any (HJ.out.disk.below hb) ((1 + (J.place + 1 + k) % 64 : Nat) : Int)
        rw [read_up hd _ (by omega)] at hrd
        have hds : (D.get (1 + (J.place + 1 + k) % 64)).size = 512 := get_size HJ.out.disk.1 _ (by omega)
        have hnx : standL J.place D s (k + 1) = if isD (D.get (1 + (J.place + 1 + k) % 64)) then some (l ++ [readWr s (D.get (1 + (J.place + 1 + k) % 64)) k]) else none := by
          simp [standL, hst]
        generalize D.get (1 + (J.place + 1 + k) % 64) = data at *
        have hat := fun w' => at_any (J.place + 1 + k) (by omega) w'
        have ek : ((J.place + 1 + k : Nat) : Int) = (J.place : Int) + 1 + (k : Int) := by omega
        rw [ek] at hat
        have HAT2 := Lib.hid hat
        have HRD2 := Lib.hid hrd
        have HNX := Lib.hid hnx
        have HROW := Lib.hid hrow
        have HBR := Lib.hid hbr
        have hcp := fun w' => Try.strings_CutPrefix data ⟨#[76, 68, 48, 49]⟩ w'
        have HCP := Lib.hid (show ∀ w', Calls Try.prog 84 #[.string data, .string ⟨#[76, 68, 48, 49]⟩] w' (fun e w2 => e = .returned (.tuple #[.string ⟨(restD data).toArray⟩, .bool (isD data)]) ∧ w2 = w') from hcp)
        have C2 := Lib.hid (And.intro ((hbr.cell (p := ⟨jp, 0, none⟩) HLT.out).trans HC.out.1) ((hbr.cell (p := ⟨jp, 3, none⟩) HLT.out).trans HC.out.2))
        have L2 := Lib.hid (show jp < wr.heap.size by have := HLT.out; have := hbr.size; omega)
        clear hrd hnx hat ek hrow hbr hcp hst HRD HAT
        go_wp2
        refine wp_region_rr 17 (fun w' => Below wr.heap.size wr w') (by kernel_rfl) (by kernel_rfl) (Below.refl _ _).drew ?_
        iterate 17
          (apply RR_run
           focus rfl
           focus
             intro w3 hS
             have j0 := (hS.cell (p := ⟨jp, 0, none⟩) L2.out).trans C2.out.1
             have j3 := (hS.cell (p := ⟨jp, 3, none⟩) L2.out).trans C2.out.2
             have HB4 := Lib.hid (HBR.out.trans (hS.mono HBR.out.size))
             have HS3 := Lib.hid hS
             clear hS
             go_wp2_with (first | (go_at_call 59; refine (HAT2.out _).mono ?_; rintro e w5 ⟨rfl, rfl⟩) | (go_at_call 68; refine (HRD2.out _ HB4.out).mono ?_; rintro e w5 ⟨rfl, h5⟩))
             exact ⟨rfl, by first | exact HS3.out | exact HS3.out.trans (Below.mono (by assumption) HS3.out.size)⟩
           focus exact ⟨_, rfl⟩)
        refine RR_end fun w3 hS => ?_
        have HB4 := Lib.hid (HBR.out.trans (hS.mono HBR.out.size))
        have HROW4 := Lib.hid (row_below HROW.out hS)
        clear hS
        cases hisd : isD data with
        | false =>
          rw [hisd] at HCP HNX
          go_wp2_with (go_at_call 84; refine (HCP.out _).mono ?_; rintro e w5 ⟨rfl, rfl⟩)
          have e : J.stands D = ([], false) := by
            unfold Jn.stands
            rw [HSS.out, HMO.out, if_neg h24, standL_none (k := k + 1) HNX.out M (by omega)]
          rw [← HR.out, e]
          exact ⟨none, 0, rfl, fun k hk => (by simp at hk), fun ad e => (by cases e), HB4.out⟩
        | true =>
          rw [hisd] at HCP HNX
          go_wp2_with (go_at_call 84; refine (HCP.out _).mono ?_; rintro e w5 ⟨rfl, rfl⟩)
          obtain ⟨n, hn, hsec, hget, hdat, hx8⟩ := readWr_get s data k hss (by omega)
          have hgt := fun w' => get_any ((s.extract (13 + 8 * k) (21 + 8 * k)).extract 0 4) (by rw [ByteArray.size_extract, hx8]; unfold maxLen; omega) w'
          rw [hget] at hgt
          have HGT := Lib.hid hgt
          have hz4 : ((s.extract (13 + 8 * k) (21 + 8 * k)).extract 4 8).size = 4 := by rw [ByteArray.size_extract, hx8]; rfl
          have hzr : (⟨(restD data).toArray⟩ : ByteArray).size ≤ 512 := by
            rw [mk_size]
            have h1 : (restD data).length ≤ (bOf data).length := by
              unfold restD Lib.trimPrefix
              split <;> simp
            rw [bOf_size] at h1
            omega
          have hwr : readWr s data k = ⟨(n : Int), (readWr s data k).data⟩ := by rw [← hsec]
          generalize (readWr s data k).data = dd at *
          have HWRI := Lib.hid hwr
          have HDAT := Lib.hid hdat
          clear hgt hget hsec hwr
          generalize s.extract (13 + 8 * k) (21 + 8 * k) = x at *
          generalize (⟨(restD data).toArray⟩ : ByteArray) = rs at *
          obtain ⟨N, hN⟩ : ∃ N, w5.heap.size = N := ⟨_, rfl⟩
          have HN := Lib.hid hN
          obtain ⟨S, hS0⟩ : ∃ S : Nat → World → Prop, ∀ j w', S j w' ↔ (Below N w5 w' ∧ (j = 0 → w'.heap.size = N) ∧ (j ≠ 0 → w'.heap.size = N + 1 ∧ w'.heap[N]? = some (.cells #[.int .i64 (n : Int), .string dd] 59 (0, 0)))) := ⟨_, fun _ _ => Iff.rfl⟩
          have HS0 := Lib.hid hS0
          clear hS0 hN
          refine wp_region_rr3 11 S [10] (by kernel_rfl) (by kernel_rfl) (by kernel_rfl) ((HS0.out 0 _).2 ⟨(Below.refl _ _).drew, fun _ => (HN.out : w5.drew.heap.size = N), fun h => absurd rfl h⟩) ?_
          iterate 10
            (apply RR3_run
             focus (simp)
             focus rfl
             focus
               intro j w6 hS
               have HS6 := Lib.hid hS
               clear hS
               go_wp2_with (go_at_call 70; refine (HGT.out _).mono ?_; rintro e w7 ⟨rfl, rfl⟩)
               exact ⟨rfl, HS6.out⟩
             focus exact ⟨_, rfl⟩)
          (apply RR3_turn 0
           focus (simp)
           focus rfl
           focus rfl
           focus
             intro w6 hS
             have h6 := (HS0.out _ _).1 hS
             have hN6 := h6.2.1 rfl
             have HS6 := Lib.hid ((HS0.out 1 (w6.alloc (.cells #[.int .i64 (n : Int), .string dd] 59))).2 ⟨h6.1.alloc (by omega) _, fun h => absurd h (by decide), fun _ => ⟨by simp [hN6], by rw [← hN6]; exact heap_alloc_last _ _⟩⟩)
             clear hS h6
             go_wp2
             exact ⟨rfl, HS6.out⟩
           focus exact ⟨_, rfl⟩)
          refine RR3_end fun w6 hS => ?_
          have h6 := (HS0.out _ _).1 hS
          obtain ⟨hb6, -, h6⟩ := h6
          obtain ⟨hz6, hr6⟩ := h6 (by decide)
          clear hS
          obtain ⟨i0, hi, hz0, hz1, hz2⟩ := info_parts info_wr
          have hz1 := Lib.hid hz1
          have hz2 := Lib.hid hz2
          have hz0 := Lib.hid hz0
          have hi := Lib.hid hi
          have hnews : ∀ (j : Nat) (u : Value), [Value.int .i64 (n : Int), .string dd][j]? = some u → w6.cell? ((⟨N, 0, none⟩ : Addr).add j) = some u := fun j u hu => by
            rw [Go.WideShapes.add_plain, Nat.zero_add, cell_of_row _ _ _ _ _ _ hr6]
            simpa using hu
          have HNW := Lib.hid hnews
          have hbw : Below w5.heap.size w5 w6 := by rw [HN.out]; exact hb6
          have HR6 := Lib.hid (row_below HROW4.out hbw)
          have HB6 := Lib.hid (HB4.out.trans (hbw.mono HB4.out.size))
          have HZ6 := Lib.hid hz6
          have hwN : w.heap.size ≤ N := by have := HB4.out.size; have := HN.out; omega
          clear hnews hbw hb6 hr6 h6 hz6
          go_wp2_with (at_builtin; go_loud (refine wpList_append_own_at _ rfl _ _ 53 rfl w.heap.size 59 i0 _ 2 24 Try.underlying53 hi.out hz0.out hz1.out hz2.out rfl (by decide) _ _ _ rfl HR6.out ⟨N, 0, none⟩ 1 1 [.int .i64 (n : Int), .string dd] rfl rfl HNW.out (by simp [Value.oneCell']) (by unfold maxLen; omega) (by omega) (by rw [HZ6.out]; omega) ?_; intro v' w7 hown' hgrow' _ hwh; have HO := Lib.hid hown'; have HG := Lib.hid (HB6.out.grown hgrow' HB6.out.size (fun r e => (HR6.out.lt r e).1)); clear hown' hgrow' hwh))
          go_roundw
          case rel =>
            refine ⟨k + 1, l ++ [⟨(n : Int), dd⟩], by omega, by go_num, ?_, ?_, HG.out⟩
            · rw [HNX.out, HWRI.out]
              rfl
            · rw [wrV_snoc]
              exact HO.out
          case measure => simp [intOf]; omega
      · obtain rfl : k = M := by omega
        obtain ⟨a, c, rfl⟩ := row_slice hrow
        have hll := standL_length k l hst
        have hgood := standL_good HJ.out.disk.1 (by omega) hss k l (by omega) hst
        subst hll
        have hsl : SlW wr a l := slW_of_owns hrow
        have hal : ∀ ad, a = some ad → w.heap.size ≤ ad.block ∧ ad.block < wr.heap.size := fun ad e => hrow.lt ad.block (by rw [e]; rfl)
        have hnb := HJ.out.ok.number
        have HHD := Lib.hid (head_any J.number (by omega) a c l (by omega) hgood wr hsl)
        have HCK := Lib.hid (fun w' (hb : Below wr.heap.size wr w') => jcheck_any ⟨_, HJ.out.below (hbr.trans (hb.mono hbr.size))⟩ a c l (hsl.below hb) (fun x hx => by have := hgood x hx; constructor <;> omega) (by omega))
        have j2 := (hbr.cell (p := ⟨jp, 2, none⟩) HLT.out).trans (cells6 HJ.out.row).1.2.2.1
        have e0 : J.stands D = (l, decide (headL J.number l = bOf s) && decide (Jn.check D l = 0)) := by
          unfold Jn.stands
          rw [HSS.out, HMO.out, if_neg h24, hst]
        have hbq := toList_beq2 ⟨(headL J.number l).toArray⟩ s
        have hbe : (decide ((⟨(headL J.number l).toArray⟩ : ByteArray) = s)) = decide (headL J.number l = bOf s) := by
          by_cases h : headL J.number l = bOf s
          · rw [h, mk_bOf]
            simp
          · rw [decide_eq_false h, decide_eq_false]
            intro e
            apply h
            rw [← e, bOf_mk]
        rw [hbe] at hbq
        have HE0 := Lib.hid e0
        have HSL := Lib.hid hsl
        have HAL := Lib.hid hal
        have HBR := Lib.hid hbr
        generalize (⟨(headL J.number l).toArray⟩ : ByteArray) = hd0 at *
        clear hbe e0 hst hgood hsl hal hbr hrow
        cases hq : decide (headL J.number l = bOf s) with
        | false =>
          rw [hq] at hbq HE0
          go_wp2_with (go_at_call 61; refine HHD.out.mono ?_; rintro e w5 ⟨rfl, hb5⟩; have HB5 := Lib.hid hb5; clear hb5)
          rw [← HR.out, HE0.out]
          exact ⟨a, c, rfl, HSL.out.below HB5.out, fun ad e => ⟨(HAL.out ad e).1, Nat.lt_of_lt_of_le (HAL.out ad e).2 HB5.out.size⟩, HBR.out.trans (HB5.out.mono HBR.out.size)⟩
        | true =>
          rw [hq] at hbq HE0
          cases hz : (Jn.check D l == 0) with
          | true =>
            have hz' : decide (Jn.check D l = 0) = true := by simpa using hz
            rw [hz'] at HE0
            go_wp2_with (first | (go_at_call 61; refine HHD.out.mono ?_; rintro e w5 ⟨rfl, hb5⟩; have HB5 := Lib.hid hb5; clear hb5) | (go_at_call 56; refine (HCK.out _ HB5.out).mono ?_; rintro e w6 ⟨rfl, hb6⟩; have HB6 := Lib.hid (HB5.out.trans (hb6.mono HB5.out.size)); clear hb6))
            rw [← HR.out, HE0.out]
            exact ⟨a, c, rfl, HSL.out.below HB6.out, fun ad e => ⟨(HAL.out ad e).1, Nat.lt_of_lt_of_le (HAL.out ad e).2 HB6.out.size⟩, HBR.out.trans (HB6.out.mono HBR.out.size)⟩
          | false =>
            have hz' : decide (Jn.check D l = 0) = false := by simpa using hz
            rw [hz'] at HE0
            go_wp2_with (first | (go_at_call 61; refine HHD.out.mono ?_; rintro e w5 ⟨rfl, hb5⟩; have HB5 := Lib.hid hb5; clear hb5) | (go_at_call 56; refine (HCK.out _ HB5.out).mono ?_; rintro e w6 ⟨rfl, hb6⟩; have HB6 := Lib.hid (HB5.out.trans (hb6.mono HB5.out.size)); clear hb6))
            rw [← HR.out, HE0.out]
            exact ⟨a, c, rfl, HSL.out.below HB6.out, fun ad e => ⟨(HAL.out ad e).1, Nat.lt_of_lt_of_le (HAL.out ad e).2 HB6.out.size⟩, HBR.out.trans (HB6.out.mono HBR.out.size)⟩
end Go.Proofs.Ytffgjjhopopgcaa
