/-
  JournalWhole: the plain law: what acts make of a journal of eight sectors, wherever its disk fails.
-/
import Derived.Test.YtffgjjhopopgcaaWd
namespace Go.Proofs.Ytffgjjhopopgcaa
set_option linter.unusedVariables false
set_option linter.unusedSimpArgs false
open Go.RowKit
set_option maxRecDepth 100000
set_option maxHeartbeats 8000000

/-- What sectors have, by their bytes. -/
def uS (S : List UInt8) : Nat → ByteArray := fun i => sectorB (S.getD i 0)
theorem RecS.congrU {Q : List ByteArray} {n0 p0 : Nat} {T : List (List Wr)} {U V : Nat → ByteArray} (h : RecS Q n0 p0 T U) (e : ∀ i, 65 + i < Q.length → U i = V i) : RecS Q n0 p0 T V := ⟨h.lg, fun i hi => (h.home i hi).trans (e i hi)⟩
theorem Back.congrU {U V : Nat → ByteArray} {N M : Nat} {Q : List ByteArray} (h : Back U N M Q) (e : ∀ i, 65 + i < N → U i = V i) : Back V N M Q := by
  obtain ⟨hl, n, p, T, hr, hle⟩ := h
  exact ⟨hl, n, p, T, hr.congrU fun i hi => e i (by omega), hle⟩
theorem Back.mono {U : Nat → ByteArray} {N M M' : Nat} {Q : List ByteArray} (h : Back U N M Q) (hm : M ≤ M') : Back U N M' Q := by
  obtain ⟨hl, n, p, T, hr, hle⟩ := h
  exact ⟨hl, n, p, T, hr, by omega⟩
theorem Live.congrU {J : Jn} {D : Dk} {n0 p0 : Nat} {T : List (List Wr)} {U V : Nat → ByteArray} (h : Live J D n0 p0 T U) (e : ∀ i, 65 + i < D.sure.length → U i = V i) : Live J D n0 p0 T V :=
  ⟨⟨h.ok, h.up, h.lg, h.home, fun i hi => (h.view i hi).trans (e i hi), fun i hi => by rw [← e i hi, upd_congr _ (e i hi).symm]; exact h.late i hi⟩, h.starts, h.number, h.place, h.used, h.since⟩

/-- A journal that is open; its sectors have these bytes. -/
structure WUp (J : Jn) (D : Dk) (S : List UInt8) (c : Nat) : Prop where
  live : ∃ n0 p0 T, Live J D n0 p0 T (uS S) ∧ HomeT D.sure.length T D.loose
  size : D.sure.length = 73
  len : S.length = 8
  number : J.number ≤ c
  starts : D.starts ≤ c
  loose : D.loose.length ≤ 64
/-- A disk that is down: behind an Open its sectors have the ones, or the others. -/
structure WDn (D : Dk) (S S' : List UInt8) (c : Nat) : Prop where
  ok : D.Ok
  down : D.down = true
  loose : D.loose = []
  fails : D.fails = false
  starts : D.starts ≤ c
  back : Back (uS S) 73 c D.sure ∨ Back (uS S') 73 c D.sure
  len : S.length = 8 ∧ S'.length = 8
/-- A disk that was started. -/
structure WSt (D : Dk) (S S' : List UInt8) (c : Nat) : Prop where
  ok : D.Ok
  up : D.down = false
  loose : D.loose = []
  starts : D.starts ≤ c
  back : Back (uS S) 73 c D.sure ∨ Back (uS S') 73 c D.sure
  len : S.length = 8 ∧ S'.length = 8
theorem WUp.mono {J : Jn} {D : Dk} {S : List UInt8} {c d : Nat} (h : WUp J D S c) (hc : c ≤ d) : WUp J D S d := ⟨h.live, h.size, h.len, by have := h.number; omega, by have := h.starts; omega, h.loose⟩
theorem WDn.mono {D : Dk} {S S' : List UInt8} {c d : Nat} (h : WDn D S S' c) (hc : c ≤ d) : WDn D S S' d := ⟨h.ok, h.down, h.loose, h.fails, by have := h.starts; omega, h.back.imp (·.mono hc) (·.mono hc), h.len⟩
theorem WUp.new {J : Jn} {D : Dk} (h : New J D 73) : WUp J D (zeros 8) 2 :=
  ⟨⟨_, _, _, h.live.congrU fun i hi => by
      have hs := h.size
      unfold uS
      have : (zeros 8).getD i 0 = 0 := by
        have hi8 : i < 8 := by omega
        unfold zeros
        rw [List.getD, List.getElem?_eq_getElem (by simpa using hi8), List.getElem_replicate]
        rfl
      rw [this, sectorB_zero], by rw [h.loose]; exact HomeT.nil _ _⟩, h.size, rfl, by rw [h.number]; decide, by rw [h.starts]; decide, by rw [h.loose]; decide⟩

theorem WUp.firm {J : Jn} {D : Dk} {n0 p0 : Nat} {T : List (List Wr)} (h : HomeT D.sure.length T D.loose) : Firm D T := fun _ => h
/-- A commit of writes, each of one byte. -/
theorem WUp.commit {J : Jn} {D : Dk} {S : List UInt8} {c : Nat} (h : WUp J D S c) (hc : c < 1000000) {L : List Wr} (hm : mayW 8 L = true) (hl : L.length ≤ 8) (hb : ∀ x ∈ L, x.data = sectorB (byte0 x.data)) :
    (∃ J' D', J.commit L D = (J', D', 0) ∧ WUp J' D' (withL S L) (c + 1)) ∨ (∃ J' D', J.commit L D = (J', D', 61) ∧ WDn D' S (withL S L) (c + 1)) := by
  obtain ⟨n0, p0, T, hL, hH⟩ := h.live
  have hsz := h.size
  have hm8 : mayW (Jn.size D) L = true := by unfold Jn.size; rw [hsz]; exact hm
  have hw := ((mayW_iff _ _).1 hm).1
  have hu : ∀ i, 65 + i < 73 → upd L (uS S) i = uS (withL S L) i := fun i hi => by
    have hi8 : i < S.length := by rw [h.len]; omega
    have := with_upd L S (uS S) i (fun x hx => ⟨(hw x hx).1, hb x hx⟩) hi8 (by unfold uS; rw [List.getD, List.getElem?_eq_getElem hi8]; rfl)
    rw [this]
    unfold uS
    rw [List.getD, List.getElem?_eq_getElem (by rw [withL_length]; exact hi8)]
    rfl
  have hn := h.number
  rcases commit_law hL (fun _ => hH) L (by omega) hm8 (by omega) (by have := h.loose; omega) with ⟨h1, h2, h3, h4⟩ | ⟨h1, h2⟩
  · refine .inl ⟨(J.commit L D).1, (J.commit L D).2.1, Prod.ext rfl (Prod.ext rfl h1), ?_, h2.size.trans hsz, by rw [withL_length, h.len], by rw [h3]; omega, by rw [h2.starts]; have := h.starts; omega, by rw [h4, home_length]; omega⟩
    obtain ⟨n1, p1, T1, hL1, hH1⟩ := h2.live
    exact ⟨n1, p1, T1, hL1.congrU fun i hi => hu i (by have := h2.size; omega), hH1⟩
  · refine .inr ⟨(J.commit L D).1, (J.commit L D).2.1, Prod.ext rfl (Prod.ext rfl h1), h2.ok, h2.down, h2.loose, h2.fails, by rw [h2.starts]; have := h.starts; omega, ?_, h.len, by rw [withL_length, h.len]⟩
    rw [hsz] at h2
    rcases h2.sure with hB | hB
    · exact .inl (hB.mono (by omega))
    · exact .inr ((hB.congrU hu).mono (by omega))
theorem WUp.checkpoint {J : Jn} {D : Dk} {S : List UInt8} {c : Nat} (h : WUp J D S c) :
    (∃ J' D', J.checkpointed D = (J', D', 0) ∧ WUp J' D' S c) ∨ (∃ J' D', J.checkpointed D = (J', D', 61) ∧ WDn D' S S c) := by
  obtain ⟨n0, p0, T, hL, hH⟩ := h.live
  have e : J.checkpointed D = J.checkpoint D := by unfold Jn.checkpointed; rw [if_neg (by simp [hL.over])]
  rw [e]
  rcases checkpoint_law hL (fun _ => hH) with ⟨h1, h2, h3, h4, h5, h6, h7⟩ | ⟨h1, h2, h3⟩
  · exact .inl ⟨(J.checkpoint D).1, (J.checkpoint D).2.1, Prod.ext rfl (Prod.ext rfl h1), ⟨_, _, _, h2 ▸ h3, by rw [h4]; exact HomeT.nil _ _⟩, h6.trans h.size, h.len, by rw [h2]; exact h.number, by rw [h7]; exact h.starts, by rw [h4]; decide⟩
  · refine .inr ⟨(J.checkpoint D).1, (J.checkpoint D).2.1, Prod.ext rfl (Prod.ext rfl h1), h2.ok, h2.down, h2.loose, h2.fails, by rw [h2.starts]; exact h.starts, .inl ?_, h.len, h.len⟩
    have := h2.sure
    rw [h.size] at this
    exact this.mono h.number
theorem WUp.crash {J : Jn} {D : Dk} {S : List UInt8} {c : Nat} (h : WUp J D S c) (keep : List Bool) : ∃ D', D.crash keep = (D', 0) ∧ WDn D' S S c := by
  obtain ⟨n0, p0, T, hL, hH⟩ := h.live
  rw [crash_up hL.up]
  refine ⟨_, rfl, hL.ok.toOkw.crashed keep, rfl, rfl, rfl, h.starts, .inl ⟨?_, n0, p0, T, ?_, ?_⟩, h.len, h.len⟩
  · exact (Dk.settle_length _ _ _ _).trans h.size
  · exact (hL.toSeen.recS hH).settle hH _ 0
  · rw [← hL.number]; exact h.number
theorem fail_up {D : Dk} (up : D.down = false) (n : Int) (hn : 0 ≤ n) (keep : List Bool) : D.fail n keep = ({ D with fails := true, left := n, keep := keep }, 0) := by
  unfold Dk.fail
  rw [if_neg (by simp [up]), if_neg (by omega)]
theorem fail_ok {D : Dk} (ok : D.Ok) (n : Int) (hn : 0 ≤ n) (hn2 : n ≤ 1000) (keep : List Bool) (hk : keep.length ≤ 200) : ({ D with fails := true, left := n, keep := keep } : Dk).Ok :=
  ⟨⟨ok.size, ok.sure, ok.loose, ok.starts, by simp only; omega, by simp only; omega, ok.many⟩, fun _ => hn⟩
theorem WUp.fail {J : Jn} {D : Dk} {S : List UInt8} {c : Nat} (h : WUp J D S c) (n : Int) (hn : 0 ≤ n) (hn2 : n ≤ 1000) (keep : List Bool) (hk : keep.length ≤ 200) : ∃ D', D.fail n keep = (D', 0) ∧ WUp J D' S c := by
  obtain ⟨n0, p0, T, hL, hH⟩ := h.live
  rw [fail_up hL.up n hn]
  exact ⟨_, rfl, ⟨n0, p0, T, ⟨⟨fail_ok hL.ok n hn hn2 keep hk, hL.up, hL.lg, hL.home, hL.view, hL.late⟩, hL.starts, hL.number, hL.place, hL.used, hL.since⟩, hH⟩, h.size, h.len, h.number, h.starts, h.loose⟩
theorem WDn.start {D : Dk} {S S' : List UInt8} {c : Nat} (h : WDn D S S' c) (hc : c < 1000000) : ∃ D', D.start = (D', 0) ∧ WSt D' S S' (c + 1) ∧ D'.fails = false := by
  rw [start_down h.down]
  refine ⟨_, rfl, ⟨start_ok h.ok (by have := h.starts; omega), rfl, h.loose, ?_, h.back.imp (·.mono (by omega)) (·.mono (by omega)), h.len⟩, h.fails⟩
  show D.starts + 1 ≤ ((c + 1 : Nat) : Int)
  have := h.starts
  omega
theorem WSt.fail {D : Dk} {S S' : List UInt8} {c : Nat} (h : WSt D S S' c) (n : Int) (hn : 0 ≤ n) (hn2 : n ≤ 1000) (keep : List Bool) (hk : keep.length ≤ 200) : ∃ D', D.fail n keep = (D', 0) ∧ WSt D' S S' c := by
  rw [fail_up h.up n hn]
  exact ⟨_, rfl, fail_ok h.ok n hn hn2 keep hk, h.up, h.loose, h.starts, h.back, h.len⟩
theorem WSt.open {D : Dk} {S S' : List UInt8} {c : Nat} (h : WSt D S S' c) (hc : c < 1000000) :
    (∃ J D', openD D = (some J, D', 0) ∧ (WUp J D' S (c + 1) ∨ WUp J D' S' (c + 1))) ∨ (D.fails = true ∧ ∃ D', openD D = (none, D', 61) ∧ WDn D' S S' (c + 1)) := by
  have key : ∀ Z : List UInt8, Z.length = 8 → Back (uS Z) 73 c D.sure →
      (∃ J D', openD D = (some J, D', 0) ∧ WUp J D' Z (c + 1)) ∨ (D.fails = true ∧ ∃ D', openD D = (none, D', 61) ∧ (D'.Ok ∧ D'.down = true ∧ D'.loose = [] ∧ D'.fails = false ∧ D'.starts ≤ ((c + 1 : Nat) : Int) ∧ Back (uS Z) 73 (c + 1) D'.sure)) := by
    intro Z hZ hB
    obtain ⟨hlen, n0, p0, T, hr, hle⟩ := hB
    have hst := h.starts
    rcases openD_law h.ok h.up h.loose hr (by omega) with ⟨J, D', h1, h2, h3, h4, h5, h6, h7, h8⟩ | ⟨D', h1, h2⟩
    · exact .inl ⟨J, D', h1, ⟨_, _, _, h2, by rw [h3]; exact HomeT.nil _ _⟩, h7.trans hlen, hZ, by omega, by rw [h8]; omega, by rw [h3]; decide⟩
    · refine .inr ⟨h2.failing, D', h1, h2.ok, h2.down, h2.loose, h2.fails, by rw [h2.starts]; omega, ?_⟩
      have := h2.sure
      rw [hlen] at this
      exact this.mono (by omega)
  rcases h.back with hB | hB
  · rcases key S h.len.1 hB with ⟨J, D', h1, h2⟩ | ⟨hf, D', h1, a1, a2, a3, a4, a5, a6⟩
    · exact .inl ⟨J, D', h1, .inl h2⟩
    · exact .inr ⟨hf, D', h1, a1, a2, a3, a4, a5, .inl a6, h.len⟩
  · rcases key S' h.len.2 hB with ⟨J, D', h1, h2⟩ | ⟨hf, D', h1, a1, a2, a3, a4, a5, a6⟩
    · exact .inl ⟨J, D', h1, .inr h2⟩
    · exact .inr ⟨hf, D', h1, a1, a2, a3, a4, a5, .inr a6, h.len⟩
theorem WUp.seen {J : Jn} {D : Dk} {S : List UInt8} {c : Nat} (h : WUp J D S c) : (seenL fun i => J.read D i) = (S, true) := by
  obtain ⟨n0, p0, T, hL, hH⟩ := h.live
  have hs := h.size
  refine seenGo_good h.len 8 0 _ rfl rfl (fun j hj _ => ?_) (fun j hj h0 => by omega)
  show J.read D (j : Nat) = _
  rw [live_read hL j (by omega)]
  unfold uS
  rw [List.getD, List.getElem?_eq_getElem (by rw [h.len]; exact hj)]
  rfl
theorem WUp.up {J : Jn} {D : Dk} {S : List UInt8} {c : Nat} (h : WUp J D S c) : D.down = false := by
  obtain ⟨n0, p0, T, hL, hH⟩ := h.live
  exact hL.up
theorem WSt.small {D : Dk} {S S' : List UInt8} {c : Nat} (h : WSt D S S' c) (hc : c < 1000000) : manyOf (D.get 0) < 64 → D.get 0 = ⟨(markL (numOf (D.get 0)) (manyOf (D.get 0))).toArray⟩ → numOf (D.get 0) < 2305843009213693952 := by
  rcases h.back with ⟨hlen, n0, p0, T, hr, hle⟩ | ⟨hlen, n0, p0, T, hr, hle⟩
  · exact num_small h.loose hr (by omega)
  · exact num_small h.loose hr (by omega)
theorem writesK_bytes (x : ActL) (size : Nat) : ∀ k, ∀ z ∈ writesK x size k, z.data = sectorB (byte0 z.data) := by
  intro k
  induction k with
  | zero => intro z hz; cases hz
  | succ k ih =>
    intro z hz
    rw [writesK] at hz
    unfold took at hz
    split at hz
    · exact ih z hz
    · rcases List.mem_append.1 hz with hz | hz
      · exact ih z hz
      · rw [List.mem_singleton.1 hz]
        show sectorB _ = sectorB (byte0 (sectorB _))
        rw [byte0_sector]
theorem writesL_bytes (x : ActL) (size : Nat) : ∀ z ∈ writesL x size, z.data = sectorB (byte0 z.data) := writesK_bytes x size _
end Go.Proofs.Ytffgjjhopopgcaa
