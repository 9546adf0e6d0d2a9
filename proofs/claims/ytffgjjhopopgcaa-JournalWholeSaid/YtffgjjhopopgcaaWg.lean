/-
  JournalAgain answers true for every row of acts and of bools, in every world: the plain law.
-/
import Derived.Test.YtffgjjhopopgcaaWf
import Derived.ChangeKeysEq
namespace Go.Proofs.Ytffgjjhopopgcaa
set_option linter.unusedVariables false
set_option linter.unusedSimpArgs false
open Go.RowKit
set_option maxRecDepth 100000
set_option maxHeartbeats 8000000

/-! ### two rows of eight bytes -/
theorem info5 : ∃ i, Try.prog.info? 5 = some i := by
  cases h : Try.prog.info? 5 with
  | none =>
    have := info_u8
    rw [h] at this
    cases this
  | some i => exact ⟨i, rfl⟩
theorem eq8 (d : Nat) (l m : List UInt8) (hl : l.length = 8) (hm : m.length = 8) (w : World) : (Op.equalIn (d + 2) 79 (.agg (row8 l)) (.agg (row8 m))).run Try.prog w = .ok (decide (l = m)) w := by
  obtain ⟨i5, h5⟩ := info5
  have hc : Try.prog.cellsOf 5 = 1 := by kernel_rfl
  have hp : Try.prog.plainKey 5 = true := by kernel_rfl
  rw [run_equalIn_array w (d + 1) _ _ Try.underlying79 h5, hc]
  have key : ∀ is : List Nat, (∀ i ∈ is, i < 8) → (Op.eqItems (d + 1) 5 1 (row8 l) (row8 m) is).run Try.prog w = .ok (is.all fun i => l.getD i 0 == m.getD i 0) w := by
    intro is
    induction is with
    | nil => intro _; rfl
    | cons i is ih =>
      intro hi
      have h8 := hi i (by simp)
      have e1 := run_part_plain w hp (xs := row8 l) (off := i * 1) (by rw [Nat.mul_one]; exact row8_get l i (by omega))
      have e2 := run_part_plain w hp (xs := row8 m) (off := i * 1) (by rw [Nat.mul_one]; exact row8_get m i (by omega))
      have e3 := run_equalIn_int (P := Try.prog) (w := w) d 5 .u8 .u8 (l[i]'(by omega)).toNat (m[i]'(by omega)).toNat Try.underlying5
      have e4 : (((l[i]'(by omega)).toNat : Int) == ((m[i]'(by omega)).toNat : Int)) = (l.getD i 0 == m.getD i 0) := by
        rw [List.getD, List.getD, List.getElem?_eq_getElem (by omega), List.getElem?_eq_getElem (by omega)]
        simp only [Option.getD_some]
        rw [Bool.eq_iff_iff, beq_iff_eq, beq_iff_eq]
        constructor
        · intro h; exact UInt8.toNat_inj.1 (by omega)
        · intro h; rw [h]
      rw [e4] at e3
      simp only [Op.eqItems, Sem.run_bind, e1, e2, e3, Result.andThen_ok]
      have hih := ih fun j hj => hi j (List.mem_cons_of_mem _ hj)
      rw [List.all_cons]
      cases (l.getD i 0 == m.getD i 0) with
      | false => rfl
      | true =>
        rw [Bool.true_and]
        exact hih
  rw [key _ fun i hi => List.mem_range.1 hi]
  congr 1
  rw [Bool.eq_iff_iff, decide_eq_true_eq, List.all_eq_true]
  constructor
  · intro h
    apply List.ext_getElem?
    intro i
    by_cases hi : i < 8
    · have := h i (List.mem_range.2 hi)
      rw [List.getD, List.getD, List.getElem?_eq_getElem (by omega), List.getElem?_eq_getElem (by omega)] at this
      rw [List.getElem?_eq_getElem (by omega), List.getElem?_eq_getElem (by omega)]
      simpa using this
    · rw [List.getElem?_eq_none (by omega), List.getElem?_eq_none (by omega)]
  · intro h i _
    rw [h]
    simp

/-! ### the plain law -/
structure AgInv (J : Jn) (D : Dk) (k : Nat) : Prop where
  live : ∃ n0 p0 T U, Live J D n0 p0 T U
  fails : D.fails = false
  size : D.sure.length = 80
  starts : D.starts = 0
  number : J.number ≤ 2 + k
  loose : D.loose.length ≤ 20 * k
theorem AgInv.zero {J : Jn} {D : Dk} (h : New J D 80) : AgInv J D 0 := ⟨⟨_, _, _, _, h.live⟩, h.fails, h.size, h.starts, by rw [h.number]; decide, by rw [h.loose]; decide⟩
theorem wide80 {D : Dk} (h : D.sure.length = 80) {L : List Wr} (hm : mayW 15 L = true) : mayW (Jn.size D) L = true := by
  unfold Jn.size
  rw [h]
  exact hm
theorem AgInv.direct {J : Jn} {D : Dk} {k : Nat} (h : AgInv J D k) (hk : k ≤ 10) {L : List Wr} (hm : mayW 15 L = true) (hl : L.length ≤ 15) : ∃ J' D', J.direct L D = (J', D', 0) ∧ AgInv J' D' (k + 1) := by
  obtain ⟨n0, p0, T, U, hL⟩ := h.live
  obtain ⟨b1, ⟨n1, p1, T1, b2⟩, b3, b4, b5, b6, b7⟩ := direct_law hL h.fails L (wide80 h.size hm) (by have := h.loose; omega)
  exact ⟨(J.direct L D).1, (J.direct L D).2.1, Prod.ext rfl (Prod.ext rfl b1), ⟨_, _, _, _, b2⟩, b3, b4.trans h.size, b5.trans h.starts, by rw [b6]; have := h.number; omega, by have := h.loose; omega⟩
theorem AgInv.commit {J : Jn} {D : Dk} {k : Nat} (h : AgInv J D k) (hk : k ≤ 10) {L : List Wr} (hm : mayW 15 L = true) (hl : L.length ≤ 15) : ∃ J' D', J.commit L D = (J', D', 0) ∧ AgInv J' D' (k + 1) := by
  obtain ⟨n0, p0, T, U, hL⟩ := h.live
  obtain ⟨a1, a2, a3, a4⟩ := commit_fine hL h.fails L (by omega) (wide80 h.size hm) (by have := h.number; omega) (by have := h.loose; omega)
  obtain ⟨n1, p1, T1, b2, -⟩ := a2.live
  exact ⟨(J.commit L D).1, (J.commit L D).2.1, Prod.ext rfl (Prod.ext rfl a1), ⟨_, _, _, _, b2⟩, a2.fails.trans h.fails, a2.size.trans h.size, a2.starts.trans h.starts, by rw [a3]; have := h.number; omega, by rw [a4, home_length]; omega⟩
theorem AgInv.checkpoint {J : Jn} {D : Dk} {k : Nat} (h : AgInv J D k) : ∃ J' D', J.checkpointed D = (J', D', 0) ∧ AgInv J' D' (k + 1) := by
  obtain ⟨n0, p0, T, U, hL⟩ := h.live
  have e : J.checkpointed D = J.checkpoint D := by unfold Jn.checkpointed; rw [if_neg (by simp [hL.over])]
  rw [e]
  rcases checkpoint_law hL (fun hfl => by rw [h.fails] at hfl; cases hfl) with ⟨h1, h2, h3, h4, h5, h6, h7⟩ | ⟨h1, h2, h3⟩
  · exact ⟨(J.checkpoint D).1, (J.checkpoint D).2.1, Prod.ext rfl (Prod.ext rfl h1), ⟨_, _, _, _, h2 ▸ h3⟩, h5.trans h.fails, h6.trans h.size, h7.trans h.starts, by rw [h2]; show J.number ≤ _; have := h.number; omega, by rw [h4]; simp⟩
  · have := h2.failing
    rw [h.fails] at this
    cases this

/-- What JournalAgain goes through behind its acts. -/
structure AgT (keep : List Bool) (D D1 D2 : Dk) (Ja : Jn) (Da D3 D4 : Dk) (Jb : Jn) (Db : Dk) (Jc : Jn) (Dc : Dk) (Jd : Jn) (Dd : Dk) (S : List UInt8 × Bool) : Prop where
  cr : D.crash keep = (D1, 0)
  st : D1.start = (D2, 0)
  op : openD D2 = (some Ja, Da, 0)
  cr2 : Da.crash [] = (D3, 0)
  st2 : D3.start = (D4, 0)
  op2 : openD D4 = (some Jb, Db, 0)
  op3 : openD Db = (some Jc, Dc, 0)
  cm : Jc.commit [⟨2, sectorB 120⟩] Dc = (Jd, Dd, 0)
  sa : (seenL fun i => Ja.read Da i) = S
  sb : (seenL fun i => Jb.read Db i) = S
  sc : (seenL fun i => Jc.read Dc i) = S
  room : 64 - (Jb.used : Int) = 64
  s1 : D1.starts < 1000
  s3 : D3.starts < 1000
  l2 : D2.loose = []
  l4 : D4.loose = []
  lb : Db.loose = []
  lc : Dc.loose = []
  nc : Jc.number + 1 < 1000
  r2 : ∃ n0 p0 T U, RecS D2.sure n0 p0 T U ∧ n0 + T.length < 2 ^ 60
  r4 : ∃ n0 p0 T U, RecS D4.sure n0 p0 T U ∧ n0 + T.length < 2 ^ 60
  rb : ∃ n0 p0 T U, RecS Db.sure n0 p0 T U ∧ n0 + T.length < 2 ^ 60
  len : S.1.length = 8
theorem live_rec {J : Jn} {D : Dk} {n p : Nat} {U : Nat → ByteArray} (h : Live J D n p [] U) (hl : D.loose = []) : RecS D.sure n p [] U := h.toSeen.recS (by rw [hl]; exact HomeT.nil _ _)
theorem again_law {J : Jn} {D : Dk} (h : AgInv J D 10) (keep : List Bool) : ∃ D1 D2 Ja Da D3 D4 Jb Db Jc Dc Jd Dd S, AgT keep D D1 D2 Ja Da D3 D4 Jb Db Jc Dc Jd Dd S := by
  obtain ⟨n0, p0, T, U, hL⟩ := h.live
  have hn := h.number
  have hnT : n0 + T.length = J.number := hL.number.symm
  obtain ⟨a1, a2, U', a3⟩ := crash_any_start hL.toSeen (by rw [h.starts]; decide) keep
  obtain ⟨Ja, Da, b1, b2, b3, b4, b5, b6, b7, b8⟩ := open_fine a3.ok a3.up a3.loose a3.recs (by omega) a3.fails
  have za : Da.sure.length = 80 := b7.trans (a3.size.trans h.size)
  have sta : Da.starts = 1 := b8.trans (a3.starts.trans (by rw [h.starts]; rfl))
  obtain ⟨c1, c2, c3⟩ := crash_start b2.toSeen (by rw [b3]; exact HomeT.nil _ _) (by rw [sta]; decide) []
  obtain ⟨Jb, Db, d1, d2, d3, d4, d5, d6, d7, d8⟩ := open_fine c3.ok c3.up c3.loose c3.recs (by rw [List.length_nil, Nat.add_zero]; omega) c3.fails
  have zb : Db.sure.length = 80 := d7.trans (c3.size.trans za)
  rw [List.length_nil, Nat.add_zero] at d4
  have rb := live_rec d2 d3
  obtain ⟨Jc, Dc, e1, e2, e3, e4, e5, e6, e7, e8⟩ := open_fine d2.ok d2.up d3 rb (by rw [List.length_nil, Nat.add_zero]; omega) d6
  have zc : Dc.sure.length = 80 := e7.trans zb
  rw [List.length_nil, Nat.add_zero] at e4
  have m2 : mayW (Jn.size Dc) [⟨2, sectorB 120⟩] = true := by
    unfold Jn.size
    rw [zc, mayW_iff]
    refine ⟨fun x hx => ?_, by simp⟩
    rw [List.mem_singleton.1 hx]
    exact ⟨by decide, by decide, sectorB_size _⟩
  obtain ⟨f1, f2, f3, f4⟩ := commit_fine e2 e6 [⟨2, sectorB 120⟩] (by simp) m2 (by omega) (by rw [e3]; decide)
  have rd : ∀ (J : Jn) (D : Dk), Live J D J.number J.place [] U' → D.sure.length = 80 → (seenL fun i => J.read D i) = seenL fun i => (U' i, 0) := fun J D hl hz =>
    seenGo_congr 8 0 _ fun j _ hj => live_read hl j (by omega)
  refine ⟨_, _, Ja, Da, _, _, Jb, Db, Jc, Dc, _, _, seenL fun i => (U' i, 0), Prod.ext rfl a1, Prod.ext rfl a2, b1, Prod.ext rfl c1, Prod.ext rfl c2, d1, e1, Prod.ext rfl (Prod.ext rfl f1), rd _ _ b2 za, rd _ _ d2 zb, rd _ _ e2 zc, by rw [d5]; rfl, ?_, ?_, a3.loose, c3.loose, d3, e3, by omega, ⟨_, _, _, _, a3.recs, by omega⟩, ⟨_, _, _, _, c3.recs, by rw [List.length_nil]; omega⟩, ⟨_, _, _, _, rb, by rw [List.length_nil]; omega⟩, seenGo_length _ _ _ _⟩
  · rw [crash_up hL.up]
    show D.starts < _
    rw [h.starts]
    decide
  · rw [crash_up b2.up]
    show Da.starts < _
    rw [sta]
    decide
end Go.Proofs.Ytffgjjhopopgcaa
