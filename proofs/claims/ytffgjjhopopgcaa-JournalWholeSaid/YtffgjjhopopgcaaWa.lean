/-
  Acts, as they come in; the walk of Great.
-/
import Derived.Test.YtffgjjhopopgcaaJu
namespace Go.Proofs.Ytffgjjhopopgcaa
set_option linter.unusedVariables false
set_option linter.unusedSimpArgs false
open Go.RowKit
set_option maxRecDepth 100000
set_option maxHeartbeats 8000000

/-- A slice of bytes reads as l. -/
def SlU (w : World) (a : Option Addr) (l : List UInt8) : Prop := ∀ k (h : k < l.length), ∃ b off, a = some ⟨b, off, none⟩ ∧ w.cell? ⟨b, off + k, none⟩ = some (.int .u8 (l[k]).toNat)
theorem SlU.kept {K : Nat → Prop} {w w1 : World} {a : Option Addr} {l : List UInt8} (h : SlU w a l) (hb : Kept K w w1) (hK : ∀ ad, a = some ad → K ad.block) : SlU w1 a l := fun k hk => by
  obtain ⟨b, off, rfl, h1⟩ := h k hk
  have hb1 : K b := hK _ rfl
  exact ⟨b, off, rfl, (hb.cell (p := ⟨b, off + k, none⟩) hb1).trans h1⟩
theorem SlU.below {w w1 : World} {a : Option Addr} {l : List UInt8} (h : SlU w a l) (hb : Below w.heap.size w w1) : SlU w1 a l := fun k hk => by
  obtain ⟨b, off, rfl, h1⟩ := h k hk
  exact ⟨b, off, rfl, (hb.cell (p := ⟨b, off + k, none⟩) (World.block_lt_of_cell? w _ h1)).trans h1⟩

/-! ### acts -/
structure ActL where
  kind : UInt8
  c : UInt8
  n : List UInt8
  pos : Int
  raw : List Wr
  keep : List Bool
/-- What is asked of an act that came in. -/
structure ActL.Fine (x : ActL) : Prop where
  pos : inL x.pos
  secs : ∀ y ∈ x.raw, inL y.sec
  datas : ∀ y ∈ x.raw, y.data.size ≤ 9223372036854775807
  n : x.n.length ≤ 9223372036854775807
  raw : x.raw.length ≤ 9223372036854775807
  keep : x.keep.length ≤ 9223372036854775807
/-- Where an act's slices lie. -/
structure Lies where
  an : Option Addr
  cn : Nat
  ar : Option Addr
  cr : Nat
  ak : Option Addr
  ck : Nat
def actV (x : ActL) (y : Lies) : Array Value := #[.int .u8 x.kind.toNat, .int .u8 x.c.toNat, .slice y.an x.n.length y.cn, .int .i64 x.pos, .slice y.ar x.raw.length y.cr, .slice y.ak x.keep.length y.ck]
/-- An act's slices read as it says. -/
structure ActAt (w : World) (x : ActL) (y : Lies) : Prop where
  n : SlU w y.an x.n
  raw : SlW w y.ar x.raw
  keep : SlO w y.ak x.keep
theorem ActAt.below {w w1 : World} {x : ActL} {y : Lies} (h : ActAt w x y) (hb : Below w.heap.size w w1) : ActAt w1 x y := ⟨h.n.below hb, h.raw.below hb, h.keep.below hb⟩
/-- A slice of acts reads as l. -/
def SlA (w : World) (a : Option Addr) (l : List ActL) (ys : List Lies) : Prop := l.length = ys.length ∧ ∀ k (h : k < l.length) (h2 : k < ys.length), (∃ b off, a = some ⟨b, off, none⟩ ∧ ∀ j (hj : j < 6), w.cell? ⟨b, off + k * 6 + j, none⟩ = some ((actV l[k] ys[k])[j]'(by simpa [actV] using hj))) ∧ ActAt w l[k] ys[k]
theorem SlA.below {w w1 : World} {a : Option Addr} {l : List ActL} {ys : List Lies} (h : SlA w a l ys) (hb : Below w.heap.size w w1) : SlA w1 a l ys := ⟨h.1, fun k hk h2 => by
  obtain ⟨⟨b, off, e, hc⟩, ha⟩ := h.2 k hk h2
  exact ⟨⟨b, off, e, fun j hj => (hb.cell (p := ⟨b, off + k * 6 + j, none⟩) (World.block_lt_of_cell? w _ (hc j hj))).trans (hc j hj)⟩, ha.below hb⟩⟩

def big1 (x : ActL) : Bool := decide (30 < x.n.length) || decide (30 < x.raw.length) || decide (200 < x.keep.length)
def big (x : ActL) : Bool := big1 x || x.raw.any fun y => decide (600 < y.data.size)
def greatA (l : List ActL) (most : Nat) : Bool := l.any big || decide (most < l.length)

theorem great_any (l : List ActL) (ys : List Lies) (a : Option Addr) (c most : Nat) (hl : l.length ≤ 9223372036854775807) (w : World) (hx : SlA w a l ys) (hf : ∀ x ∈ l, x.Fine) :
    Calls Try.prog 33 #[.slice a l.length c, .int .i64 most] w (Same w (.bool (greatA l most))) := by
  generalize hR : Same w (.bool (greatA l most)) = R
  have HR := Lib.hid hR
  clear hR
  have HX := Lib.hid hx
  have HF := Lib.hid hf
  clear hx hf
  go_enter Try.func33, Try.ntmps33
  go_wp2
  go_loopw [5] (fun i wr => ∃ k : Nat, k ≤ l.length ∧ i = .int .i64 k ∧ (l.take k).any big = false ∧ wr = w) (fun i _ => l.length - (intOf i).toNat)
  case atStart => exact ⟨0, by omega, rfl, by simp, rfl⟩
  case round =>
    obtain ⟨k, hk, rfl, hno, rfl⟩ := hrel
    by_cases hlk : k < l.length
    · have hly : k < ys.length := by have := HX.out.1; omega
      obtain ⟨⟨b, off, rfl, hc⟩, hat⟩ := HX.out.2 k hlk hly
      have c2 := hc 2 (by decide)
      have c4 := hc 4 (by decide)
      have c5 := hc 5 (by decide)
      have hfin := HF.out l[k] (List.getElem_mem hlk)
      have HT : Hid (big l[k] = false → (l.take (k + 1)).any big = false) := fun hbk => by
        rw [List.take_succ_eq_append_getElem hlk, List.any_append, hno]
        simp [hbk]
      have HB : Hid (big l[k] = true → l.any big = true) := fun h => List.any_eq_true.2 ⟨_, List.getElem_mem hlk, h⟩
      generalize ys[k]'hly = y at *
      generalize l[k] = x at *
      simp only [actV, List.getElem_toArray, List.getElem_cons_succ, List.getElem_cons_zero] at c2 c4 c5
      have hfn := hfin.n
      have hfr := hfin.raw
      have hfk := hfin.keep
      have HFIN := Lib.hid hfin
      have HAT := Lib.hid hat
      clear hc hat hfin hno
      cases h1 : decide ((30 : Int) < (x.n.length : Int)) with
      | true =>
        have hbig : big x = true := by simp at h1; unfold big big1; simp; omega
        have HG := Lib.hid (HB.out hbig)
        clear HB HT hbig
        go_wp2
        rw [← HR.out]
        exact ⟨by rw [greatA, HG.out]; rfl, rfl⟩
      | false =>
        cases h2 : decide ((30 : Int) < (x.raw.length : Int)) with
        | true =>
          have hbig : big x = true := by simp at h2; unfold big big1; simp; omega
          have HG := Lib.hid (HB.out hbig)
          clear HB HT hbig
          go_wp2
          rw [← HR.out]
          exact ⟨by rw [greatA, HG.out]; rfl, rfl⟩
        | false =>
          cases h3 : decide ((200 : Int) < (x.keep.length : Int)) with
          | true =>
            have hbig : big x = true := by simp at h3; unfold big big1; simp; omega
            have HG := Lib.hid (HB.out hbig)
            clear HB HT hbig
            go_wp2
            rw [← HR.out]
            exact ⟨by rw [greatA, HG.out]; rfl, rfl⟩
          | false =>
            have hb1 : big1 x = false := by simp at h1 h2 h3; unfold big1; simp; omega
            have HB1 := Lib.hid hb1
            clear hb1
            go_wp2
            obtain ⟨w1, rfl⟩ : ∃ w1 : World, w1 = wr := ⟨_, rfl⟩
            go_loopw [6] (fun i wr => ∃ j : Nat, j ≤ x.raw.length ∧ i = .int .i64 j ∧ ((x.raw.take j).any fun y => decide (600 < y.data.size)) = false ∧ wr = w1) (fun i _ => x.raw.length - (intOf i).toNat)
            case atStart => exact ⟨0, by omega, rfl, by simp, rfl⟩
            case round =>
              obtain ⟨j, hj, rfl, hno2, rfl⟩ := hrel
              by_cases hlj : j < x.raw.length
              · obtain ⟨b2, off2, hra, q0, q1⟩ := HAT.out.raw j hlj
                have hds := HFIN.out.datas x.raw[j] (List.getElem_mem hlj)
                have HJ2 : Hid (decide (600 < x.raw[j].data.size) = false → ((x.raw.take (j + 1)).any fun y => decide (600 < y.data.size)) = false) := fun h => by
                  rw [List.take_succ_eq_append_getElem hlj, List.any_append, hno2, Bool.false_or, List.any_cons, h]
                  rfl
                have HB2 : Hid (decide (600 < x.raw[j].data.size) = true → l.any big = true) := fun h => HB.out (by
                  unfold big
                  rw [Bool.or_eq_true]
                  exact .inr (List.any_eq_true.2 ⟨_, List.getElem_mem hlj, h⟩))
                generalize x.raw[j] = z at *
                rw [hra] at c4
                clear HB HT q0 hno2
                cases h4 : decide ((600 : Int) < (z.data.size : Int)) with
                | true =>
                  have HG := Lib.hid (HB2.out (by simp at h4; simp; omega))
                  clear HB2 HJ2
                  go_wp2
                  rw [← HR.out]
                  exact ⟨by rw [greatA, HG.out]; rfl, rfl⟩
                | false =>
                  have HG := Lib.hid (HJ2.out (by simp at h4; simp; omega))
                  clear HB2 HJ2
                  go_wp2
                  go_roundw
                  case rel => exact ⟨j + 1, by omega, by go_num, HG.out, trivial⟩
                  case measure => simp [intOf]; omega
              · obtain rfl : j = x.raw.length := by omega
                rw [List.take_length] at hno2
                have HN := Lib.hid (HT.out (by unfold big; rw [HB1.out, hno2]; rfl))
                clear HB HT hno2
                go_wp2
                go_roundw
                case rel => exact ⟨k + 1, by omega, by go_num, HN.out, trivial⟩
                case measure => simp [intOf]; omega
    · obtain rfl : k = l.length := by omega
      rw [List.take_length] at hno
      have HN := Lib.hid (show greatA l most = decide (most < l.length) by unfold greatA; rw [hno, Bool.false_or])
      clear hno
      go_wp2
      rw [← HR.out]
      exact ⟨by rw [HN.out]; rfl, rfl⟩
end Go.Proofs.Ytffgjjhopopgcaa
