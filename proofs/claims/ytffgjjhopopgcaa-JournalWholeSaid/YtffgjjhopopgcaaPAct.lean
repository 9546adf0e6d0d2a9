/-
  An act that comes in as an argument, or in a slice, is an act of the plain laws. Conditions: that it came in.
-/
import Derived.Test.YtffgjjhopopgcaaWa
import Derived.Test.YtffgjjhopopgcaaRows
import Derived.ProofKit
import Derived.Lib.SmallJoins
import Derived.Deep.SlicePairs
import Derived.Deep.Grids
namespace Go.Proofs.Ytffgjjhopopgcaa
set_option linter.unusedVariables false
set_option linter.unusedSimpArgs false
set_option maxRecDepth 100000
open Go.ChangeShapes Go.WideShapes Go.ChangeAt Go.RowKit Go.Deep

theorem Try.own : ownKnob Try.prog.godebug = none := by kernel_rfl
theorem Try.laidOut : laidOutB Try.prog = true := by kernel_rfl
theorem wf_i64 {n : Int} (h : (Lit.int .i64 n).wf = true) : inL n := by
  simpa [Lit.wf, IntKind.min, IntKind.max, IntKind.signed, IntKind.bits, inL] using h
theorem wf_byte0 {n : Int} (h : (Lit.int .u8 n).wf = true) : ∃ x : UInt8, n = x.toNat := by
  have h' : 0 ≤ n ∧ n ≤ 255 := by simpa [Lit.wf, IntKind.min, IntKind.max, IntKind.signed, IntKind.bits] using h
  exact ⟨UInt8.ofNat n.toNat, by simp only [UInt8.toNat_ofNat']; omega⟩

section
variable {H : Type} {enc : TypeId × Value → H} {W : World} {fuel : Nat} {cs : List Value} {x : DataW H × List MemPlace}

/-- A slice of bytes that came in. -/
theorem open_bytes (h : DataW.trod enc Try.prog W 0 (fun _ => true) true fuel 23 cs = some x) : ∃ (l : List UInt8) (a : Option Addr) (c : Nat), cs = [.slice a l.length c] ∧ l.length ≤ maxLen ∧ SlU W a l := by
  rcases open_ints Try.underlying23 Try.underlying5 (by kernel_rfl) h with ⟨hcs, hx⟩ | ⟨a, len', cap', zs, hcs, _, hl, hm, hz, hx, hcell, hwz⟩
  · exact ⟨[], none, 0, hcs, Nat.zero_le _, fun k hk => by simp at hk⟩
  · simp only [if_true] at hz
    have hf : ∀ i, ∃ x : UInt8, i < cap' → zs.getD i 0 = x.toNat := fun i => by
      by_cases hi : i < cap'
      · obtain ⟨x, hx⟩ := wf_byte0 (hwz (zs.getD i 0) (by simp [List.getD, List.getElem?_eq_getElem (show i < zs.length by omega)]))
        exact ⟨x, fun _ => hx⟩
      · exact ⟨0, fun h => absurd h hi⟩
    obtain ⟨F, hF⟩ := Classical.axiomOfChoice hf
    have hll : ((List.range len').map F).length = len' := by simp
    refine ⟨(List.range len').map F, some a, cap', by rw [hll, hcs], by rw [hll]; omega, fun k hk => ?_⟩
    have hk' : k < len' := by rw [← hll]; exact hk
    have c0 := hcell k (by omega)
    obtain ⟨b, off, spot⟩ := a
    have hspot : spot = none := by
      have c00 := hcell 0 (by omega)
      simpa [Addr.add] using World.cell?_spot c00
    subst hspot
    refine ⟨b, off, rfl, ?_⟩
    rw [add_plain, hF k (by omega)] at c0
    simpa using c0
/-- A slice of bools that came in. -/
theorem open_flags (h : DataW.trod enc Try.prog W 0 (fun _ => true) true fuel 48 cs = some x) : ∃ (l : List Bool) (a : Option Addr) (c : Nat), cs = [.slice a l.length c] ∧ l.length ≤ maxLen ∧ SlO W a l := by
  rcases open_bools Try.underlying48 Try.underlying4 (by kernel_rfl) h with ⟨hcs, hx⟩ | ⟨a, len', cap', B, hcs, _, hl, hm, hx, hcell⟩
  · exact ⟨[], none, 0, hcs, Nat.zero_le _, fun k hk => by simp at hk⟩
  · have hll : ((List.range len').map B).length = len' := by simp
    refine ⟨(List.range len').map B, some a, cap', by rw [hll, hcs], by rw [hll]; omega, fun k hk => ?_⟩
    have hk' : k < len' := by rw [← hll]; exact hk
    have c0 := hcell k (by omega)
    obtain ⟨b, off, spot⟩ := a
    have hspot : spot = none := by
      have c00 := hcell 0 (by omega)
      simpa [Addr.add] using World.cell?_spot c00
    subst hspot
    refine ⟨b, off, rfl, ?_⟩
    rw [add_plain] at c0
    simpa using c0
/-- A slice of writes that came in. -/
theorem open_writes (h : DataW.trod enc Try.prog W 0 (fun _ => true) true fuel 53 cs = some x) :
    ∃ (l : List Wr) (a : Option Addr) (c : Nat), cs = [.slice a l.length c] ∧ l.length ≤ maxLen ∧ SlW W a l ∧ ∀ z ∈ l, inL z.sec ∧ z.data.size ≤ maxLen := by
  rcases open_slice_pairs Try.underlying53 Try.underlying59 (by kernel_rfl) rfl rfl (by kernel_rfl) (by kernel_rfl) h with ⟨hcs, -⟩ | ⟨a, len, cap, m, k, V0, V1, D0, D1, P0, P1, hcs, -, hlc, hcm, hm, -, hel⟩
  · exact ⟨[], none, 0, hcs, Nat.zero_le _, fun k hk => by simp at hk, fun z hz => by cases hz⟩
  · simp only [if_true] at hm
    subst hm
    have hf : ∀ i, ∃ z : Wr, i < m → V0 i = .int .i64 z.sec ∧ V1 i = .string z.data ∧ inL z.sec ∧ z.data.size ≤ maxLen := fun i => by
      by_cases hi : i < m
      · obtain ⟨-, -, t0, t1⟩ := hel i hi
        obtain ⟨f, g0, -, w0⟩ := DataW.trod_int Try.underlying3 t0
        obtain ⟨g, g1, -, w1⟩ := DataW.trod_string Try.underlying9 t1
        simp only [List.cons.injEq, and_true] at g0 g1
        exact ⟨⟨f, g⟩, fun _ => ⟨g0, g1, wf_i64 w0, w1⟩⟩
      · exact ⟨⟨0, ⟨#[]⟩⟩, fun h => absurd h hi⟩
    obtain ⟨F, hF⟩ := Classical.axiomOfChoice hf
    have hl : ((List.range len).map F).length = len := by simp
    refine ⟨(List.range len).map F, some a, m, by rw [hl, hcs], by rw [hl]; omega, fun k hk => ?_, fun z hz => ?_⟩
    · have hk' : k < len := by rw [← hl]; exact hk
      obtain ⟨c0, c1, -, -⟩ := hel k (by omega)
      obtain ⟨b, off, spot⟩ := a
      have hspot : spot = none := by
        have c00 := (hel 0 (by omega)).1
        simpa [Addr.add] using World.cell?_spot c00
      subst hspot
      obtain ⟨g0, g1, -, -⟩ := hF k (by omega)
      refine ⟨b, off, rfl, ?_, ?_⟩
      · simp only [List.getElem_map, List.getElem_range, ← g0]
        rw [add_plain] at c0
        exact c0
      · simp only [List.getElem_map, List.getElem_range, ← g1]
        rw [add_plain] at c1
        exact c1
    · simp only [List.mem_map, List.mem_range] at hz
      obtain ⟨k, hk, rfl⟩ := hz
      exact (hF k (by omega)).2.2
/-- The cells of an act that came in. -/
theorem open_act_cells (h : DataW.trod enc Try.prog W 0 (fun _ => true) true fuel 55 cs = some x) : ∃ (z : ActL) (y : Lies), cs = (actV z y).toList ∧ z.Fine ∧ ActAt W z y := by
  obtain ⟨xs, n, -, -, hlen, hxl, hf⟩ := DataW.trod_struct Try.underlying55 h
  have hC : Try.prog.cellsOf 55 = 6 := by kernel_rfl
  rw [hC] at hlen
  match cs, hlen with
  | [v0, v1, v2, v3, v4, v5], _ =>
    have k0 : Try.prog.cellsOf 5 = 1 := by kernel_rfl
    have k2 : Try.prog.cellsOf 23 = 1 := by kernel_rfl
    have k3 : Try.prog.cellsOf 3 = 1 := by kernel_rfl
    have k4 : Try.prog.cellsOf 53 = 1 := by kernel_rfl
    have k5 : Try.prog.cellsOf 48 = 1 := by kernel_rfl
    have hx6 : xs.length = 6 := hxl
    have g0 : DataW.trod enc Try.prog W 0 (fun _ => true) true n 5 [v0] = some (xs[0]'(by omega)) := by
      have := hf 0 _ rfl
      rw [List.getElem?_eq_getElem (by omega)] at this
      simpa [k0] using this
    have g1 : DataW.trod enc Try.prog W 0 (fun _ => true) true n 5 [v1] = some (xs[1]'(by omega)) := by
      have := hf 1 _ rfl
      rw [List.getElem?_eq_getElem (by omega)] at this
      simpa [k0] using this
    have g2 : DataW.trod enc Try.prog W 0 (fun _ => true) true n 23 [v2] = some (xs[2]'(by omega)) := by
      have := hf 2 _ rfl
      rw [List.getElem?_eq_getElem (by omega)] at this
      simpa [k2] using this
    have g3 : DataW.trod enc Try.prog W 0 (fun _ => true) true n 3 [v3] = some (xs[3]'(by omega)) := by
      have := hf 3 _ rfl
      rw [List.getElem?_eq_getElem (by omega)] at this
      simpa [k3] using this
    have g4 : DataW.trod enc Try.prog W 0 (fun _ => true) true n 53 [v4] = some (xs[4]'(by omega)) := by
      have := hf 4 _ rfl
      rw [List.getElem?_eq_getElem (by omega)] at this
      simpa [k4] using this
    have g5 : DataW.trod enc Try.prog W 0 (fun _ => true) true n 48 [v5] = some (xs[5]'(by omega)) := by
      have := hf 5 _ rfl
      rw [List.getElem?_eq_getElem (by omega)] at this
      simpa [k5] using this
    obtain ⟨z0, e0, -, w0⟩ := DataW.trod_int Try.underlying5 g0
    obtain ⟨z1, e1, -, w1⟩ := DataW.trod_int Try.underlying5 g1
    obtain ⟨z3, e3, -, w3⟩ := DataW.trod_int Try.underlying3 g3
    obtain ⟨l2, a2, c2, e2, b2, s2⟩ := open_bytes g2
    obtain ⟨l4, a4, c4, e4, b4, s4, t4⟩ := open_writes g4
    obtain ⟨l5, a5, c5, e5, b5, s5⟩ := open_flags g5
    simp only [List.cons.injEq, and_true] at e0 e1 e2 e3 e4 e5
    subst e0 e1 e2 e3 e4 e5
    obtain ⟨u0, rfl⟩ := wf_byte0 w0
    obtain ⟨u1, rfl⟩ := wf_byte0 w1
    unfold maxLen at b2 b4 b5 t4
    exact ⟨⟨u0, u1, l2, z3, l4, l5⟩, ⟨a2, c2, a4, c4, a5, c5⟩, rfl, ⟨wf_i64 w3, fun z hz => (t4 z hz).1, fun z hz => by have := (t4 z hz).2; omega, by simp only; omega, by simp only; omega, by simp only; omega⟩, ⟨s2, s4, s5⟩⟩
theorem open_bytes1 {v : Value} {d : DataW H} {p : List MemPlace} (hval : Value.okWide Try.prog W .any 0 23 v) (h : DataW.Trod enc Try.prog W 0 (fun _ => true) true 23 v d p) :
    ∃ (l : List UInt8) (a : Option Addr) (c : Nat), v = .slice a l.length c ∧ l.length ≤ maxLen ∧ SlU W a l := by
  obtain ⟨a1, len, cap, rfl⟩ := okWide_slice Try.underlying23 hval
  obtain ⟨fuel, hf⟩ := h
  obtain ⟨l, a, c, e, h1, h2⟩ := open_bytes hf
  exact ⟨l, a, c, by simpa [Value.cells] using e, h1, h2⟩
theorem open_flags1 {v : Value} {d : DataW H} {p : List MemPlace} (hval : Value.okWide Try.prog W .any 0 48 v) (h : DataW.Trod enc Try.prog W 0 (fun _ => true) true 48 v d p) :
    ∃ (l : List Bool) (a : Option Addr) (c : Nat), v = .slice a l.length c ∧ l.length ≤ maxLen ∧ SlO W a l := by
  obtain ⟨a1, len, cap, rfl⟩ := okWide_slice Try.underlying48 hval
  obtain ⟨fuel, hf⟩ := h
  obtain ⟨l, a, c, e, h1, h2⟩ := open_flags hf
  exact ⟨l, a, c, by simpa [Value.cells] using e, h1, h2⟩
/-- An act that came in. -/
theorem open_act {v : Value} {d : DataW H} {p : List MemPlace} (hval : Value.okWide Try.prog W .any 0 55 v) (h : DataW.Trod enc Try.prog W 0 (fun _ => true) true 55 v d p) :
    ∃ (z : ActL) (y : Lies), v = .agg (actV z y) ∧ z.Fine ∧ ActAt W z y := by
  obtain ⟨cs, rfl, hsz⟩ := okWide_struct Try.underlying55 hval
  obtain ⟨fuel, hf⟩ := h
  obtain ⟨z, y, e, h1, h2⟩ := open_act_cells hf
  refine ⟨z, y, ?_, h1, h2⟩
  have : cs = actV z y := Array.toList_inj.1 e
  rw [this]
/-- A slice of acts that came in. -/
theorem open_acts (h : DataW.trod enc Try.prog W 0 (fun _ => true) true fuel 69 cs = some x) :
    ∃ (l : List ActL) (ys : List Lies) (a : Option Addr) (c : Nat), cs = [.slice a l.length c] ∧ l.length ≤ maxLen ∧ SlA W a l ys ∧ ∀ z ∈ l, z.Fine := by
  rcases open_slice Try.underlying69 h with ⟨hcs, -⟩ | ⟨a, len, cap, m, n, D, Pl, hcs, hb, hl, hm, hmm, -, hx⟩
  · exact ⟨[], [], none, 0, hcs, Nat.zero_le _, ⟨rfl, fun k hk => by simp at hk⟩, fun z hz => by cases hz⟩
  · simp only [if_true] at hmm
    subst hmm
    have hC : Try.prog.cellsOf 55 = 6 := by kernel_rfl
    rw [hC] at hx
    have hf : ∀ i, ∃ q : ActL × Lies, i < m → q.1.Fine ∧ ActAt W q.1 q.2 ∧ ∀ j (hj : j < 6), W.cell? ((a.add (i * 6)).add j) = some ((actV q.1 q.2)[j]'(by simpa [actV] using hj)) := fun i => by
      by_cases hi : i < m
      · obtain ⟨cs', h1, h2⟩ := hx i hi
        obtain ⟨z, y, e, h3, h4⟩ := open_act_cells h2
        obtain ⟨-, hlen, hcell⟩ := World.cells?_some h1
        refine ⟨⟨z, y⟩, fun _ => ⟨h3, h4, fun j hj => ?_⟩⟩
        have := hcell j hj
        rw [e] at this
        rw [this, Array.getElem?_toList, Array.getElem?_eq_getElem]
      · exact ⟨⟨⟨0, 0, [], 0, [], []⟩, ⟨none, 0, none, 0, none, 0⟩⟩, fun h => absurd h hi⟩
    obtain ⟨F, hF⟩ := Classical.axiomOfChoice hf
    have hl1 : ((List.range len).map fun i => (F i).1).length = len := by simp
    have hl2 : ((List.range len).map fun i => (F i).2).length = len := by simp
    refine ⟨(List.range len).map fun i => (F i).1, (List.range len).map fun i => (F i).2, some a, m, by rw [hl1, hcs], by rw [hl1]; omega, ⟨by rw [hl1, hl2], fun k hk h2 => ?_⟩, fun z hz => ?_⟩
    · have hk' : k < len := by rw [← hl1]; exact hk
      obtain ⟨g1, g2, g3⟩ := hF k (by omega)
      obtain ⟨b, off, spot⟩ := a
      have hspot : spot = none := by
        have c00 := (hF 0 (by omega)).2.2 0 (by decide)
        simpa [Addr.add] using World.cell?_spot c00
      subst hspot
      simp only [List.getElem_map, List.getElem_range]
      refine ⟨⟨b, off, rfl, fun j hj => ?_⟩, g2⟩
      have := g3 j hj
      rwa [add_plain, add_plain] at this
    · simp only [List.mem_map, List.mem_range] at hz
      obtain ⟨k, hk, rfl⟩ := hz
      exact (hF k (by omega)).1
theorem open_acts1 {v : Value} {d : DataW H} {p : List MemPlace} (hval : Value.okWide Try.prog W .any 0 69 v) (h : DataW.Trod enc Try.prog W 0 (fun _ => true) true 69 v d p) :
    ∃ (l : List ActL) (ys : List Lies) (a : Option Addr) (c : Nat), v = .slice a l.length c ∧ l.length ≤ maxLen ∧ SlA W a l ys ∧ ∀ z ∈ l, z.Fine := by
  obtain ⟨a1, len, cap, rfl⟩ := okWide_slice Try.underlying69 hval
  obtain ⟨fuel, hf⟩ := h
  obtain ⟨l, ys, a, c, e, h1, h2, h3⟩ := open_acts hf
  exact ⟨l, ys, a, c, by simpa [Value.cells] using e, h1, h2, h3⟩
end
end Go.Proofs.Ytffgjjhopopgcaa
