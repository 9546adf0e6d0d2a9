/-
  An inode that comes in as an argument is an inode of the plain laws, read through its slice. Conditions: that it came in.
-/
import Derived.Test.YtffgjjhopopgcaaLTell
import Derived.Test.YtffgjjhopopgcaaRows
import Derived.ProofKit
import Derived.Lib.SmallJoins
import Derived.Deep.SlicePairs
namespace Go.Proofs.Ytffgjjhopopgcaa
set_option linter.unusedVariables false
set_option linter.unusedSimpArgs false
set_option maxRecDepth 100000
open Go.ChangeShapes Go.WideShapes Go.ChangeAt Go.RowKit
open Go.ChangeMaps (open_string shut_string)

theorem Try.own : ownKnob Try.prog.godebug = none := by kernel_rfl
theorem Try.laidOut : laidOutB Try.prog = true := by kernel_rfl

theorem wf_i64 {n : Int} (h : (Lit.int .i64 n).wf = true) : inI64 n := by
  simpa [Lit.wf, IntKind.min, IntKind.max, IntKind.signed, IntKind.bits, inI64] using h

/-- AN INODE THAT CAME IN. -/
theorem open_ino {H : Type} {enc : TypeId × Value → H} {W : World} {base : Nat} {v : Value} {d : DataW H} {p : List MemPlace} (hval : Value.okWide Try.prog W .any base 27 v)
    (h : DataW.Trod enc Try.prog W 0 (fun _ => true) true 27 v d p) : ∃ (i : Ino) (a : Option Addr) (c : Nat), v = .agg #[.string i.name, .int .i64 i.size, .slice a i.exts.length c] ∧ InArg W i a := by
  obtain ⟨v0, v1, v2, y0, y1, y2, n, rfl, rfl, rfl, h0, h1, h2⟩ := Go.Joins.open_agg3 Try.underlying27 (by kernel_rfl) (by kernel_rfl) hval h
  obtain ⟨s, e0, -, ws⟩ := DataW.trod_string Try.underlying9 h0
  obtain ⟨z, e1, -, wz⟩ := DataW.trod_int Try.underlying3 h1
  simp only [List.cons.injEq, and_true] at e0 e1
  subst e0 e1
  have wz := wf_i64 wz
  unfold maxLen at ws
  rcases Go.Deep.open_slice_pairs Try.underlying25 Try.underlying38 (by kernel_rfl) rfl rfl (by kernel_rfl) (by kernel_rfl) h2 with ⟨e2, -⟩ | ⟨a, len, cap, m, k, V0, V1, D0, D1, P0, P1, e2, -, hlc, hcm, hm, -, hel⟩
  · simp only [List.cons.injEq, and_true] at e2
    subst e2
    exact ⟨⟨s, z, []⟩, none, 0, rfl, ⟨fun k hk => by simp at hk, fun x hx => by simp at hx, wz, ws, by simp⟩⟩
  · simp only [List.cons.injEq, and_true] at e2
    subst e2
    simp only [if_true] at hm
    subst hm
    unfold maxLen at hcm
    have hf : ∀ i, ∃ x : Ext, i < m → V0 i = .int .i64 x.first ∧ V1 i = .int .i64 x.count ∧ inI64 x.first ∧ inI64 x.count := fun i => by
      by_cases hi : i < m
      · obtain ⟨-, -, t0, t1⟩ := hel i hi
        obtain ⟨f, g0, -, w0⟩ := DataW.trod_int Try.underlying3 t0
        obtain ⟨g, g1, -, w1⟩ := DataW.trod_int Try.underlying3 t1
        simp only [List.cons.injEq, and_true] at g0 g1
        exact ⟨⟨f, g⟩, fun _ => ⟨g0, g1, wf_i64 w0, wf_i64 w1⟩⟩
      · exact ⟨⟨0, 0⟩, fun h => absurd h hi⟩
    obtain ⟨F, hF⟩ := Classical.axiomOfChoice hf
    have hl : ((List.range len).map F).length = len := by simp
    refine ⟨⟨s, z, (List.range len).map F⟩, some a, m, by rw [hl], ⟨fun k hk => ?_, fun x hx => ?_, wz, ws, by simp only [hl]; omega⟩⟩
    · have hk' : k < len := by rw [← hl]; exact hk
      obtain ⟨c0, c1, -, -⟩ := hel k (by omega)
      obtain ⟨b, off, spot⟩ := a
      have hspot : spot = none := by
        have c00 := (hel 0 (by omega)).1
        simpa [Addr.add] using World.cell?_spot c00
      subst hspot
      obtain ⟨g0, g1, -, -⟩ := hF k (by omega)
      refine ⟨b, off, rfl, ?_, ?_⟩
      · simp only [List.getElem_map, List.getElem_range, ← g0]
        rw [add_plain] at c0
        exact c0
      · simp only [List.getElem_map, List.getElem_range, ← g1]
        rw [add_plain] at c1
        exact c1
    · simp only [List.mem_map, List.mem_range] at hx
      obtain ⟨k, hk, rfl⟩ := hx
      exact (hF k (by omega)).2.2

end Go.Proofs.Ytffgjjhopopgcaa
