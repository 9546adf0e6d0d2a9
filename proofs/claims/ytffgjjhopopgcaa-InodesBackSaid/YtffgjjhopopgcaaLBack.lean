/-
  InodesBack answers true for every inode and every two bytes, in every world.
-/
import Derived.Test.YtffgjjhopopgcaaLTell
import Derived.Test.YtffgjjhopopgcaaInoK
import Derived.Lib.SmallJoins
namespace Go.Proofs.Ytffgjjhopopgcaa
set_option linter.unusedVariables false
set_option linter.unusedSimpArgs false
open Go.RowKit
set_option maxRecDepth 100000
set_option maxHeartbeats 2000000
attribute [local go_sem] mkS_extract mkS_append

/-- A text laid as a slice of bytes. -/
theorem toBytes (s : List UInt8) (w : World) : ∃ q : World × Nat, (convert 9 23 (.string ⟨s.toArray⟩)).run Try.prog w = .ok (.slice (some ⟨w.heap.size, 0, none⟩) s.length q.2) q.1 ∧
    (∀ k, k < s.length → q.1.cell? ⟨w.heap.size, k, none⟩ = some (.int .u8 (s.getD k 0).toNat)) ∧ (∀ k, k < s.length → q.1.frozen? ⟨w.heap.size, k, none⟩ = false) ∧ Below w.heap.size w q.1 ∧ q.1.heap.size = w.heap.size + 1 := by
  have hsz : (⟨s.toArray⟩ : ByteArray).size = s.length := List.size_toArray ..
  refine ⟨(Go.Lib.bytesWorld w 5 ⟨s.toArray⟩, grownCap w (⟨s.toArray⟩ : ByteArray).size 0 5), ?_, ?_, ?_, Go.Joins.below_bytesWorld _ w 5 _ (Nat.le_refl _), Go.Lib.bytesWorld_size w 5 _⟩
  · have := Go.Lib.run_convert_string_bytes (P := Try.prog) w 9 23 5 ⟨s.toArray⟩ Try.underlying9 Try.underlying23 Try.underlying5
    rw [this]
    simp only [hsz]
  · intro k hk
    have := Go.Lib.bytesWorld_cell w 5 ⟨s.toArray⟩ k (by rw [hsz]; exact hk)
    rw [this]
  · intro k hk
    have hb := Go.Lib.bytesWorld_at_new w 5 ⟨s.toArray⟩
    have hc : k < (Go.Lib.bytesCells w 5 ⟨s.toArray⟩).size := by
      simp [Go.Lib.bytesCells]
      omega
    simp [World.frozen?, hb]
    omega

theorem bytesV_getElem (l : List UInt8) (j : Nat) (u : Value) (h : (bytesV l)[j]? = some u) : ∃ hj : j < l.length, u = .int .u8 (l[j]).toNat := by
  unfold bytesV at h
  rw [List.getElem?_map] at h
  cases hl : l[j]? with
  | none => rw [hl] at h; simp at h
  | some x =>
    obtain ⟨hj, rfl⟩ := List.getElem?_eq_some_iff.1 hl
    rw [hl] at h
    simp at h
    exact ⟨hj, h.symm⟩

theorem back_law (i : Ino) (a : Option Addr) (c : Nat) (at' bY : Nat) (hat : at' < 256) (hby : bY < 256) (w : World) (hi : InArg w i a) :
    Calls Try.prog 6 #[.agg #[.string i.name, .int .i64 i.size, .slice a i.exts.length c], .int .u8 at', .int .u8 bY] w (Ret w (.bool true)) := by
  have HG1 : Hid (∀ w, Calls Try.prog 17 #[.agg #[.string i.name, .int .i64 i.size, .slice a i.exts.length c]] w (Ret w (.bool (isGreat i)))) := Lib.hid (fun w => great2_any i a c hi.nm hi.ex w)
  have HF := Lib.hid filed_any
  have hb0 : Below w.heap.size w (w.alloc (.cells #[.string i.name, .int .i64 i.size, .slice a i.exts.length c] 27)) := (Below.refl _ _).alloc (Nat.le_refl _) _
  have hA := heap_alloc_last w (.cells #[.string i.name, .int .i64 i.size, .slice a i.exts.length c] 27)
  have hW : (w.alloc (.cells #[.string i.name, .int .i64 i.size, .slice a i.exts.length c] 27)).heap.size = w.heap.size + 1 := by simp
  have hx := hi.sl.below hb0
  go_enter Try.func6, Try.ntmps6
  obtain ⟨⟨c0, c1, c2⟩, f0, f1, f2⟩ := cells3 hA
  go_wp2_with fail
  generalize w.alloc (.cells #[.string i.name, .int .i64 i.size, .slice a i.exts.length c] 27) = W at *
  refine (HG1.out _).mono ?_
  rintro e w1 ⟨rfl, hb1⟩
  clear c0 c1 c2 f0 f1 f2
  have RA1 := Lib.hid ((hb1.block w.heap.size (by omega)).trans hA)
  have HX1 := Lib.hid (hx.below hb1)
  have HB1 := Lib.hid (hb0.trans (hb1.mono hb0.size))
  have hw1 : w.heap.size + 1 ≤ w1.heap.size := by have := hb1.size; omega
  have HI := Lib.hid hi
  clear hb0 hA hW hb1 HG1 hx hi
  cases gi : isGreat i with
  | true =>
    clear gi
    go_wp2_with fail
    refine (HF.out _).mono ?_
    rintro e w2 ⟨rfl, hb2⟩
    have HB2 := Lib.hid (HB1.out.trans (hb2.mono HB1.out.size))
    clear hb2
    go_wp2
    go_ret
    exact ⟨rfl, HB2.out⟩
  | false =>
    by_cases hb : bY = 0
    · have hb' : ((bY : Int) == 0) = true := by simp; omega
      clear hb gi
      go_wp2_with fail
      refine (HF.out _).mono ?_
      rintro e w2 ⟨rfl, hb2⟩
      have HB2 := Lib.hid (HB1.out.trans (hb2.mono HB1.out.size))
      clear hb2
      go_wp2
      go_ret
      exact ⟨rfl, HB2.out⟩
    · have hb' : ((bY : Int) == 0) = false := by simp; omega
      have hi := HI.out
      simp only [isGreat, Bool.or_eq_false_iff, decide_eq_false_iff_not] at gi
      have HP := Lib.hid (fun w hx => inoPut_any i.name i.size a i.exts c hi.nm hi.sz.1 hi.sz.2 (by omega) hi.ei w hx)
      have HBY := Lib.hid hb
      clear hb
      obtain ⟨⟨c0, c1, c2⟩, f0, f1, f2⟩ := cells3 RA1.out
      cases ok : inoOk i with
      | false =>
        rw [show inoPut ⟨i.name, i.size, i.exts⟩ = [] from by simp [inoPut, ok], show inoCheck ⟨i.name, i.size, i.exts⟩ = 2 from by simp [inoCheck, ok]] at HP
        clear gi hi ok
        go_wp2_with fail
        refine (HP.out _ HX1.out).mono ?_
        rintro e w2 ⟨rfl, hb2⟩
        have HB2 := Lib.hid (HB1.out.trans (hb2.mono HB1.out.size))
        clear hb2 c0 c1 c2 f0 f1 f2
        go_wp2_with fail
        refine (HF.out _).mono ?_
        rintro e w3 ⟨rfl, hb3⟩
        have HB3 := Lib.hid (HB2.out.trans (hb3.mono HB2.out.size))
        clear hb3
        go_wp2
        go_ret
        exact ⟨rfl, HB3.out⟩
      | true =>
        obtain ⟨t1, t2, t3⟩ := there_put ok
        have hlen := length_inoBytes ok
        have HFL := Lib.hid (fun y hy => back_flip ok at' hat y hy)
        rw [show inoPut ⟨i.name, i.size, i.exts⟩ = inoBytes i from by simp [inoPut, ok], show inoCheck ⟨i.name, i.size, i.exts⟩ = 0 from by simp [inoCheck, ok]] at HP
        have HG := Lib.hid (fun w => inoGet_any (inoBytes i) (by omega) w)
        rw [t1, t2, t3] at HG
        clear t1 t2 t3 ok
        generalize inoBytes i = s at *
        go_wp2_with fail
        refine (HP.out _ HX1.out).mono ?_
        rintro e w2 ⟨rfl, hb2⟩
        have RA2 := Lib.hid ((hb2.block w.heap.size (by omega)).trans RA1.out)
        have HX2 := Lib.hid (HX1.out.below hb2)
        have HB2 := Lib.hid (HB1.out.trans (hb2.mono HB1.out.size))
        have hw2 : w.heap.size + 1 ≤ w2.heap.size := by have := hb2.size; omega
        clear hb2 c0 c1 c2 f0 f1 f2 HP HX1 RA1 HB1 hw1
        go_wp2_with fail
        refine (HG.out _).mono ?_
        rintro e w3 ⟨a3, c3, rfl, hs3, hb3⟩
        have RA3 := Lib.hid ((hb3.block w.heap.size (by omega)).trans RA2.out)
        have HX3 := Lib.hid (HX2.out.below hb3)
        have HB3 := Lib.hid (HB2.out.trans (hb3.mono HB2.out.size))
        have hw3 : w.heap.size + 1 ≤ w3.heap.size := by have := hb3.size; omega
        have HS3 := Lib.hid hs3
        clear hb3 HX2 RA2 HB2 hw2 hs3 HG
        obtain ⟨C, hC⟩ := Classical.axiomOfChoice (toBytes s)
        have n1 := fun w => (hC w).1
        have n2 := fun w => (hC w).2.1
        have n3 := fun w => (hC w).2.2.1
        have HC4 := Lib.hid (fun w => (hC w).2.2.2)
        clear hC
        have h4s : (w3.alloc (.cells #[.string i.name, .int .i64 i.size, .slice a3 i.exts.length c3] 27)).heap.size = w3.heap.size + 1 := by simp
        have hcell := n2 (w3.alloc (.cells #[.string i.name, .int .i64 i.size, .slice a3 i.exts.length c3] 27)) at' (by omega)
        have hfroz := n3 (w3.alloc (.cells #[.string i.name, .int .i64 i.size, .slice a3 i.exts.length c3] 27)) at' (by omega)
        have hcells := n2 (w3.alloc (.cells #[.string i.name, .int .i64 i.size, .slice a3 i.exts.length c3] 27))
        have hb4 := (Below.refl w3.heap.size w3).alloc (Nat.le_refl _) (.cells #[.string i.name, .int .i64 i.size, .slice a3 i.exts.length c3] 27)
        have r9 := heap_alloc_last w3 (.cells #[.string i.name, .int .i64 i.size, .slice a3 i.exts.length c3] 27)
        have hc4 := (HC4.out (w3.alloc (.cells #[.string i.name, .int .i64 i.size, .slice a3 i.exts.length c3] 27))).1
        have hc4s := (HC4.out (w3.alloc (.cells #[.string i.name, .int .i64 i.size, .slice a3 i.exts.length c3] 27))).2
        rw [h4s] at hcell hfroz hcells hc4s
        obtain ⟨y, hy⟩ : ∃ y : UInt8, y = UInt8.ofNat ((s.getD at' 0).toNat ^^^ bY) := ⟨_, rfl⟩
        have hxl : (s.getD at' 0).toNat ^^^ bY < 256 := Nat.xor_lt_two_pow (n := 8) (s.getD at' 0).toNat_lt hby
        have hyn : y.toNat = (s.getD at' 0).toNat ^^^ bY := by rw [hy]; exact toNat_ofNat_lt hxl
        have hxor : bits .xor .u8 (((s.getD at' 0).toNat : Nat) : Int) (bY : Int) = ((y.toNat : Nat) : Int) := by
          rw [xor_u8 _ _ (s.getD at' 0).toNat_lt hby, hyn]
        have hne : s.getD at' 0 ≠ y := by
          intro e
          have : (s.getD at' 0).toNat = (s.getD at' 0).toNat ^^^ bY := by rw [← hyn, ← e]
          have h0 : bY = 0 := by
            have := congrArg (fun z => (s.getD at' 0).toNat ^^^ z) this
            simpa [← Nat.xor_assoc] using this.symm
          exact HBY.out h0
        obtain ⟨g1, g2⟩ := HFL.out y hne
        have g3 : inoErr (s.set at' y) = 10 := by simp [inoErr, g1, g2]
        have g4 : inoGet (s.set at' y) = noIno := by simp [inoGet, g1]
        have HGB := Lib.hid (fun w => inoGet_any (s.set at' y) (by rw [List.length_set]; omega) w)
        rw [g1, g3, g4] at HGB
        clear hy hxl hyn hne g1 g2 g3 g4 HFL HBY h4s n2 n3
        generalize (s.getD at' 0).toNat = x at *
        obtain ⟨W5, hW5⟩ : ∃ W5, (C (w3.alloc (.cells #[.string i.name, .int .i64 i.size, .slice a3 i.exts.length c3] 27))).1.setCell ⟨w3.heap.size + 1, at', none⟩ (.int .u8 ((y.toNat : Nat) : Int)) = W5 := ⟨_, rfl⟩
        have hconv : ∀ cap, (convert 23 9 (.slice (some ⟨w3.heap.size + 1, 0, none⟩) 256 cap)).run Try.prog W5 = .ok (.string ⟨(s.set at' y).toArray⟩) W5 := fun cap => by
          refine run_string_of (by rw [List.length_set]; exact hlen) fun j u hu => ?_
          obtain ⟨hj, rfl⟩ := bytesV_getElem _ j u hu
          rw [List.length_set] at hj
          rw [Go.WideShapes.add_plain, Nat.zero_add, ← hW5]
          by_cases he : j = at'
          · subst he
            rw [List.getElem_set_self]
            exact World.cell?_setCell_same _ _ _ hcell
          · rw [List.getElem_set_ne (by omega), World.cell?_setCell_other _ _ _ _ (by intro e; injection e with _ e2; exact he e2.symm)]
            have := hcells j hj
            rw [this, List.getD_eq_getElem?_getD, List.getElem?_eq_getElem hj]
            rfl
        have hb5 : Below w3.heap.size w3 W5 := by
          rw [← hW5]
          exact ((hb4.trans (hc4.mono (by simp))).setCell (by simp only; omega) _)
        have r9' : W5.heap[w3.heap.size]? = some (.cells #[.string i.name, .int .i64 i.size, .slice a3 i.exts.length c3] 27 (0, 0)) := by
          rw [← hW5, heap_setCell_other _ _ _ _ (by simp only; omega), hc4.block _ (by simp)]
          exact r9
        have HX5 := Lib.hid (HX3.out.below hb5)
        have HS5 := Lib.hid (HS3.out.below hb5)
        have HB5 := Lib.hid (HB3.out.trans (hb5.mono (by omega)))
        have RA5 := Lib.hid ((hb5.block w.heap.size (by omega)).trans RA3.out)
        have R95 := Lib.hid r9'
        have hw5 : w3.heap.size < W5.heap.size := (Array.getElem?_eq_some_iff.1 r9').1
        obtain ⟨p1, p2, p3⟩ := got_none (l := s.take at') (by rw [List.length_take]; omega)
        have HGC := Lib.hid (fun w => inoGet_any (s.take at') (by rw [List.length_take]; omega) w)
        rw [p1, p2, p3] at HGC
        obtain ⟨p4, p5, p6⟩ := got_none (l := s ++ [0]) (by rw [List.length_append, hlen]; decide)
        have HGD := Lib.hid (fun w => inoGet_any (s ++ [0]) (by rw [List.length_append, hlen]; decide) w)
        rw [p4, p5, p6] at HGD
        clear p1 p2 p3 p4 p5 p6 hb5 r9' r9 hb4 hc4 hcells hc4s HC4 HX3 HS3 HB3 RA3
        have HSA0 := fun w hx hy => same_any i i a3 a c3 c hi.sz hi.sz (by omega) (by omega) w hx hy
        have HSN0 := fun a c w hx => same_any noIno noIno a none c 0 (by simp [noIno, inI64]) (by simp [noIno, inI64]) (by decide) (by decide) w hx (slE_nil w none)
        rw [sameIno_self] at HSA0 HSN0
        have HSA := Lib.hid HSA0
        have HSN := Lib.hid HSN0
        simp only [noIno, List.length_nil] at HSN HGB HGC HGD
        clear HSA0 HSN0 HI hi gi
        have hfz : (0 : Int) ≤ (at' : Int) := by omega
        have hfz2 : (at' : Int) ≤ 256 := by omega
        go_wp2_with fail
        clear hcell hfroz hW5 hconv hxor
        -- the turned byte
        refine (HGB.out _).mono ?_
        rintro e w6 ⟨a6, c6, rfl, hs6, hb6⟩
        have r13 := heap_alloc_last w6 (.cells #[.string ⟨#[]⟩, .int .i64 0, .slice a6 0 c6] 27)
        have hal := (Below.refl w6.heap.size w6).alloc (Nat.le_refl _) (.cells #[.string ⟨#[]⟩, .int .i64 0, .slice a6 0 c6] 27)
        have hb7 := hb6.trans (hal.mono hb6.size)
        have hsz7 : (w6.alloc (.cells #[.string ⟨#[]⟩, .int .i64 0, .slice a6 0 c6] 27)).heap.size = w6.heap.size + 1 := by simp
        have R13 := Lib.hid r13
        have HS7 := Lib.hid (hs6.below hal)
        have HB7 := Lib.hid hb7
        have HSZ7 := Lib.hid hsz7
        have hw6 := hb6.size
        clear r13 hal hb7 hsz7 hs6 hb6
        -- fewer bytes
        go_wp2_with fail
        refine (HGC.out _).mono ?_
        rintro e w8 ⟨a8, c8, rfl, -, hb8⟩
        have HB9 := Lib.hid (hb8.trans (((Below.refl w8.heap.size w8).alloc (Nat.le_refl _) (.cells #[.string ⟨#[]⟩, .int .i64 0, .slice a8 0 c8] 27)).mono hb8.size))
        clear hb8
        -- more bytes
        go_wp2_with fail
        refine (HGD.out _).mono ?_
        rintro e w10 ⟨a10, c10, rfl, -, hb10⟩
        have HB11 := Lib.hid (HB9.out.trans ((hb10.trans (((Below.refl w10.heap.size w10).alloc (Nat.le_refl _) (.cells #[.string ⟨#[]⟩, .int .i64 0, .slice a10 0 c10] 27)).mono hb10.size)).mono HB9.out.size))
        clear hb10
        have HB11' := Lib.hid (HB7.out.trans (HB11.out.mono HB7.out.size))
        have r3 := (HB11'.out.block w.heap.size (by omega)).trans RA5.out
        have r9 := (HB11'.out.block w3.heap.size (by omega)).trans R95.out
        have hx11 := HX5.out.below HB11'.out
        have hs11 := HS5.out.below HB11'.out
        have r13 := (HB11.out.block w6.heap.size (by rw [HSZ7.out]; omega)).trans R13.out
        have hs13 := HS7.out.below HB11.out
        have hw11 := HB11.out.size
        rw [HSZ7.out] at hw11
        obtain ⟨⟨c0, c1, c2⟩, f0, f1, f2⟩ := cells3 r3
        obtain ⟨⟨d0, d1, d2⟩, g0, g1, g2⟩ := cells3 r9
        have R13' := Lib.hid r13
        have HS13 := Lib.hid hs13
        have HXX := Lib.hid hx11
        have HSS := Lib.hid hs11
        clear r3 r9 hx11 hs11 r13 hs13 HB9 HB11
        go_wp2_with fail
        refine (HSA.out _ HSS.out HXX.out).mono ?_
        rintro e w12 ⟨rfl, hb12⟩
        clear c0 c1 c2 f0 f1 f2 d0 d1 d2 g0 g1 g2
        have r13 := (hb12.block w6.heap.size (by omega)).trans R13'.out
        have HS14 := Lib.hid (HS13.out.below hb12)
        have HB12 := Lib.hid (HB11'.out.trans (hb12.mono HB11'.out.size))
        obtain ⟨⟨c0, c1, c2⟩, f0, f1, f2⟩ := cells3 r13
        clear r13 hb12
        go_wp2_with fail
        refine (HSN.out _ _ _ HS14.out).mono ?_
        rintro e w14 ⟨rfl, hb14⟩
        have HB14 := Lib.hid (HB12.out.trans (hb14.mono HB12.out.size))
        clear hb14 c0 c1 c2 f0 f1 f2
        go_wp2_with fail
        refine (HF.out _).mono ?_
        rintro e w15 ⟨rfl, hb15⟩
        have HB15 := Lib.hid (HB14.out.trans (hb15.mono HB14.out.size))
        clear hb15
        go_wp2
        go_ret
        exact ⟨rfl, HB5.out.trans (HB15.out.mono HB5.out.size)⟩
end Go.Proofs.Ytffgjjhopopgcaa
