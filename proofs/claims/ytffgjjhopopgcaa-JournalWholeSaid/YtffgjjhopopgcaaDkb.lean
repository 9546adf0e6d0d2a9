/-
  The walks of settle, Crash and Flush.
-/
import Derived.Test.YtffgjjhopopgcaaDka
namespace Go.Proofs.Ytffgjjhopopgcaa
set_option linter.unusedVariables false
set_option linter.unusedSimpArgs false
open Go.RowKit
set_option maxRecDepth 100000
set_option maxHeartbeats 2000000

theorem Dk.settle_snoc (which : Nat → Bool) (x : Wr) : ∀ (l : List Wr) (i : Nat) (s : List ByteArray), Dk.settle which i (l ++ [x]) s = if which (i + l.length) then (Dk.settle which i l s).set x.sec.toNat x.data else Dk.settle which i l s := by
  intro l
  induction l with
  | nil => intro i s; simp [Dk.settle]
  | cons y l ih => intro i s; simp only [List.cons_append, Dk.settle, ih, List.length_cons]; rw [show i + 1 + l.length = i + (l.length + 1) by omega]

/-- Behind i rounds of settle. -/
def Dk.part (which : Nat → Bool) (i : Nat) (D : Dk) : Dk := { D with sure := Dk.settle which 0 (D.loose.take i) D.sure }
theorem Dk.part_zero (which : Nat → Bool) (D : Dk) : D.part which 0 = D := by simp [Dk.part, Dk.settle]
theorem Dk.part_succ (which : Nat → Bool) (D : Dk) (i : Nat) (h : i < D.loose.length) : D.part which (i + 1) = if which i then { D.part which i with sure := (D.part which i).sure.set D.loose[i].sec.toNat D.loose[i].data } else D.part which i := by
  unfold Dk.part
  rw [List.take_succ_eq_append_getElem h, Dk.settle_snoc]
  simp only [List.length_take, Nat.zero_add, Nat.min_eq_left (Nat.le_of_lt h)]
  split <;> rfl
theorem Dk.part_length (which : Nat → Bool) (D : Dk) (i : Nat) : (D.part which i).sure.length = D.sure.length := Dk.settle_length _ _ _ _

theorem settle_any {w : World} {K : Nat → Prop} {p : Nat} {D : Dk} (h : DiskW w K p D) (k : Nat) (caps : Array Value) (which : Nat → Bool) (he : ∀ args w, (callFunc k args).run Try.prog w = .ok (.enter k args) w)
    (hf : ∀ (i : Nat) (wr : World), i < D.loose.length → Kept K w wr → Calls Try.prog k (#[.int .i64 i] ++ caps) wr (Ret wr (.bool (which i)))) :
    Calls Try.prog 65 #[.pointer (some ⟨p, 0, none⟩), .func (.func k) #[] caps] w (fun e w' => (∃ v, e = .returned v) ∧ DiskW w' K p (D.settled which) ∧ Kept K w w') := by
  obtain ⟨ok, gs, cs, vl, ak, ck, h⟩ := h
  have HF := Lib.hid hf
  have hm := ok.many
  have HR := Lib.hid h
  obtain ⟨⟨c0, c1, c2, c3, c4, c5, c6⟩, f0, f1, f2, f3, f4, f5, f6⟩ := cells7 h.row
  obtain ⟨al, cl, rfl⟩ := row_slice h.loose
  clear hf
  go_enter Try.func65, Try.ntmps65
  go_wp2
  go_loopw [11] (fun i wr => ∃ (k : Nat), k ≤ D.loose.length ∧ i = .int .i64 k ∧ DiskRows wr K p gs cs (.slice al D.loose.length cl) ak ck (D.part which k) ∧ Kept K w wr) (fun i _ => D.loose.length - (intOf i).toNat)
  case atStart => exact ⟨0, by omega, rfl, by rw [Dk.part_zero]; exact HR.out, Kept.refl _ _⟩
  case round =>
    obtain ⟨i, hi, rfl, hr, hk⟩ := hrel
    by_cases hlt : i < D.loose.length
    · obtain ⟨b, off, rfl, g1', g2'⟩ := slW_of_owns hr.loose i hlt
      have g1 : wr.cell? ⟨b, off + i * 2, none⟩ = some (.int .i64 D.loose[i].sec) := g1'
      have g2 : wr.cell? ⟨b, off + i * 2 + 1, none⟩ = some (.string D.loose[i].data) := g2'
      clear g1' g2'
      have hx := ok.loose D.loose[i] (List.getElem_mem _)
      have hps := Dk.part_succ which D i hlt
      generalize D.loose[i] = x at *
      obtain ⟨sec, data⟩ := x
      simp only at hx g1 g2 hps
      obtain ⟨n, rfl⟩ : ∃ n : Nat, sec = n := ⟨sec.toNat, by omega⟩
      have HP := Lib.hid hps
      have HX := Lib.hid hx
      have hlt1 := hr.p_lt
      have hb1 := (Below.refl wr.heap.size wr).alloc (Nat.le_refl _) (.cells #[.int .i64 (n : Int), .string data] 59)
      have hnew := heap_alloc_last wr (.cells #[.int .i64 (n : Int), .string data] 59)
      have hk1 := hk.trans (Kept.of_below hb1 hr.old)
      have HR1 := Lib.hid (hr.below hb1)
      have HC := HF.out i _ hlt hk1
      have HK1 := Lib.hid hk1
      have HN := Lib.hid hnew
      have hs1 : (wr.alloc (.cells #[.int .i64 (n : Int), .string data] 59)).heap.size = wr.heap.size + 1 := by simp
      clear hps hx hb1 hnew hk1 c0 c1 c2 c3 c4 c5 c6 f0 f1 f2 f3 f4 f5 f6 hk hr
      cases hw : which i with
      | false =>
        rw [hw] at HC
        go_wp2_with (refine HC.mono ?_; rintro e w2 ⟨rfl, hb2⟩)
        go_roundw
        case rel => exact ⟨i + 1, by omega, by go_num, by rw [HP.out, hw]; exact HR1.out.below hb2, HK1.out.trans (Kept.of_below hb2 HR1.out.old)⟩
        case measure => simp [intOf]; omega
      | true =>
        rw [hw] at HC
        go_wp2_with (refine HC.mono ?_; rintro e w2 ⟨rfl, hb2⟩)
        have hr2 := HR1.out.below hb2
        have hk2 := HK1.out.trans (Kept.of_below hb2 HR1.out.old)
        have hn2 := (hb2.block _ (by omega)).trans HN.out
        obtain ⟨n0, n1⟩ := cells2' hn2
        obtain ⟨⟨c0, c1, c2, c3, c4, c5, c6⟩, f0, f1, f2, f3, f4, f5, f6⟩ := cells7 hr2.row
        rw [Dk.part_length] at c0
        have hfz := hr2.sure.frozenAt n
        have hcl := hr2.sure.cellAt n (by rw [Dk.part_length]; have := HX.out; omega)
        have hx2 := HX.out.2.1
        clear c1 c2 c3 c4 c5 c6 f1 f2 f3 f4 f5 f6
        have HR2 := Lib.hid hr2
        have HK2 := Lib.hid hk2
        clear hr2 hk2 hn2 HK1 HR1 HN
        refine wp_region_rr 8 (fun w' => Below w2.heap.size w2 w') (by kernel_rfl) (by kernel_rfl) (Below.refl _ _).drew ?_
        iterate 8
          (apply RR_run
           focus rfl
           focus
             intro w3 hS
             have c0 := (hS.cell (p := ⟨p, 0, none⟩) HR2.out.p_lt).trans c0
             have n0 := (hS.cell (p := ⟨wr.heap.size, 0, none⟩) (World.block_lt_of_cell? w2 _ n0)).trans n0
             have n1 := (hS.cell (p := ⟨wr.heap.size, 1, none⟩) (World.block_lt_of_cell? w2 _ n1)).trans n1
             go_wp2
             exact ⟨rfl, hS⟩
           focus exact ⟨_, rfl⟩)
        refine RR_end fun w3 hS => ?_
        have hr3 := HR2.out.below hS
        have hk3 := HK2.out.trans (Kept.of_below hS HR2.out.old)
        have hfz := (hS.frozen (p := ⟨gs, n, none⟩) HR2.out.gs_lt).trans hfz
        have hcl := (hS.cell (p := ⟨gs, n, none⟩) HR2.out.gs_lt).trans hcl
        clear c0 n0 n1 hS HR2 HK2
        obtain ⟨u, hu⟩ : ∃ u, w3.cell? ⟨gs, n, none⟩ = some u := by
          rw [hcl]
          have : n < ((Dk.part which i D).sure.map Value.string).length := by rw [List.length_map, Dk.part_length]; have := HX.out; omega
          exact ⟨_, List.getElem?_eq_getElem this⟩
        have HR3 := Lib.hid (hr3.sured n data)
        have HK3 := Lib.hid (hk3.trans (Kept.setCell (p := ⟨gs, n, none⟩) _ hr3.kg (.string data)))
        clear hcl hr3 hk3
        go_wp2
        go_roundw
        case rel => exact ⟨i + 1, by omega, by go_num, by rw [HP.out, hw]; exact HR3.out, HK3.out⟩
        case measure => simp [intOf]; omega
    · obtain rfl : i = D.loose.length := by omega
      have hst := heap_setCell_same wr p 1 _ 103 (.slice none 0 0) hr.row
      have hkl := hr.kl
      clear c0 c1 c2 c3 c4 c5 c6 f0 f1 f2 f3 f4 f5 f6
      obtain ⟨⟨c0, c1, c2, c3, c4, c5, c6⟩, f0, f1, f2, f3, f4, f5, f6⟩ := cells7 hr.row
      have HR2 := Lib.hid hr
      clear hr
      go_wp2
      go_end0
      refine ⟨⟨_, rfl⟩, ⟨ok.settled which, gs, cs, .slice none 0 0, ak, ck, HR2.out.loosed (D' := D.settled which) ?_ (by simp) (fun b h1 h2 _ => Below.heap_setCell _ _ _ _ h1) ?_ ?_ ?_ ?_⟩, hk.trans (Kept.setCell _ HR2.out.kp _)⟩
      · exact hst
      · exact World.ownsRow_nil _ _ _ _
      · intro g e; cases e
      · simp [Dk.settled, Dk.part]
      · rfl
theorem all_any (i : Int) (w : World) : Calls Try.prog 82 #[.int .i64 i] w (Ret w (.bool true)) := by
  go_enter Try.func82, Try.ntmps82
  go_wp2
  go_ret
  exact ⟨rfl, Below.refl _ _⟩

theorem kept_any (i : Nat) (a : Option Addr) (c : Nat) (keep : List Bool) (bx : Nat) (w : World) (hx : w.cell? ⟨bx, 0, none⟩ = some (.slice a keep.length c)) (hs : SlO w a keep) :
    Calls Try.prog 66 #[.int .i64 i, .pointer (some ⟨bx, 0, none⟩)] w (Ret w (.bool (keep.getD i false))) := by
  go_enter Try.func66, Try.ntmps66
  by_cases h : i < keep.length
  · have hd : decide ((i : Int) < (keep.length : Int)) = true := by simp; omega
    obtain ⟨b, off, rfl, g⟩ := hs i h
    have hg : keep.getD i false = keep[i] := by simp [List.getD, List.getElem?_eq_getElem h]
    rw [hg]
    go_wp2
    go_ret
    exact ⟨rfl, Below.refl _ _⟩
  · have hd : decide ((i : Int) < (keep.length : Int)) = false := by simp; omega
    have hg : keep.getD i false = false := by simp [List.getD, List.getElem?_eq_none (show keep.length ≤ i by omega)]
    rw [hg]
    go_wp2
    go_ret
    exact ⟨rfl, Below.refl _ _⟩
end Go.Proofs.Ytffgjjhopopgcaa
