/-
  The walks of Crash, Flush, Write and Fail.
-/
import Derived.Test.YtffgjjhopopgcaaDkb
import Derived.Shelf.Abstract
namespace Go.Proofs.Ytffgjjhopopgcaa
set_option linter.unusedVariables false
set_option linter.unusedSimpArgs false
open Go.RowKit
set_option maxRecDepth 100000
set_option maxHeartbeats 2000000

theorem enters66 : ∀ args w, (callFunc 66 args).run Try.prog w = .ok (.enter 66 args) w := enters_of Try.func66 (by kernel_rfl) rfl
theorem enters82 : ∀ args w, (callFunc 82 args).run Try.prog w = .ok (.enter 82 args) w := enters_of Try.func82 (by kernel_rfl) rfl

theorem SlO.block2 {w w1 : World} {a : Option Addr} {l : List Bool} (h : SlO w a l) (hb : ∀ ad, a = some ad → l ≠ [] → w1.heap[ad.block]? = w.heap[ad.block]?) : SlO w1 a l := fun k hk => by
  obtain ⟨b, off, rfl, h1⟩ := h k hk
  exact ⟨b, off, rfl, (World.cell?_of_block (w := w) (a := ⟨b, off + k, none⟩) (hb ⟨b, off, none⟩ rfl (List.ne_nil_of_length_pos (by omega)))).trans h1⟩
theorem crashW_any {w : World} {K : Nat → Prop} {p : Nat} {D : Dk} (h : DiskW w K p D) (hd : D.down = false) (a : Option Addr) (c : Nat) (keep : List Bool) (hs : SlO w a keep) (hK : ∀ ad, a = some ad → keep ≠ [] → K ad.block) :
    Calls Try.prog 28 #[.pointer (some ⟨p, 0, none⟩), .slice a keep.length c] w (RetD w K p (.int .i64 0) (D.crashed keep)) := by
  have hb1 := (Below.refl w.heap.size w).alloc (Nat.le_refl _) (.cells #[.slice a keep.length c] 48)
  have hn := heap_alloc_last w (.cells #[.slice a keep.length c] 48)
  have h1 := h.fresh hb1
  have hs1 : SlO (w.alloc (.cells #[.slice a keep.length c] 48)) a keep := hs.below hb1
  have hsz : (w.alloc (.cells #[.slice a keep.length c] 48)).heap.size = w.heap.size + 1 := by simp
  have HB := Lib.hid hb1
  have HO := Lib.hid h.old
  have HW := Lib.hid h.1
  clear hs
  have HCH := Lib.hid (dcheck_any (h1.mono (K' := K) fun b hb => .inl hb))
  simp only [Dk.errno, hd] at HCH
  clear h hb1
  go_enter Try.func28, Try.ntmps28
  go_wp2_with fail
  generalize w.alloc (.cells #[.slice a keep.length c] 48) = W at *
  have HSE := Lib.hid (settle_any h1 66 #[.pointer (some ⟨w.heap.size, 0, none⟩)] (fun i => keep.getD i false) enters66 (fun i wr hi hk => by
    refine kept_any i a c keep w.heap.size wr ?_ (hs1.block2 fun ad e hne => hk.block _ (.inl (hK ad e hne)))
    rw [hk.cell (p := ⟨w.heap.size, 0, none⟩) (.inr ⟨Nat.le_refl _, by simp only; omega⟩), cell_of_row _ _ _ _ _ _ hn]
    rfl))
  clear h1 hs1 hn
  go_wp2_with (first | (refine HCH.out.mono ?_; rintro e w1 ⟨rfl, rfl⟩) | (refine HSE.out.mono ?_; rintro e w2 ⟨⟨v, rfl⟩, ⟨ok, gs, cs, vl, ak, ck, hr⟩, hk⟩; clear HCH HSE; have HR := Lib.hid hr; have HK := Lib.hid hk; have HOK := Lib.hid ok; have g1 := heap_setCell_same _ p 2 _ 103 (.bool true) hr.row; have g2 := heap_setCell_same _ p 4 _ 103 (.bool false) g1; have g3 := Lib.hid (heap_setCell_same _ p 6 _ 103 (.slice none 0 0) g2); clear g1 g2; obtain ⟨⟨c0, c1, c2, c3, c4, c5, c6⟩, f0, f1, f2, f3, f4, f5, f6⟩ := cells7 hr.row; clear hr hk))
  go_ret
  refine ⟨rfl, ⟨HW.out.crashed keep, gs, cs, vl, none, 0, DiskRows.kept (D' := D.crashed keep) (HR.out.blocks (K' := K) (Nat.le_refl _) (fun _ _ _ => rfl) (fun _ _ => rfl) fun b hb => ⟨HR.out.old b (.inl hb), .inl (.inl hb)⟩) ?_ (by simp) (fun b h1 _ => ?_) ?_ ?_ rfl rfl⟩, ?_⟩
  · exact g3.out
  · rw [Below.heap_setCell _ _ _ _ h1, Below.heap_setCell _ _ _ _ h1, Below.heap_setCell _ _ _ _ h1]
  · intro k hk; simp [Dk.crashed] at hk
  · intro a e; cases e
  · have hp : ¬ K p := fun h => HR.out.kp (.inl h)
    exact (Kept.of_below HB.out HO.out).trans ((HK.out.mono fun b hb => .inl hb).trans ((Kept.setCell (p := ⟨p, 2, none⟩) _ hp _).trans ((Kept.setCell (p := ⟨p, 4, none⟩) _ hp _).trans (Kept.setCell (p := ⟨p, 6, none⟩) _ hp _))))
theorem crash_any {w : World} {K : Nat → Prop} {p : Nat} {D : Dk} (h : DiskAt w K p D) (a : Option Addr) (c : Nat) (keep : List Bool) (hs : SlO w a keep) (hK : ∀ ad, a = some ad → keep ≠ [] → K ad.block) :
    Calls Try.prog 28 #[.pointer (some ⟨p, 0, none⟩), .slice a keep.length c] w (RetD w K p (.int .i64 (D.crash keep).2) (D.crash keep).1) := by
  cases hd : D.down with
  | false =>
    have := crashW_any h.wide hd a c keep hs hK
    simpa [Dk.crash, hd] using this
  | true =>
    have hb1 := (Below.refl w.heap.size w).alloc (Nat.le_refl _) (.cells #[.slice a keep.length c] 48)
    have hCH := Lib.hid (dcheck_any (h.below hb1).wide)
    simp only [Dk.errno, hd, if_true] at hCH
    have HH := Lib.hid (h.below hb1)
    have HK := Lib.hid (Kept.of_below hb1 h.old)
    go_enter Try.func28, Try.ntmps28
    go_wp2_with (refine hCH.out.mono ?_; rintro e w1 ⟨rfl, rfl⟩)
    go_ret
    exact ⟨by simp [Dk.crash, hd], by simpa [Dk.crash, hd] using HH.out, HK.out⟩

theorem DiskRows.addKeep {w : World} {K : Nat → Prop} {p gs cs : Nat} {vl : Value} {ak : Option Addr} {ck : Nat} {D : Dk} (h : DiskRows w K p gs cs vl ak ck D) :
    DiskRows w (fun b => K b ∨ ∃ ad, ak = some ad ∧ b = ad.block) p gs cs vl ak ck D := by
  refine ⟨fun b hb => ?_, h.row, h.sure, h.loose, h.keep, ?_, ?_, fun g e => ⟨?_, (h.kl g e).2⟩, h.gp, h.kk⟩
  · rcases hb with hb | ⟨ad, e, rfl⟩
    · exact h.old b hb
    · exact (h.kk ad e).2.2.2
  · rintro (hb | ⟨ad, e, e2⟩)
    · exact h.kp hb
    · exact (h.kk ad e).1 e2.symm
  · rintro (hb | ⟨ad, e, e2⟩)
    · exact h.kg hb
    · exact (h.kk ad e).2.1 e2.symm
  · rintro (hb | ⟨ad, e2, e3⟩)
    · exact (h.kl g e).1 hb
    · exact (h.kk ad e2).2.2.1 g e e3.symm

theorem crashK_any {w : World} {K : Nat → Prop} {p gs cs : Nat} {vl : Value} {ak : Option Addr} {ck : Nat} {D : Dk} (ok : D.Okw) (h : DiskRows w K p gs cs vl ak ck D) (hd : D.down = false) :
    Calls Try.prog 28 #[.pointer (some ⟨p, 0, none⟩), .slice ak D.keep.length ck] w (RetD w K p (.int .i64 0) (D.crashed D.keep)) :=
  (crashW_any ⟨ok, gs, cs, vl, ak, ck, h.addKeep⟩ hd ak ck D.keep h.keep fun ad e _ => .inr ⟨ad, e, rfl⟩).mono fun e w' ⟨he, h1, h2⟩ => ⟨he, h1.mono fun b hb => .inl hb, h2.mono fun b hb => .inl hb⟩

theorem Dk.due_down (D : Dk) : D.due.down = D.down := by unfold Dk.due; split <;> rfl
theorem Dk.due_keep (D : Dk) : D.due.keep = D.keep := by unfold Dk.due; split <;> rfl
theorem Dk.due_loose (D : Dk) : D.due.loose = D.loose := by unfold Dk.due; split <;> rfl
theorem Dk.due_sure (D : Dk) : D.due.sure = D.sure := by unfold Dk.due; split <;> rfl

theorem flush_any {w : World} {K : Nat → Prop} {p : Nat} {D : Dk} (h : DiskAt w K p D) : Calls Try.prog 60 #[.pointer (some ⟨p, 0, none⟩)] w (RetD w K p (.int .i64 D.flush.2) D.flush.1) := by
  have hCH := Lib.hid (dcheck_any h.wide)
  have HDU := Lib.hid (due_any h)
  have HH := Lib.hid h
  clear h
  go_enter Try.func60, Try.ntmps60
  cases hd : D.down with
  | true =>
    simp only [Dk.errno, hd, if_true] at hCH
    go_wp2_with (refine hCH.out.mono ?_; rintro e w1 ⟨rfl, rfl⟩)
    go_ret
    exact ⟨by simp [Dk.flush, hd], by simpa [Dk.flush, hd] using HH.out, Kept.refl _ _⟩
  | false =>
    simp only [Dk.errno, hd] at hCH
    cases hn : D.dueNow with
    | true =>
      rw [hn] at HDU
      go_wp2_with (first | ((with_reducible refine hCH.out.mono ?_); rintro e w1 ⟨rfl, rfl⟩) | ((with_reducible refine HDU.out.mono ?_); rintro e w1 ⟨rfl, ⟨ok, gs, cs, vl, ak, ck, hr⟩, hk⟩; have HC := Lib.hid (crashK_any ok hr ((Dk.due_down D).trans hd)); have HK := Lib.hid hk; have HR := Lib.hid hr; obtain ⟨⟨c0, c1, c2, c3, c4, c5, c6⟩, f0, f1, f2, f3, f4, f5, f6⟩ := cells7 hr.row; clear hr hk) | ((with_reducible refine HC.out.mono ?_); rintro e w2 ⟨rfl, hd2, hk2⟩))
      go_ret
      exact ⟨by simp [Dk.flush, hd, hn], by rw [Dk.due_keep] at hd2; simpa [Dk.flush, hd, hn] using hd2, HK.out.trans hk2⟩
    | false =>
      rw [hn] at HDU
      go_wp2_with (first | ((with_reducible refine hCH.out.mono ?_); rintro e w1 ⟨rfl, rfl⟩) | ((with_reducible refine HDU.out.mono ?_); rintro e w1 ⟨rfl, hr, hk⟩; have HK := Lib.hid hk; have HS := Lib.hid (settle_any hr 82 #[] (fun _ => true) enters82 (fun i wr _ _ => all_any i wr)); clear hr hk) | ((with_reducible refine HS.out.mono ?_); rintro e w2 ⟨⟨v, rfl⟩, hd2, hk2⟩))
      go_ret
      exact ⟨by simp [Dk.flush, hd, hn], by simpa [Dk.flush, hd, hn] using (show DiskAt w2 K p (D.due.settled fun _ => true) from ⟨(HH.out.1.due hn).settled _, hd2.2⟩), HK.out.trans hk2⟩
theorem info_wr : (Try.prog.info? 59).map (fun i => (i.zero, i.size, i.bytes)) = some (some (.agg #[.int .i64 0, .string ⟨#[]⟩]), 2, 24) := by kernel_rfl

/-- Behind an append and a store: the disk has one loose write more. -/
theorem DiskRows.pushed {w wa w3 : World} {K : Nat → Prop} {p gs cs : Nat} {vl v' : Value} {ak : Option Addr} {ck : Nat} {D D' : Dk} (h : DiskRows w K p gs cs vl ak ck D) (ha : Below w.heap.size w wa) (hg : wa.grownBy w3 vl.ownBlock)
    (hv : v'.ownBlock = vl.ownBlock ∨ v'.ownBlock = some wa.heap.size) (hown : w3.ownsRow 0 59 2 v' D'.loose.length (wrV D'.loose))
    (e : D'.sure = D.sure ∧ D'.keep = D.keep ∧ D'.down = D.down ∧ D'.starts = D.starts ∧ D'.fails = D.fails ∧ D'.left = D.left) : DiskRows (w3.setCell ⟨p, 1, none⟩ v') K p gs cs v' ak ck D' ∧ Kept K w (w3.setCell ⟨p, 1, none⟩ v') ∧ w3.heap[p]? = w.heap[p]? := by
  obtain ⟨e1, e2, e3, e4, e5, e6⟩ := e
  have hp : vl.ownBlock ≠ some p := fun e => (h.kl p e).2.1 rfl
  have hb3 : w3.heap[p]? = w.heap[p]? := (hg.block p (by have := h.p_lt; have := ha.size; omega) (fun e => hp e.symm)).trans (ha.block p h.p_lt)
  have hrow := heap_setCell_same w3 p 1 _ 103 v' (hb3.trans h.row)
  refine ⟨h.loosed (D' := D') ?_ ?_ ?_ ?_ ?_ e1 e2, ?_, hb3⟩
  · rw [hrow, e3, e4, e5, e6]
    rfl
  · have := ha.size; have := hg.size; simp; omega
  · intro b h1 h2 h3
    rw [Below.heap_setCell _ _ _ _ h1, hg.block b (by have := ha.size; omega) (fun e => h2 e.symm), ha.block b h3]
  · refine row_block hown fun g e => Below.heap_setCell _ _ _ _ fun e2 => ?_
    simp only at e2
    subst e2
    rcases hv with h1 | h1
    · exact hp (h1 ▸ e)
    · rw [h1] at e
      cases e
      have := h.p_lt
      have := ha.size
      omega
  · intro g e
    rcases hv with h1 | h1
    · exact .inl (h1 ▸ e)
    · rw [h1] at e
      cases e
      exact .inr ha.size
  · have hk1 := Kept.of_below (K := K) ha h.old
    refine hk1.trans ((Kept.grown hg (fun b hb => by have := h.old b hb; have := ha.size; omega) fun k e => (h.kl k e).1).trans (Kept.setCell _ h.kp _))

theorem write_good {w : World} {K : Nat → Prop} {p : Nat} {D : Dk} (h : DiskAt w K p D) (hd : D.down = false) (n : Nat) (s : ByteArray) (hn : n < D.sure.length) (hs : s.size = 512) (hm : D.loose.length < 1000000000000) :
    Calls Try.prog 58 #[.pointer (some ⟨p, 0, none⟩), .int .i64 n, .string s] w (RetD w K p (.int .i64 (if D.dueNow then 61 else 0)) (if D.dueNow then (D.due.wrote n s).crashed D.keep else D.due.wrote n s)) := by
  have hCH := Lib.hid (dcheck_any h.wide)
  have HDU := Lib.hid (due_any h)
  have HOK := Lib.hid h.1
  have h1 : decide ((n : Int) < 0) = false := by simp
  have h2 : decide (D.sure.length ≤ n) = false := by simp; omega
  have h3 : ((s.size : Int) == 512) = true := by simp [hs]
  simp only [Dk.errno, hd] at hCH
  obtain ⟨i0, hi, hz0, hz1, hz2⟩ := info_parts info_wr
  have hz1 := Lib.hid hz1
  have hz2 := Lib.hid hz2
  have hz0 := Lib.hid hz0
  have hi := Lib.hid hi
  obtain ⟨ok, gs, cs, vl, ak, ck, h⟩ := h
  have c0 := (cells7 h.row).1.1
  clear h ok
  generalize hR : (RetD w K p (.int .i64 (if D.dueNow then 61 else 0)) (if D.dueNow then (D.due.wrote n s).crashed D.keep else D.due.wrote n s)) = R
  have HRR := Lib.hid hR
  clear hR
  go_enter Try.func58, Try.ntmps58
  go_wp2_with (((with_reducible refine hCH.out.mono ?_); rintro e w1 ⟨rfl, rfl⟩) )
  refine HDU.out.mono ?_
  rintro e w1 ⟨rfl, ⟨ok1, gs1, cs1, vl1, ak1, ck1, hr⟩, hk⟩
  clear c0 HDU hCH
  obtain ⟨⟨-, c1, -, -, -, -, c6⟩, -, f1, -, -, -, -, -⟩ := cells7 hr.row
  have C6 := Lib.hid c6
  clear c6
  have HR := Lib.hid hr
  have HK := Lib.hid hk
  have HAL := Lib.hid ((Below.refl w1.heap.size w1).alloc (Nat.le_refl _) (.cells #[.int .i64 (n : Int), .string s] 59))
  have hrow := (hr.below HAL.out).loose
  have HWS : (w1.alloc (.cells #[.int .i64 (n : Int), .string s] 59)).heap.size = w1.heap.size + 1 := by simp
  have hlast := heap_alloc_last w1 (.cells #[.int .i64 (n : Int), .string s] 59)
  have hnews : ∀ (j : Nat) (u : Value), [Value.int .i64 (n : Int), .string s][j]? = some u → (w1.alloc (.cells #[.int .i64 (n : Int), .string s] 59)).cell? ((⟨w1.heap.size, 0, none⟩ : Addr).add j) = some u := fun j u hu => by
    rw [Go.WideShapes.add_plain, Nat.zero_add, cell_of_row _ _ _ _ _ _ hlast]
    simpa using hu
  have HN := Lib.hid hnews
  have HROW := Lib.hid hrow
  have hm1 : D.due.loose.length < 1000000000000 := by rw [Dk.due_loose]; exact hm
  have HWV := Lib.hid (show wrV (D.due.wrote n s).loose = wrV D.due.loose ++ [Value.int .i64 (n : Int), .string s] from wrV_snoc D.due.loose ⟨n, s⟩)
  have HWL := Lib.hid (show (D.due.wrote n s).loose.length = D.due.loose.length + 1 by simp [Dk.wrote])
  clear hr hk hrow hlast hnews
  cases hnow : D.dueNow with
  | true =>
    have HCK := Lib.hid (fun w' v' (h : DiskRows w' K p gs1 cs1 v' ak1 ck1 (D.due.wrote n s)) => (crashK_any (HOK.out.duew.wrote (by omega) (by rw [Dk.due_sure]; omega) hs hm1) h ((Dk.due_down D).trans hd) : Calls Try.prog 28 #[.pointer (some ⟨p, 0, none⟩), .slice ak1 D.due.keep.length ck1] w' (RetD w' K p (.int .i64 0) ((D.due.wrote n s).crashed D.due.keep))))
    go_wp2_with (first | (at_builtin; (refine wpList_append_own_at _ rfl _ _ 53 rfl 0 59 i0 _ 2 24 Try.underlying53 hi.out hz0.out hz1.out hz2.out rfl (by decide) _ _ _ rfl HROW.out ⟨w1.heap.size, 0, none⟩ 1 1 [.int .i64 (n : Int), .string s] rfl rfl HN.out (by simp [Value.oneCell']) (by unfold maxLen; omega) (by omega) (by omega) ?_; intro v' w3 hown' hgrow' _ hwh; have hpu := HR.out.pushed (D' := D.due.wrote n s) HAL.out hgrow' hwh (by rw [HWL.out, HWV.out]; exact hown') ⟨rfl, rfl, rfl, rfl, rfl, rfl⟩; obtain ⟨g', cap', rfl⟩ := row_suc hown'; have HPU := Lib.hid hpu.1; have HPK := Lib.hid (HK.out.trans hpu.2.1); have hc1 := (World.cell?_of_block (w := w1) (a := ⟨p, 1, none⟩) hpu.2.2).trans c1; have hc6 := (World.cell?_of_block (w := w1) (a := ⟨p, 6, none⟩) hpu.2.2).trans C6.out; have hf1 := (World.frozen?_of_block (w := w1) (a := ⟨p, 1, none⟩) hpu.2.2).trans f1; clear hpu hown' hgrow' hwh c1 f1)) | (go_at_call 28; refine (HCK.out _ _ HPU.out).mono ?_; rintro e w4 ⟨rfl, hd4, hk4⟩))
    rw [← HRR.out, hnow]
    simp only [if_true]
    rw [show (D.due.wrote (n : Int) s).keep = D.keep from Dk.due_keep D] at hd4
    exact ⟨rfl, hd4, HPK.out.trans hk4⟩
  | false =>
    go_wp2_with (at_builtin; (refine wpList_append_own_at _ rfl _ _ 53 rfl 0 59 i0 _ 2 24 Try.underlying53 hi.out hz0.out hz1.out hz2.out rfl (by decide) _ _ _ rfl HROW.out ⟨w1.heap.size, 0, none⟩ 1 1 [.int .i64 (n : Int), .string s] rfl rfl HN.out (by simp [Value.oneCell']) (by unfold maxLen; omega) (by omega) (by omega) ?_; intro v' w3 hown' hgrow' _ hwh; have hpu := HR.out.pushed (D' := D.due.wrote n s) HAL.out hgrow' hwh (by rw [HWL.out, HWV.out]; exact hown') ⟨rfl, rfl, rfl, rfl, rfl, rfl⟩; obtain ⟨g', cap', rfl⟩ := row_suc hown'; have HPU := Lib.hid hpu.1; have HPK := Lib.hid (HK.out.trans hpu.2.1); have hc1 := (World.cell?_of_block (w := w1) (a := ⟨p, 1, none⟩) hpu.2.2).trans c1; have hc6 := (World.cell?_of_block (w := w1) (a := ⟨p, 6, none⟩) hpu.2.2).trans C6.out; have hf1 := (World.frozen?_of_block (w := w1) (a := ⟨p, 1, none⟩) hpu.2.2).trans f1; clear hpu hown' hgrow' hwh c1 f1))
    rw [← HRR.out, hnow]
    simp only [Bool.false_eq_true, if_false]
    exact ⟨rfl, ⟨(HOK.out.due hnow).wrote (by omega) (by rw [Dk.due_sure]; omega) hs hm1, gs1, cs1, _, ak1, ck1, HPU.out⟩, HPK.out⟩

theorem write_any {w : World} {K : Nat → Prop} {p : Nat} {D : Dk} (h : DiskAt w K p D) (n : Int) (s : ByteArray) (hn : -9223372036854775808 ≤ n ∧ n ≤ 9223372036854775807) (hm : D.loose.length < 1000000000000) :
    Calls Try.prog 58 #[.pointer (some ⟨p, 0, none⟩), .int .i64 n, .string s] w (RetD w K p (.int .i64 (D.write n s).2) (D.write n s).1) := by
  cases hd : D.down with
  | true =>
    have hCH := Lib.hid (dcheck_any h.wide)
    have HH := Lib.hid h
    simp only [Dk.errno, hd, if_true] at hCH
    have e : D.write n s = (D, 61) := by simp [Dk.write, hd]
    rw [e]
    clear h
    go_enter Try.func58, Try.ntmps58
    go_wp2_with (refine hCH.out.mono ?_; rintro e w1 ⟨rfl, rfl⟩)
    go_ret
    exact ⟨rfl, HH.out, Kept.refl _ _⟩
  | false =>
    by_cases hbad : n < 0 ∨ (D.sure.length : Int) ≤ n ∨ s.size ≠ 512
    · have hCH := Lib.hid (dcheck_any h.wide)
      have HH := Lib.hid h
      simp only [Dk.errno, hd] at hCH
      have e : D.write n s = (D, 2) := by simp [Dk.write, hd, hbad]
      rw [e]
      obtain ⟨ok, gs, cs, vl, ak, ck, h⟩ := h
      have c0 := (cells7 h.row).1.1
      clear h e
      go_enter Try.func58, Try.ntmps58
      by_cases h1 : n < 0
      · have h1' : decide (n < 0) = true := by simp [h1]
        clear hbad
        go_wp2_with (refine hCH.out.mono ?_; rintro e w1 ⟨rfl, rfl⟩)
        go_ret
        exact ⟨rfl, HH.out, Kept.refl _ _⟩
      · have h1' : decide (n < 0) = false := by simp; omega
        by_cases h2 : (D.sure.length : Int) ≤ n
        · have h2' : decide ((D.sure.length : Int) ≤ n) = true := by simp [h2]
          clear hbad
          go_wp2_with (refine hCH.out.mono ?_; rintro e w1 ⟨rfl, rfl⟩)
          go_ret
          exact ⟨rfl, HH.out, Kept.refl _ _⟩
        · have h2' : decide ((D.sure.length : Int) ≤ n) = false := by simp; omega
          have h3' : ((s.size : Int) == 512) = false := by
            rcases hbad with h | h | h
            · exact absurd h h1
            · exact absurd h h2
            · simp; omega
          clear hbad
          go_wp2_with (refine hCH.out.mono ?_; rintro e w1 ⟨rfl, rfl⟩)
          go_ret
          exact ⟨rfl, HH.out, Kept.refl _ _⟩
    · have h1 : ¬ n < 0 := fun h => hbad (.inl h)
      have h2 : ¬ (D.sure.length : Int) ≤ n := fun h => hbad (.inr (.inl h))
      have h3 : s.size = 512 := Classical.byContradiction fun h => hbad (.inr (.inr h))
      obtain ⟨m, rfl⟩ : ∃ m : Nat, n = m := ⟨n.toNat, by omega⟩
      have := write_good h hd m s (by omega) h3 hm
      have e : D.write m s = (if D.dueNow then (D.due.wrote m s).crashed D.keep else D.due.wrote m s, if D.dueNow then 61 else 0) := by
        simp only [Dk.write, hd, if_neg hbad]
        cases D.dueNow <;> simp
      rw [e]
      exact this
theorem info_bool : (Try.prog.info? 4).map (fun i => (i.zero, i.size, i.bytes)) = some (some (.bool false), 1, 1) := by kernel_rfl

/-- A slice of bools, cloned. -/
theorem clone_any (w : World) (a : Option Addr) (c : Nat) (l : List Bool) (hl : l.length ≤ 1000000) (hs : SlO w a l) :
    Calls Try.prog 77 #[.slice a l.length c] w (fun e w' => ∃ a' c', e = .returned (.slice a' l.length c') ∧ SlO w' a' l ∧ Below w.heap.size w w' ∧ ∀ ad, a' = some ad → w.heap.size ≤ ad.block ∧ ad.block < w'.heap.size) := by
  obtain ⟨i0, hi, hz0, hz1, hz2⟩ := info_parts info_bool
  have q48 : ∀ (w : World) (a : Option Addr) (n c n' c' : Nat), (binOp .eql 48 (.slice a n c) (.slice none n' c')).run Try.prog w = .ok (.bool a.isNone) w := fun w a n c n' c' => Lib.run_eql_slice_nil w _ _ a n c n' c' Try.underlying48
  cases a with
  | none =>
    have hl0 : l = [] := by
      rcases l with _ | ⟨x, l⟩
      · rfl
      · obtain ⟨b, off, h, _⟩ := hs 0 (by simp)
        cases h
    subst hl0
    go_enter Try.func77, Try.ntmps77
    go_wp2
    go_ret
    exact ⟨none, 0, rfl, fun k hk => by simp at hk, Below.refl _ _, fun ad e => by cases e⟩
  | some ad =>
    have hz1 := Lib.hid hz1
    have hz2 := Lib.hid hz2
    have hz0 := Lib.hid hz0
    have hi := Lib.hid hi
    have hb := Lib.hid ((Below.refl w.heap.size w).alloc (Nat.le_refl _) (.cells #[] 4))
    have hr := Lib.hid (World.ownsRow_made (base := w.heap.size) (e := 4) (size := 1) w #[] 0 (Nat.le_refl _) (by decide) rfl)
    have hn0 : ∀ j u, (l.map Value.bool)[j]? = some u → (w.alloc (.cells #[] 4)).cell? (ad.add j) = some u := fun j u hu => by
      rw [List.getElem?_map] at hu
      obtain ⟨x, hx, rfl⟩ := Option.map_eq_some_iff.1 hu
      obtain ⟨hj, rfl⟩ := List.getElem?_eq_some_iff.1 hx
      obtain ⟨b, off, e, hc⟩ := hs j hj
      cases e
      rw [Go.WideShapes.add_plain]
      exact (hb.out.cell (p := ⟨b, off + j, none⟩) (World.block_lt_of_cell? w _ hc)).trans hc
    have hn := Lib.hid hn0
    clear hn0 hs
    have hsz : (w.alloc (.cells #[] 4)).heap.size = w.heap.size + 1 := by simp
    go_enter Try.func77, Try.ntmps77
    go_wp2_with (at_builtin; go_loud (refine wpList_append_own_at _ rfl _ _ 48 rfl w.heap.size 4 i0 _ 1 1 Try.underlying48 hi.out hz0.out hz1.out hz2.out rfl (by decide) _ _ _ rfl hr.out ad l.length c (l.map Value.bool) rfl (by simp) hn.out (by intro u hu; obtain ⟨x, _, rfl⟩ := List.mem_map.1 hu; rfl) (by unfold maxLen; omega) (by omega) (by omega) ?_; intro v' w3 hown' hgrow' _ hwh; clear hn))
    go_ret
    obtain ⟨a2, c2, rfl⟩ := row_slice hown'
    simp only [Nat.zero_add] at hown' ⊢
    refine ⟨a2, c2, rfl, fun k hk => ?_, hb.out.trans (below_of_grown hgrow' (by omega) fun k e => by cases e; exact Nat.le_refl _), fun x e => ?_⟩
    · rcases hown'.2 with ⟨h1, h2⟩ | ⟨g, cap, cur, hv, hg, hh, r⟩
      · omega
      · cases hv
        have := hown'.cells (g := g) rfl k (.bool l[k]) (by simp [hk])
        rw [Go.WideShapes.add_plain] at this
        exact ⟨g, 0, rfl, this⟩
    · subst e
      have := hown'.lt x.block rfl
      exact this

theorem fail_any {w : World} {K : Nat → Prop} {p : Nat} {D : Dk} (h : DiskAt w K p D) (n : Int) (hn : -9223372036854775808 ≤ n ∧ n ≤ 9223372036854775807) (a : Option Addr) (c : Nat) (keep : List Bool) (hl : keep.length ≤ 1000000) (hs : SlO w a keep) :
    Calls Try.prog 41 #[.pointer (some ⟨p, 0, none⟩), .int .i64 n, .slice a keep.length c] w (RetD w K p (.int .i64 (D.fail n keep).2) (D.fail n keep).1) := by
  have hCH := Lib.hid (dcheck_any h.wide)
  have HH := Lib.hid h
  have HCL := Lib.hid (clone_any w a c keep hl hs)
  cases hd : D.down with
  | true =>
    simp only [Dk.errno, hd, if_true] at hCH
    have e : D.fail n keep = (D, 61) := by simp [Dk.fail, hd]
    rw [e]
    clear h
    go_enter Try.func41, Try.ntmps41
    go_wp2_with (refine hCH.out.mono ?_; rintro e w1 ⟨rfl, rfl⟩)
    go_ret
    exact ⟨rfl, HH.out, Kept.refl _ _⟩
  | false =>
    simp only [Dk.errno, hd] at hCH
    by_cases h1 : n < 0
    · have e : D.fail n keep = (D, 2) := by simp [Dk.fail, hd, h1]
      have h1' : decide (n < 0) = true := by simp [h1]
      rw [e]
      clear h
      go_enter Try.func41, Try.ntmps41
      go_wp2_with (refine hCH.out.mono ?_; rintro e w1 ⟨rfl, rfl⟩)
      go_ret
      exact ⟨rfl, HH.out, Kept.refl _ _⟩
    · have e : D.fail n keep = ({ D with fails := true, left := n, keep := keep }, 0) := by simp [Dk.fail, hd, h1]
      have h1' : decide (n < 0) = false := by simp; omega
      rw [e]
      obtain ⟨ok, gs, cs, vl, ak, ck, h⟩ := h
      have HR := Lib.hid h
      clear h e
      go_enter Try.func41, Try.ntmps41
      go_wp2_with (first | (go_at_call 64; refine hCH.out.mono ?_; rintro e w1 ⟨rfl, rfl⟩) | (go_at_call 77; refine HCL.out.mono ?_; rintro e w1 ⟨a', c', rfl, hs', hb', ha'⟩; have hr1 := HR.out.below hb'; have g1 := heap_setCell_same _ p 4 _ 103 (.bool true) hr1.row; have g2 := heap_setCell_same _ p 5 _ 103 (.int .i64 n) g1; have g3 := heap_setCell_same _ p 6 _ 103 (.slice a' keep.length c') g2; have G3 := Lib.hid g3; have HB := Lib.hid hb'; have HR1 := Lib.hid hr1; have HS := Lib.hid hs'; have HA := Lib.hid ha'; obtain ⟨⟨c0, c1, c2, c3, c4, c5, c6⟩, f0, f1, f2, f3, f4, f5, f6⟩ := cells7 hr1.row; clear g1 g2 g3 hr1 hb' hs' ha'))
      go_ret
      have hp := HR.out.kp
      refine ⟨rfl, ⟨⟨⟨ok.size, ok.sure, ok.loose, ok.starts, by simp only; omega, hl, ok.many⟩, fun _ => by simp only; omega⟩, gs, cs, vl, a', c', DiskRows.kept (D' := { D with fails := true, left := n, keep := keep }) HR.out ?_ ?_ (fun b h1 h2 => ?_) ?_ ?_ rfl rfl⟩, (Kept.of_below HB.out HR.out.old).trans ((Kept.setCell (p := ⟨p, 4, none⟩) _ hp _).trans ((Kept.setCell (p := ⟨p, 5, none⟩) _ hp _).trans (Kept.setCell (p := ⟨p, 6, none⟩) _ hp _)))⟩
      · exact G3.out
      · have := HB.out.size; simpa using this
      · rw [Below.heap_setCell _ _ _ _ h1, Below.heap_setCell _ _ _ _ h1, Below.heap_setCell _ _ _ _ h1, HB.out.block b h2]
      · have hne : ∀ x, a' = some x → x.block ≠ p := fun x e => by
          have := HA.out x e
          have := HR.out.p_lt
          omega
        exact HS.out.block fun x e => by
          rw [Below.heap_setCell _ _ _ _ (hne x e), Below.heap_setCell _ _ _ _ (hne x e), Below.heap_setCell _ _ _ _ (hne x e)]
      · intro x e
        have := HA.out x e
        simpa using this
end Go.Proofs.Ytffgjjhopopgcaa
