/-
  The inode package's Get, Same, slices.Equal and the law's great compute what the plain laws say, for every input of the stated length.
-/
import Derived.Test.YtffgjjhopopgcaaInoR
namespace Go.Proofs.Ytffgjjhopopgcaa
set_option linter.unusedVariables false
set_option linter.unusedSimpArgs false
open Go.RowKit
set_option maxRecDepth 100000
set_option maxHeartbeats 1000000

def RetGet (w : World) (i : Ino) (b : Bool) (n : Int) (e : Ending) (w' : World) : Prop :=
  ∃ a c, e = .returned (.tuple #[.agg #[.string i.name, .int .i64 i.size, .slice a i.exts.length c], .bool b, .int .i64 n]) ∧ SlE w' a i.exts ∧ Below w.heap.size w w'

theorem slE_nil (w : World) (a : Option Addr) : SlE w a [] := fun k hk => by simp at hk

theorem inoGet_len (l : List UInt8) (hl : l.length ≤ 1000000) (h : l.length ≠ 256) (w : World) :
    Calls Try.prog 13 #[.string ⟨l.toArray⟩] w (RetGet w noIno false 10) := by
  have hne : ((l.length : Int) == 256) = false := by simp; omega
  have hne2 : ((l.length : Int) != 256) = true := by simp; omega
  go_enter Try.func13, Try.ntmps13
  go_wp2
  refine bodyPost_ret (v := .tuple #[.agg #[.string ⟨#[]⟩, .int .i64 0, .slice none 0 0], .bool false, .int .i64 10]) (by simp [results, Try.results13, go_sem]) rfl ⟨none, 0, rfl, slE_nil _ _, (Below.refl _ _).alloc (Nat.le_refl _) _⟩

theorem cells3 {w : World} {g : Nat} {v0 v1 v2 : Value} {t : TypeId} (h : w.heap[g]? = some (.cells #[v0, v1, v2] t (0, 0))) :
    (w.cell? ⟨g, 0, none⟩ = some v0 ∧ w.cell? ⟨g, 1, none⟩ = some v1 ∧ w.cell? ⟨g, 2, none⟩ = some v2) ∧ (w.frozen? ⟨g, 0, none⟩ = false ∧ w.frozen? ⟨g, 1, none⟩ = false ∧ w.frozen? ⟨g, 2, none⟩ = false) := by
  refine ⟨⟨?_, ?_, ?_⟩, frozen_of_row _ _ _ _ _ h, frozen_of_row _ _ _ _ _ h, frozen_of_row _ _ _ _ _ h⟩ <;> rw [cell_of_row _ _ _ _ _ _ h] <;> rfl

theorem inoGet_zero (w : World) :
    Calls Try.prog 13 #[.string ⟨(zeros 256).toArray⟩] w (RetGet w noIno false 0) := by
  have hzl : (zeros 256).length = 256 := by simp [zeros]
  have hp := fun w => padded_any ⟨#[]⟩ 256 256 rfl (by decide) (by decide) w
  rw [show padTo 256 (⟨#[]⟩ : ByteArray).data.toList = zeros 256 from rfl] at hp
  have HP := Lib.hid hp
  clear hp
  generalize zeros 256 = l at *
  go_enter Try.func13, Try.ntmps13
  go_wp2_with fail
  refine (HP.out _).mono ?_
  rintro e w1 ⟨rfl, hb⟩
  obtain ⟨⟨c0, c1, c2⟩, f0, f1, f2⟩ := cells3 ((hb.block w.heap.size (by simp)).trans (heap_alloc_last w _))
  have HB := Lib.hid hb
  clear hb
  go_wp2
  refine bodyPost_ret (v := .tuple #[.agg #[.string ⟨#[]⟩, .int .i64 0, .slice none 0 0], .bool false, .int .i64 0]) (by simp [results, Try.results13, go_sem, c0, c1, c2, f0, f1, f2]) rfl ⟨none, 0, rfl, slE_nil _ _, ?_⟩
  have hb := ((Below.refl _ _).alloc (Nat.le_refl _) _).trans (HB.out.mono (by simp))
  exact ((hb.setCell (Nat.le_refl _) _).setCell (Nat.le_refl _) _).setCell (Nat.le_refl _) _

theorem set3 {w : World} {g : Nat} {v0 v1 v2 u0 u1 u2 : Value} {t : TypeId} (h : w.heap[g]? = some (.cells #[v0, v1, v2] t (0, 0))) :
    (((w.setCell ⟨g, 0, none⟩ u0).setCell ⟨g, 1, none⟩ u1).setCell ⟨g, 2, none⟩ u2).heap[g]? = some (.cells #[u0, u1, u2] t (0, 0)) :=
  heap_setCell_same _ g 2 _ t u2 (heap_setCell_same _ g 1 _ t u1 (heap_setCell_same w g 0 _ t u0 h))

theorem inoGet_case (l : List UInt8) (hl : l.length = 256) (z : List UInt8) (hzb : (l == z) = false) (hzl : z.length = 256)
    (HP : Hid (∀ w, Calls Try.prog 43 #[.string ⟨#[]⟩, .int .i64 256] w (Ret w (.string ⟨z.toArray⟩))))
    (nm : ByteArray) (sz : Int) (ex : List Ext) (b1 : nm.size ≤ 96) (b2 : 0 ≤ sz) (b3 : sz < 4294967296) (b4 : ex.length ≤ 8) (HB5 : Hid (ExtsI64 ex))
    (HRD : Hid (∀ w, Calls Try.prog 44 #[.string ⟨l.toArray⟩] w (RetIno w ⟨nm, sz, ex⟩))) (t : List UInt8) (e : Int) (he : e = 0 ∨ e = 2)
    (HPT : Hid (∀ a c w, SlE w a ex → Calls Try.prog 18 #[.agg #[.string nm, .int .i64 sz, .slice a ex.length c]] w (Ret w (.tuple #[.string ⟨t.toArray⟩, .int .i64 e]))))
    (i : Ino) (r : Bool) (n : Int) (hcase : (e = 0 ∧ (t == l) = true ∧ i = ⟨nm, sz, ex⟩ ∧ r = true ∧ n = 0) ∨ ((e = 2 ∨ (t == l) = false) ∧ i = noIno ∧ r = false ∧ n = 10)) (w : World) :
    Calls Try.prog 13 #[.string ⟨l.toArray⟩] w (RetGet w i r n) := by
  have hcs : (e = 0 ∧ (t == l) = true ∧ i = ⟨nm, sz, ex⟩ ∧ r = true ∧ n = 0) ∨ (e = 0 ∧ (t == l) = false ∧ i = noIno ∧ r = false ∧ n = 10) ∨ (e = 2 ∧ i = noIno ∧ r = false ∧ n = 10) := by
    rcases hcase with h | ⟨h, h2⟩
    · exact .inl h
    · rcases he with he | he
      · rcases h with h | h
        · omega
        · exact .inr (.inl ⟨he, h, h2⟩)
      · exact .inr (.inr ⟨he, h2⟩)
  clear hcase he
  rcases hcs with ⟨rfl, htl, rfl, rfl, rfl⟩ | ⟨rfl, htl, rfl, rfl, rfl⟩ | ⟨rfl, rfl, rfl, rfl⟩
  all_goals
    go_enter Try.func13, Try.ntmps13
    go_wp2_with fail
    refine (HP.out _).mono ?_
    rintro e w1 ⟨rfl, hb⟩
    have hh1 := (hb.block w.heap.size (by simp)).trans (heap_alloc_last w _)
    have hlt : w.heap.size < w1.heap.size := by have := hb.size; simp at this; omega
    have hbw := ((Below.refl w.heap.size w).alloc (Nat.le_refl _) (.cells #[.string ⟨#[]⟩, .int .i64 0, .slice none 0 0] 27)).trans (hb.mono (by simp))
    have HB := Lib.hid hbw
    have HH1 := Lib.hid hh1
    clear hb hbw hh1
    go_wp2_with fail
    refine (HRD.out _).mono ?_
    rintro e w2 ⟨a, c, rfl, hsl, hfr, hb2⟩
    have hh2 := (hb2.block w.heap.size hlt).trans HH1.out
    obtain ⟨⟨c0, c1, c2⟩, f0, f1, f2⟩ := cells3 hh2
    have hs2 := hb2.size
    have hne : ∀ ad, a = some ad → w.heap.size ≠ ad.block := fun ad h => by have := hfr ad h; omega
    have HNE := Lib.hid hne
    have HSL := Lib.hid hsl
    have HB2 := Lib.hid (HB.out.trans (hb2.mono (by omega)))
    have HH2 := Lib.hid hh2
    clear hh2 hsl hfr hb2 hne
    go_wp2_with fail
    refine (HPT.out a c _ (((HSL.out.setCell ⟨w.heap.size, 0, none⟩ _ HNE.out).setCell ⟨w.heap.size, 1, none⟩ _ HNE.out).setCell ⟨w.heap.size, 2, none⟩ _ HNE.out)).mono ?_
    rintro e w4 ⟨rfl, hb4⟩
    clear c0 c1 c2 f0 f1 f2
    have hh4 := (hb4.block w.heap.size (by simp; omega)).trans (set3 (u0 := .string nm) (u1 := .int .i64 sz) (u2 := .slice a ex.length c) HH2.out)
    obtain ⟨⟨c0, c1, c2⟩, f0, f1, f2⟩ := cells3 hh4
    have HB4 := Lib.hid ((((HB2.out.setCell (p := ⟨w.heap.size, 0, none⟩) (Nat.le_refl _) (.string nm)).setCell (p := ⟨w.heap.size, 1, none⟩) (Nat.le_refl _) (.int .i64 sz)).setCell (p := ⟨w.heap.size, 2, none⟩) (Nat.le_refl _) (.slice a ex.length c)).trans (hb4.mono (by simp; omega)))
    have HSL4 := Lib.hid ((((HSL.out.setCell ⟨w.heap.size, 0, none⟩ (.string nm) HNE.out).setCell ⟨w.heap.size, 1, none⟩ (.int .i64 sz) HNE.out).setCell ⟨w.heap.size, 2, none⟩ (.slice a ex.length c) HNE.out).below hb4)
    clear hh4 hb4
    go_wp2
    first
    | (refine bodyPost_ret (v := .tuple #[.agg #[.string nm, .int .i64 sz, .slice a ex.length c], .bool true, .int .i64 0]) (by simp [results, Try.results13, go_sem, c0, c1, c2, f0, f1, f2]) rfl ⟨a, c, rfl, ((HSL4.out.setCell _ _ HNE.out).setCell _ _ HNE.out).setCell _ _ HNE.out, ?_⟩; exact ((HB4.out.setCell (Nat.le_refl _) _).setCell (Nat.le_refl _) _).setCell (Nat.le_refl _) _)
    | (refine bodyPost_ret (v := .tuple #[.agg #[.string ⟨#[]⟩, .int .i64 0, .slice none 0 0], .bool false, .int .i64 10]) (by simp [results, Try.results13, go_sem, c0, c1, c2, f0, f1, f2]) rfl ⟨none, 0, rfl, slE_nil _ _, ?_⟩; exact ((HB4.out.setCell (Nat.le_refl _) _).setCell (Nat.le_refl _) _).setCell (Nat.le_refl _) _)

theorem inoGet_any (l : List UInt8) (hl : l.length ≤ 1000000) (w : World) :
    Calls Try.prog 13 #[.string ⟨l.toArray⟩] w (RetGet w (inoGet l) (inoThere l) (inoErr l)) := by
  by_cases h6 : l.length = 256
  · by_cases hz : l = zeros 256
    · have h1 : inoThere l = false := by simp [inoThere, hz]
      have h2 : inoErr l = 0 := by simp [inoErr, hz]
      have h3 : inoGet l = noIno := by simp [inoGet, h1]
      rw [h1, h2, h3, hz]
      exact inoGet_zero w
    · have hthere : inoThere l = (inoOk (readIno l) && decide (inoBytes (readIno l) = l)) := by simp [inoThere, h6, hz]
      have herr : inoErr l = if inoThere l then 0 else 10 := by simp [inoErr, hz]
      have hget : inoGet l = if inoThere l then readIno l else noIno := rfl
      obtain ⟨b1, b2, b3, b4, b5⟩ := readIno_bounds l
      have hp := fun w => padded_any ⟨#[]⟩ 256 256 rfl (by decide) (by decide) w
      rw [show padTo 256 (⟨#[]⟩ : ByteArray).data.toList = zeros 256 from rfl] at hp
      refine inoGet_case l h6 (zeros 256) (by simp [hz]) (by simp [zeros]) (Lib.hid hp) (readIno l).name (readIno l).size (readIno l).exts b1 b2 b3 b4 (Lib.hid b5) (Lib.hid (inoRead_any l h6)) (inoPut (readIno l)) (inoCheck (readIno l)) (by unfold inoCheck; split <;> simp)
        (Lib.hid (fun a c w hx => inoPut_any (readIno l).name (readIno l).size a (readIno l).exts c (by omega) (by omega) (by omega) (by omega) b5 w hx)) (inoGet l) (inoThere l) (inoErr l) ?_ w
      rw [herr, hget, hthere]
      cases hok : inoOk (readIno l) with
      | false => exact .inr ⟨.inl (by simp [inoCheck, hok]), by simp⟩
      | true =>
        by_cases hb : inoBytes (readIno l) = l
        · exact .inl ⟨by simp [inoCheck, hok], by simp [inoPut, hok, hb], by simp [hb], by simp [hb], by simp [hb]⟩
        · exact .inr ⟨.inr (by simp [inoPut, hok, hb]), by simp [hb]⟩
  · have h1 : inoThere l = false := by simp [inoThere, h6]
    have hz : l ≠ zeros 256 := fun e => h6 (by rw [e]; simp [zeros])
    have h2 : inoErr l = 10 := by simp [inoErr, h1, hz]
    have h3 : inoGet l = noIno := by simp [inoGet, h1]
    rw [h1, h2, h3]
    exact inoGet_len l hl h6 w

/-! ### whether two are the same -/
def sameExts (l m : List Ext) : Bool := decide (l = m)
def sameIno (i j : Ino) : Bool := decide (i.name = j.name) && decide (i.size = j.size) && decide (i.exts = j.exts)

section
variable {P : Program} {d : Nat} {xs ys : Array Value} {f : Field} {fs : List Field} {u v : Value} {r s : Bool} {w : World}
theorem eqFields_nil : (Op.eqFields d xs ys []).run P w = .ok true w := by simp [Op.eqFields]
theorem eqFields_cons (hn : (f.name == "_") = false) (hu : (part f.type xs f.offset).run P w = .ok u w) (hv : (part f.type ys f.offset).run P w = .ok v w) (he : (Op.equalIn d f.type u v).run P w = .ok r w)
    (hr : (Op.eqFields d xs ys fs).run P w = .ok s w) : (Op.eqFields d xs ys (f :: fs)).run P w = .ok (r && s) w := by
  have hn' : f.name ≠ "_" := by simpa using hn
  rw [Op.eqFields]
  simp only [if_pos hn', Sem.run_bind, hu, hv, he, Result.andThen_ok]
  cases r
  · simp
  · simpa using hr
theorem eqAgg {t : TypeId} {fs : Array Field} (hu : P.underlying t = some (.struct fs)) (hp : P.stoodInHeld t = false) (h : (Op.eqFields d xs ys fs.toList).run P w = .ok r w) : (Op.equalIn (d + 1) t (.agg xs) (.agg ys)).run P w = .ok r w := by
  have hf : P.fieldsOf t = fs := by simp [Program.fieldsOf, hu]
  rw [run_equalIn_struct (P := P) w d t xs ys (by rw [hf]; exact hu) hp, hf]
  exact h
end

theorem eqExt (d : Nat) (w : World) (x0 y0 x1 y1 : Int) :
    (Op.equalIn (d + 2) 38 (.agg #[.int .i64 x0, .int .i64 x1]) (.agg #[.int .i64 y0, .int .i64 y1])).run Try.prog w = .ok (x0 == y0 && (x1 == y1)) w := by
  have h1 : (x0 == y0 && (x1 == y1)) = (x0 == y0 && ((x1 == y1) && true)) := by simp
  rw [h1]
  refine eqAgg Try.underlying38 (by kernel_rfl) ?_
  refine eqFields_cons (by rfl) (by go_simp; rfl) (by go_simp; rfl) (by go_simp) ?_
  exact eqFields_cons (by rfl) (by go_simp; rfl) (by go_simp; rfl) (by go_simp) eqFields_nil
attribute [local go_sem high] eqExt

theorem equal_any (a : Option Addr) (l : List Ext) (c : Nat) (a2 : Option Addr) (m : List Ext) (c2 : Nat) (hl : l.length * 16 ≤ 140737488351232) (hm : m.length * 16 ≤ 140737488351232) (w : World) (hx : SlE w a l) (hy : SlE w a2 m) :
    Calls Try.prog 54 #[.slice a l.length c, .slice a2 m.length c2] w (Ret w (.bool (decide (l = m)))) := by
  by_cases hlen : l.length = m.length
  · have HX := Lib.hid hx
    have HY := Lib.hid hy
    have HL := Lib.hid hlen
    clear hx hy
    have hne : ((l.length : Int) == (m.length : Int)) = true := by simp [hlen]
    have hne2 : ((l.length : Int) != (m.length : Int)) = false := by simp [hlen]
    clear hlen
    go_enter Try.func54, Try.ntmps54
    go_wp2
    go_loopw [13] (fun i wr => ∃ k : Nat, k ≤ l.length ∧ i = .int .i64 k ∧ l.take k = m.take k ∧ Below w.heap.size w wr) (fun i _ => l.length - (intOf i).toNat)
    case atStart => exact ⟨0, by omega, rfl, rfl, Below.refl _ _⟩
    case round =>
      obtain ⟨k, hk, rfl, heq, hb⟩ := hrel
      by_cases hlk : k < l.length
      · have hmk : k < m.length := by have := HL.out; omega
        obtain ⟨b, off, rfl, g1, g2⟩ := HX.out.below hb k hlk
        obtain ⟨b2, off2, rfl, g3, g4⟩ := HY.out.below hb k hmk
        have hdec : (l[k] = m[k]) ↔ ((l[k].first == m[k].first) = true ∧ (l[k].count == m[k].count) = true) := by
          cases l[k]; cases m[k]; simp
        have htk : l.take (k + 1) = l.take k ++ [l[k]] := List.take_succ_eq_append_getElem hlk
        have htm : m.take (k + 1) = m.take k ++ [m[k]] := List.take_succ_eq_append_getElem hmk
        have hne3 : ¬ (l[k].first == m[k].first) = true ∨ ¬ (l[k].count == m[k].count) = true → decide (l = m) = false := fun h => by
          simp only [decide_eq_false_iff_not]
          intro e
          subst e
          simp at h
        have HD := Lib.hid hdec
        have HTK := Lib.hid htk
        have HTM := Lib.hid htm
        have HN3 := Lib.hid hne3
        have HEQ := Lib.hid heq
        clear hdec htk htm hne3 heq
        cases h1 : (l[k].first == m[k].first) <;> cases h2 : (l[k].count == m[k].count)
        all_goals
          go_wp2
          refine wp_region_rr 9 (fun w' => Below wr.heap.size wr w') (by kernel_rfl) (by kernel_rfl) (Below.refl _ _).drew ?_
          have l1 := World.block_lt_of_cell? wr _ g1
          have l2 := World.block_lt_of_cell? wr _ g3
          simp only at l1 l2
          repeat
            apply RR_run
            focus rfl
            focus
              intro w2 hS
              have e1 := (hS.cell (p := ⟨b, off + k * 2, none⟩) l1).trans g1
              have e2 := (hS.cell (p := ⟨b, off + k * 2 + 1, none⟩) l1).trans g2
              have e3 := (hS.cell (p := ⟨b2, off2 + k * 2, none⟩) l2).trans g3
              have e4 := (hS.cell (p := ⟨b2, off2 + k * 2 + 1, none⟩) l2).trans g4
              go_wp2
              exact ⟨rfl, hS⟩
            focus exact ⟨_, rfl⟩
          refine RR_end fun w2 hS => ?_
          have HS := Lib.hid hS
          clear hS g1 g2 g3 g4
          go_wp2
          first
          | (go_ret
             exact ⟨by rw [HN3.out (by simp [h1, h2])]; rfl, hb.trans (HS.out.mono hb.size)⟩)
          | (go_roundw
             case rel => exact ⟨k + 1, by omega, by go_num, by rw [HTK.out, HTM.out, HEQ.out, HD.out.2 ⟨h1, h2⟩], hb.trans (HS.out.mono hb.size)⟩
             case measure => simp [intOf]; omega)
      · obtain rfl : k = l.length := by omega
        have HF := Lib.hid (show decide (l = m) = true by
          rw [List.take_length, HL.out, List.take_length] at heq
          simpa using heq)
        clear heq
        go_wp2
        go_ret
        exact ⟨by rw [HF.out]; rfl, hb⟩
  · have HF := Lib.hid (show decide (l = m) = false by
      simp only [decide_eq_false_iff_not]
      intro e
      exact hlen (by rw [e]))
    have hne : ((l.length : Int) == (m.length : Int)) = false := by simp; omega
    have hne2 : ((l.length : Int) != (m.length : Int)) = true := by simp; omega
    clear hlen hx hy
    go_enter Try.func54, Try.ntmps54
    go_wp2
    go_ret
    exact ⟨by rw [HF.out]; rfl, Below.refl _ _⟩
theorem toList_beq (a b : ByteArray) : (a.toList == b.toList) = decide (a = b) := by
  rw [← beq_toListBytes]
  rw [Bool.eq_iff_iff, decide_eq_true_eq]
  cases a with | mk x => cases b with | mk y =>
  show ((x == y) = true) ↔ _
  simp

theorem same_any (i j : Ino) (a a2 : Option Addr) (c c2 : Nat) (hi : inI64 i.size) (hj : inI64 j.size) (hl : i.exts.length * 16 ≤ 140737488351232) (hm : j.exts.length * 16 ≤ 140737488351232) (w : World) (hx : SlE w a i.exts) (hy : SlE w a2 j.exts) :
    Calls Try.prog 21 #[.agg #[.string i.name, .int .i64 i.size, .slice a i.exts.length c], .agg #[.string j.name, .int .i64 j.size, .slice a2 j.exts.length c2]] w (Ret w (.bool (sameIno i j))) := by
  obtain ⟨nm, sz, ex⟩ := i
  obtain ⟨nm2, sz2, ex2⟩ := j
  simp only [inI64] at *
  have HF := Lib.hid (show sameIno ⟨nm, sz, ex⟩ ⟨nm2, sz2, ex2⟩ = (decide (nm = nm2) && decide (sz = sz2) && decide (ex = ex2)) from rfl)
  have hb := toList_beq nm nm2
  by_cases h1 : nm = nm2
  · have hb1 : (nm.toList == nm2.toList) = true := by rw [hb]; simp [h1]
    have hd1 := Lib.hid (show decide (nm = nm2) = true by simp [h1])
    clear hb h1
    by_cases h2 : sz = sz2
    · have hb2 : (sz == sz2) = true := by simp [h2]
      have hd2 := Lib.hid (show decide (sz = sz2) = true by simp [h2])
      clear h2
      have hb0 : Below w.heap.size w ((w.alloc (.cells #[.string nm, .int .i64 sz, .slice a ex.length c] 27)).alloc (.cells #[.string nm2, .int .i64 sz2, .slice a2 ex2.length c2] 27)) :=
        ((Below.refl _ _).alloc (Nat.le_refl _) _).alloc (by simp) _
      have HC := Lib.hid (equal_any a ex c a2 ex2 c2 hl hm _ (hx.below hb0) (hy.below hb0))
      have HB0 := Lib.hid hb0
      clear hb0 hx hy
      go_enter Try.func21, Try.ntmps21
      go_wp2_with (go_at_call 54; refine HC.out.mono ?_; rintro e w1 ⟨rfl, h1⟩)
      go_ret
      exact ⟨by rw [HF.out, hd1.out, hd2.out]; rfl, HB0.out.trans (h1.mono (by simp; omega))⟩
    · have hb2 : (sz == sz2) = false := by simp [h2]
      have hd2 := Lib.hid (show decide (sz = sz2) = false by simp [h2])
      clear h2 hx hy
      go_enter Try.func21, Try.ntmps21
      go_wp2
      go_ret
      exact ⟨by rw [HF.out, hd1.out, hd2.out]; rfl, ((Below.refl _ _).alloc (Nat.le_refl _) _).alloc (by simp) _⟩
  · have hb1 : (nm.toList == nm2.toList) = false := by rw [hb]; simp [h1]
    have hd1 := Lib.hid (show decide (nm = nm2) = false by simp [h1])
    clear hb h1 hx hy
    go_enter Try.func21, Try.ntmps21
    go_wp2
    go_ret
    exact ⟨by rw [HF.out, hd1.out]; rfl, ((Below.refl _ _).alloc (Nat.le_refl _) _).alloc (by simp) _⟩

theorem great_any (i : Ino) (a : Option Addr) (c : Nat) (hn : i.name.size ≤ 9223372036854775807) (hl : i.exts.length * 16 ≤ 140737488351232) (w : World) :
    Calls Try.prog 17 #[.agg #[.string i.name, .int .i64 i.size, .slice a i.exts.length c]] w (Ret w (.bool (decide (200 < i.name.size) || decide (20 < i.exts.length)))) := by
  obtain ⟨nm, sz, ex⟩ := i
  simp only at *
  by_cases h1 : 200 < nm.size
  · have HF := Lib.hid (show (decide (200 < nm.size) || decide (20 < ex.length)) = true by simp [h1])
    go_enter Try.func17, Try.ntmps17
    go_wp2
    go_ret
    exact ⟨by first | rfl | (rw [HF.out]; rfl), (Below.refl _ _).alloc (Nat.le_refl _) _⟩
  · have hd0 : decide (200 < (nm.size : Int)) = false := by simp; omega
    by_cases h2 : 20 < ex.length
    · have HF := Lib.hid (show (decide (200 < nm.size) || decide (20 < ex.length)) = true by simp [h2])
      have hd : decide (20 < (ex.length : Int)) = true := by simp; omega
      go_enter Try.func17, Try.ntmps17
      go_wp2
      go_ret
      exact ⟨by first | rfl | (rw [HF.out]; rfl), (Below.refl _ _).alloc (Nat.le_refl _) _⟩
    · have HF := Lib.hid (show (decide (200 < nm.size) || decide (20 < ex.length)) = false by simp; omega)
      have hd : decide (20 < (ex.length : Int)) = false := by simp; omega
      go_enter Try.func17, Try.ntmps17
      go_wp2
      go_ret
      exact ⟨by first | rfl | (rw [HF.out]; rfl), (Below.refl _ _).alloc (Nat.le_refl _) _⟩
end Go.Proofs.Ytffgjjhopopgcaa
