/-
  Plain: extents laid one behind the other, with a gap, never clash; of them just those sizes may be that need them all. Condition: at most 8, of 1 to 12 blocks.
-/
import Derived.Test.YtffgjjhopopgcaaIno
namespace Go.Proofs.Ytffgjjhopopgcaa
set_option linter.unusedVariables false
set_option linter.unusedSimpArgs false

/-- The extents so far, where the next one starts, how many blocks there are. -/
structure Seq where
  es : List Ext
  pos : Nat
  all : Nat

def cnt (b : UInt8) : Nat := 1 + b.toNat % 12
def seqStep (s : Seq) (b : UInt8) : Seq := ⟨s.es ++ [⟨s.pos, cnt b⟩], s.pos + cnt b + 1, s.all + cnt b⟩
def seqOf (l : List UInt8) : Seq := l.foldl seqStep ⟨[], 0, 0⟩

theorem seqOf_snoc (l : List UInt8) (b : UInt8) : seqOf (l ++ [b]) = seqStep (seqOf l) b := by simp [seqOf]
theorem cnt_bounds (b : UInt8) : 1 ≤ cnt b ∧ cnt b ≤ 12 := by unfold cnt; omega

theorem blkGo_append (e : List Ext) (x : Ext) : ∀ (p : List Ext) (n : Int), 0 ≤ n → blkGo p e n ≠ -1 → blkGo p (e ++ [x]) n = blkGo (p ++ e) [x] (blkGo p e n) := by
  induction e with
  | nil => intro p n _ _; simp [blkGo]
  | cons y e ih =>
    intro p n hn h
    rw [List.cons_append]
    unfold blkGo at h
    split at h
    · rename_i hc
      have hc' := hc
      simp only [Bool.and_eq_true, Bool.not_eq_true'] at hc'
      have h1 := (extOk_iff y).1 hc'.1
      rw [blkGo_cons _ _ _ _ hc'.1 hc'.2, blkGo_cons _ _ _ _ hc'.1 hc'.2, ih _ _ (by omega) h, List.append_assoc]
      rfl
    · exact absurd rfl h

structure SeqOk (n : Nat) (s : Seq) : Prop where
  len : s.es.length = n
  pos : s.pos ≤ 13 * n
  all : s.all ≤ 12 * n
  low : n ≤ s.all
  blk : blk s.es = s.all
  ends : ∀ x ∈ s.es, 0 ≤ x.first ∧ x.first + x.count < s.pos

theorem seqOk_zero : SeqOk 0 ⟨[], 0, 0⟩ := ⟨rfl, by simp, by simp, by simp, rfl, by simp⟩

theorem SeqOk.step {n : Nat} {s : Seq} (h : SeqOk n s) (hn : n < 8) (b : UInt8) : SeqOk (n + 1) (seqStep s b) := by
  obtain ⟨h1, h2, h3, h4, h5, h6⟩ := h
  obtain ⟨b1, b2⟩ := cnt_bounds b
  have hok : extOk ⟨s.pos, cnt b⟩ = true := by
    rw [extOk_iff]
    simp only
    omega
  have hcl : clash s.es ⟨s.pos, cnt b⟩ = false := by
    unfold clash
    rw [List.any_eq_false]
    intro y hy
    have := h6 y hy
    simp only [meets, Bool.and_eq_true, decide_eq_true_eq]
    omega
  refine ⟨by simp [seqStep, h1], by simp only [seqStep]; omega, by simp only [seqStep]; omega, by simp only [seqStep]; omega, ?_, ?_⟩
  · unfold Go.Proofs.Ytffgjjhopopgcaa.blk at h5 ⊢
    simp only [seqStep]
    rw [blkGo_append _ _ _ _ (by omega) (by rw [h5]; omega), List.nil_append, h5, blkGo_cons _ _ _ _ hok hcl]
    simp [blkGo]
  · intro x hx
    simp only [seqStep, List.mem_append, List.mem_singleton] at hx ⊢
    rcases hx with hx | rfl
    · have := h6 x hx
      omega
    · simp only
      omega

theorem seqOk_of (l : List UInt8) : ∀ k, k ≤ l.length → k ≤ 8 → SeqOk k (seqOf (l.take k)) := by
  intro k
  induction k with
  | zero => intro _ _; simpa [seqOf] using seqOk_zero
  | succ k ih =>
    intro hk h8
    rw [List.take_succ_eq_append_getElem (by omega), seqOf_snoc]
    exact (ih (by omega) (by omega)).step (by omega) _

/-- Of them just those sizes may be that need them all. -/
theorem sizes_check {n : Nat} {s : Seq} (h : SeqOk n s) (hn : n ≤ 8) (nm : ByteArray) (h1 : 1 ≤ nm.size) (h2 : nm.size ≤ 96) (z : Int) (z0 : 0 ≤ z) (z1 : z ≤ 65536) :
    (inoCheck ⟨nm, z, s.es⟩ == 0) = (decide (z ≤ 512 * (s.all : Int)) && decide (512 * ((s.all : Int) - 1) < z)) := by
  have hok : inoOk ⟨nm, z, s.es⟩ = (decide (z ≤ 512 * (s.all : Int)) && decide (512 * ((s.all : Int) - 1) < z)) := by
    rw [Bool.eq_iff_iff, inoOk_iff]
    simp only [Bool.and_eq_true, decide_eq_true_eq, h.blk, h.len]
    unfold blocksOf
    constructor
    · rintro ⟨_, _, _, _, _, hb⟩
      split at hb <;> omega
    · intro hb
      refine ⟨h1, h2, z0, z1, hn, ?_⟩
      split <;> omega
  unfold inoCheck
  rw [hok]
  cases (decide (z ≤ 512 * (s.all : Int)) && decide (512 * ((s.all : Int) - 1) < z)) <;> rfl
end Go.Proofs.Ytffgjjhopopgcaa
