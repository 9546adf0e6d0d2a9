/-
  Inodes, plainly: what may be, the bytes, what is read of bytes. No program in sight.
-/
import Derived.Test.YtffgjjhopopgcaaMath
namespace Go.Proofs.Ytffgjjhopopgcaa
set_option linter.unusedVariables false
set_option linter.unusedSimpArgs false

structure Ext where
  first : Int
  count : Int
deriving DecidableEq

structure Ino where
  name : ByteArray
  size : Int
  exts : List Ext

def extOk (x : Ext) : Bool := decide (0 ≤ x.first) && decide (1 ≤ x.count) && decide (x.first < 4096) && decide (x.count ≤ 4096 - x.first)
def meets (x y : Ext) : Bool := decide (x.first < y.first + y.count) && decide (y.first < x.first + x.count)
def clash (p : List Ext) (x : Ext) : Bool := p.any (meets x)
/-- How many blocks; -1: they may not be. -/
def blkGo (p : List Ext) : List Ext → Int → Int
  | [], n => n
  | x :: r, n => if extOk x && !clash p x then blkGo (p ++ [x]) r (n + x.count) else -1

def blk (l : List Ext) : Int := blkGo [] l 0

theorem extOk_iff (x : Ext) : extOk x = true ↔ 0 ≤ x.first ∧ 1 ≤ x.count ∧ x.first < 4096 ∧ x.count ≤ 4096 - x.first := by
  simp [extOk, and_assoc]

theorem blkGo_cons (p : List Ext) (x : Ext) (r : List Ext) (n : Int) (h1 : extOk x = true) (h2 : clash p x = false) : blkGo p (x :: r) n = blkGo (p ++ [x]) r (n + x.count) := by simp [blkGo, h1, h2]
theorem blkGo_bad (p : List Ext) (x : Ext) (r : List Ext) (n : Int) (h : extOk x = false ∨ clash p x = true) : blkGo p (x :: r) n = -1 := by
  rcases h with h | h <;> simp [blkGo, h]

/-- Is a block one of these? -/
def covered (p : List Ext) (i : Nat) : Bool := p.any fun y => decide (y.first ≤ i) && decide ((i : Int) < y.first + y.count)

theorem covered_clash (p : List Ext) (x : Ext) (hx : extOk x = true) (i : Nat) (h1 : x.first ≤ i) (h2 : (i : Int) < x.first + x.count) (hc : covered p i = true) : clash p x = true := by
  unfold covered at hc
  rw [List.any_eq_true] at hc
  obtain ⟨y, hy, h⟩ := hc
  simp only [Bool.and_eq_true, decide_eq_true_eq] at h
  unfold clash
  rw [List.any_eq_true]
  refine ⟨y, hy, ?_⟩
  simp only [meets, Bool.and_eq_true, decide_eq_true_eq]
  omega

theorem clash_covered (p : List Ext) (hp : ∀ y ∈ p, extOk y = true) (x : Ext) (hx : extOk x = true) (hc : clash p x = true) : ∃ i : Nat, x.first ≤ i ∧ (i : Int) < x.first + x.count ∧ covered p i = true := by
  unfold clash at hc
  rw [List.any_eq_true] at hc
  obtain ⟨y, hy, h⟩ := hc
  simp only [meets, Bool.and_eq_true, decide_eq_true_eq] at h
  have h1 := (extOk_iff y).1 (hp y hy)
  have h2 := (extOk_iff x).1 hx
  refine ⟨(max x.first y.first).toNat, by omega, by omega, ?_⟩
  unfold covered
  rw [List.any_eq_true]
  refine ⟨y, hy, ?_⟩
  simp only [Bool.and_eq_true, decide_eq_true_eq]
  omega

theorem covered_snoc (p : List Ext) (x : Ext) (i : Nat) : covered (p ++ [x]) i = (covered p i || (decide (x.first ≤ i) && decide ((i : Int) < x.first + x.count))) := by
  simp [covered, List.any_append]

def inoOk (i : Ino) : Bool := decide (1 ≤ i.name.size) && decide (i.name.size ≤ 96) && decide (0 ≤ i.size) && decide (i.size ≤ 65536) && decide (i.exts.length ≤ 8) && decide (blk i.exts = blocksOf i.size)

/-- The error's number. -/
def inoCheck (i : Ino) : Int := if inoOk i then 0 else 2

def extB (x : Ext) : List UInt8 := putB 2 x.first.toNat ++ putB 2 x.count.toNat
def extsB (l : List Ext) : List UInt8 := l.flatMap extB
def inoBody (i : Ino) : List UInt8 :=
  [UInt8.ofNat (i.name.size % 256)] ++ padTo 96 i.name.data.toList ++ putB 4 i.size.toNat ++ [UInt8.ofNat (i.exts.length % 256)] ++ padTo 32 (extsB i.exts)
def inoBytes (i : Ino) : List UInt8 := padTo 256 (inoBody i ++ putB 4 (crc (inoBody i)))
def inoPut (i : Ino) : List UInt8 := if inoOk i then inoBytes i else []

theorem length_extsB (l : List Ext) : (extsB l).length = 4 * l.length := by
  induction l with
  | nil => rfl
  | cons x l ih => simp only [extsB, List.flatMap_cons, List.length_append] at ih ⊢; simp [extB, length_putB, ih]; omega

theorem blkGo_lo (r : List Ext) : ∀ (p : List Ext) (n : Int), 0 ≤ n → -1 ≤ blkGo p r n := by
  induction r with
  | nil => intro p n h; simp only [blkGo]; omega
  | cons x r ih =>
    intro p n h
    unfold blkGo
    split
    · rename_i hc
      simp only [Bool.and_eq_true] at hc
      have := (extOk_iff x).1 hc.1
      exact ih _ _ (by omega)
    · omega

/-- If they may be, each one may. -/
theorem blkGo_ok (r : List Ext) : ∀ (p : List Ext) (n : Int), 0 ≤ n → blkGo p r n ≠ -1 → ∀ x ∈ r, extOk x = true := by
  induction r with
  | nil => intro p n _ _ x hx; cases hx
  | cons y r ih =>
    intro p n hn h x hx
    unfold blkGo at h
    split at h
    · rename_i hc
      simp only [Bool.and_eq_true] at hc
      rcases List.mem_cons.1 hx with rfl | hx
      · exact hc.1
      · have := (extOk_iff y).1 hc.1
        exact ih _ _ (by omega) h x hx
    · exact absurd rfl h

theorem blocksOf_nonneg (n : Int) : 0 ≤ blocksOf n := by unfold blocksOf; split <;> omega

theorem inoOk_iff (i : Ino) : inoOk i = true ↔ 1 ≤ i.name.size ∧ i.name.size ≤ 96 ∧ 0 ≤ i.size ∧ i.size ≤ 65536 ∧ i.exts.length ≤ 8 ∧ blk i.exts = blocksOf i.size := by
  simp [inoOk, and_assoc]

theorem inoOk_ext {i : Ino} (h : inoOk i = true) : ∀ x ∈ i.exts, extOk x = true := by
  have h1 := ((inoOk_iff i).1 h).2.2.2.2.2
  have h2 := blocksOf_nonneg i.size
  exact blkGo_ok i.exts [] 0 (by omega) (by unfold blk at h1; omega)

theorem length_inoBody {i : Ino} (h : inoOk i = true) : (inoBody i).length = 134 := by
  obtain ⟨h1, h2, h3, h4, h5, h6⟩ := (inoOk_iff i).1 h
  unfold inoBody
  have hx := length_extsB i.exts
  simp only [List.length_append, List.length_cons, List.length_nil, length_putB]
  rw [length_padTo 96 _ (by simpa using h2), length_padTo 32 _ (by omega)]

theorem length_inoBytes {i : Ino} (h : inoOk i = true) : (inoBytes i).length = 256 := by
  unfold inoBytes
  refine length_padTo _ _ ?_
  rw [List.length_append, length_inoBody h, length_putB]
  decide

/-! ### what bytes say -/
def sub (l : List UInt8) (a n : Nat) : List UInt8 := (l.drop a).take n
def readIno (l : List UInt8) : Ino where
  name := ⟨(sub l 1 (min (l.getD 0 0).toNat 96)).toArray⟩
  size := getB (sub l 97 4)
  exts := (List.range (min (l.getD 101 0).toNat 8)).map fun k => ⟨getB (sub l (102 + 4 * k) 2), getB (sub l (104 + 4 * k) 2)⟩

/-- The inode, whether it is there, the error. -/
def noIno : Ino := ⟨⟨#[]⟩, 0, []⟩
def inoThere (l : List UInt8) : Bool := decide (l.length = 256) && !decide (l = zeros 256) && inoOk (readIno l) && decide (inoBytes (readIno l) = l)
def inoGet (l : List UInt8) : Ino := if inoThere l then readIno l else noIno
def inoErr (l : List UInt8) : Int := if inoThere l || decide (l = zeros 256) then 0 else 10

end Go.Proofs.Ytffgjjhopopgcaa
