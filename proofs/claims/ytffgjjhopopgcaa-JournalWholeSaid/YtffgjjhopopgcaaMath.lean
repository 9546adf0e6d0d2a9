/-
  Plain facts on numbers and bytes: CRC-32, numbers as bytes. No program in sight.
-/
namespace Go.Proofs.Ytffgjjhopopgcaa
set_option linter.unusedVariables false
set_option linter.unusedSimpArgs false

/-! ### CRC-32 -/
def crcPoly : Nat := 3988292384
def crcStep (c : Nat) : Nat := c / 2 ^^^ (crcPoly * (c % 2))
def crcSteps : Nat → Nat → Nat
  | 0, c => c
  | k + 1, c => crcStep (crcSteps k c)

theorem div2_xor (a b : Nat) : (a ^^^ b) / 2 = a / 2 ^^^ b / 2 := by
  have := Nat.shiftRight_xor_distrib (a := a) (b := b) (i := 1)
  simpa [Nat.shiftRight_eq_div_pow] using this

theorem mod2_xor (a b : Nat) : (a ^^^ b) % 2 = (a + b) % 2 := by
  have h : decide ((a ^^^ b) % 2 = 1) = (decide (a % 2 = 1) ^^ decide (b % 2 = 1)) := by
    have := Nat.testBit_xor a b 0
    simpa only [Nat.testBit_zero] using this
  rcases Nat.mod_two_eq_zero_or_one a with ha | ha <;> rcases Nat.mod_two_eq_zero_or_one b with hb | hb <;> rw [ha, hb] at h
  · have h1 : ¬ (a ^^^ b) % 2 = 1 := of_decide_eq_false h
    omega
  · have h1 : (a ^^^ b) % 2 = 1 := of_decide_eq_true h
    omega
  · have h1 : (a ^^^ b) % 2 = 1 := of_decide_eq_true h
    omega
  · have h1 : ¬ (a ^^^ b) % 2 = 1 := of_decide_eq_false h
    omega

theorem crcStep_xor (a b : Nat) : crcStep (a ^^^ b) = crcStep a ^^^ crcStep b := by
  unfold crcStep
  rw [div2_xor, mod2_xor]
  rcases Nat.mod_two_eq_zero_or_one a with ha | ha <;> rcases Nat.mod_two_eq_zero_or_one b with hb | hb
  · rw [show (a + b) % 2 = 0 from by omega, ha, hb]; simp
  · rw [show (a + b) % 2 = 1 from by omega, ha, hb]; simp [Nat.xor_assoc]
  · rw [show (a + b) % 2 = 1 from by omega, ha, hb]
    simp only [Nat.mul_one, Nat.mul_zero, Nat.xor_zero]
    rw [Nat.xor_assoc, Nat.xor_assoc, Nat.xor_comm (b / 2)]
  · rw [show (a + b) % 2 = 0 from by omega, ha, hb]
    simp only [Nat.mul_one, Nat.mul_zero, Nat.xor_zero]
    rw [Nat.xor_assoc, Nat.xor_comm (b / 2), ← Nat.xor_assoc crcPoly, Nat.xor_self, Nat.zero_xor]

theorem crcSteps_xor : ∀ (k a b : Nat), crcSteps k (a ^^^ b) = crcSteps k a ^^^ crcSteps k b
  | 0, _, _ => rfl
  | k + 1, a, b => by show crcStep (crcSteps k (a ^^^ b)) = _; rw [crcSteps_xor k, crcStep_xor]; rfl

theorem crcSteps_out : ∀ (k c : Nat), crcSteps (k + 1) c = crcSteps k (crcStep c)
  | 0, _ => rfl
  | k + 1, c => by show crcStep (crcSteps (k + 1) c) = _; rw [crcSteps_out k]; rfl

theorem crcStep_double (m : Nat) : crcStep (2 * m) = m := by
  unfold crcStep
  rw [show 2 * m / 2 = m from by omega, show 2 * m % 2 = 0 from by omega]
  simp

theorem crcSteps_shift : ∀ (k m : Nat), crcSteps k (2 ^ k * m) = m
  | 0, m => by simp [crcSteps]
  | k + 1, m => by
    rw [crcSteps_out, show 2 ^ (k + 1) * m = 2 * (2 ^ k * m) from by rw [Nat.pow_succ, Nat.mul_comm (2 ^ k) 2, Nat.mul_assoc], crcStep_double, crcSteps_shift k]

theorem crcPoly_lt : crcPoly < 2 ^ 32 := by decide

theorem crcStep_lt {c : Nat} (h : c < 2 ^ 32) : crcStep c < 2 ^ 32 := by
  unfold crcStep
  refine Nat.xor_lt_two_pow (by omega) ?_
  rcases Nat.mod_two_eq_zero_or_one c with hc | hc <;> rw [hc]
  · simp
  · simpa using crcPoly_lt

theorem crcSteps_lt : ∀ (k : Nat) {c : Nat}, c < 2 ^ 32 → crcSteps k c < 2 ^ 32
  | 0, _, h => h
  | k + 1, _, h => crcStep_lt (crcSteps_lt k h)

theorem crcStep_zero {x : Nat} (h : x < 2 ^ 32) (h0 : crcStep x = 0) : x = 0 := by
  unfold crcStep at h0
  have he : x / 2 = crcPoly * (x % 2) := by
    have := congrArg (· ^^^ (crcPoly * (x % 2))) h0
    simpa [Nat.xor_assoc] using this
  rcases Nat.mod_two_eq_zero_or_one x with hx | hx <;> rw [hx] at he <;> unfold crcPoly at he <;> omega

theorem xor_eq_zero {a b : Nat} (h : a ^^^ b = 0) : a = b := by
  have := congrArg (· ^^^ b) h
  simpa [Nat.xor_assoc] using this

theorem crcSteps_inj : ∀ (k : Nat) {a b : Nat}, a < 2 ^ 32 → b < 2 ^ 32 → crcSteps k a = crcSteps k b → a = b
  | 0, _, _, _, _, h => h
  | k + 1, a, b, ha, hb, h => by
    refine crcSteps_inj k ha hb ?_
    have h1 : crcStep (crcSteps k a ^^^ crcSteps k b) = 0 := by
      rw [crcStep_xor]
      show crcSteps (k + 1) a ^^^ crcSteps (k + 1) b = 0
      rw [h, Nat.xor_self]
    exact xor_eq_zero (crcStep_zero (Nat.xor_lt_two_pow (crcSteps_lt k ha) (crcSteps_lt k hb)) h1)

theorem low_xor (c : Nat) : c = 2 ^ 8 * (c / 256) ^^^ c % 256 := by
  apply Nat.eq_of_testBit_eq
  intro i
  rw [Nat.testBit_xor]
  have hd : c = 2 ^ 8 * (c / 256) + c % 256 := by omega
  have hr : c % 256 < 2 ^ 8 := by omega
  conv => lhs; rw [hd]
  rw [Nat.testBit_two_pow_mul_add _ hr, Nat.testBit_two_pow_mul]
  by_cases hi : i < 8
  · rw [if_pos hi, show decide (i ≥ 8) = false from by simp; omega]; simp
  · rw [if_neg hi, show decide (i ≥ 8) = true from by simp; omega, Nat.testBit_lt_two_pow (x := c % 256)]
    · simp
    · exact Nat.lt_of_lt_of_le hr (Nat.pow_le_pow_right (by omega) (by omega))

/-- One byte. -/
def crcUpd (c : Nat) (b : UInt8) : Nat := crcSteps 8 (c ^^^ b.toNat)

theorem byte_lt (b : UInt8) : b.toNat < 256 := b.toNat_lt

theorem crcUpd_table (c : Nat) (b : UInt8) : crcUpd c b = c / 256 ^^^ crcSteps 8 (c % 256 ^^^ b.toNat) := by
  unfold crcUpd
  conv => lhs; rw [low_xor c]
  rw [Nat.xor_assoc, crcSteps_xor, crcSteps_shift]

theorem crcUpd_lt {c : Nat} (h : c < 2 ^ 32) (b : UInt8) : crcUpd c b < 2 ^ 32 :=
  crcSteps_lt 8 (Nat.xor_lt_two_pow h (Nat.lt_of_lt_of_le (byte_lt b) (by decide)))

theorem crcUpd_inj {c d : Nat} (hc : c < 2 ^ 32) (hd : d < 2 ^ 32) (b : UInt8) (h : crcUpd c b = crcUpd d b) : c = d := by
  have hb : b.toNat < 2 ^ 32 := Nat.lt_of_lt_of_le (byte_lt b) (by decide)
  have := crcSteps_inj 8 (Nat.xor_lt_two_pow hc hb) (Nat.xor_lt_two_pow hd hb) h
  have h2 := congrArg (· ^^^ b.toNat) this
  simpa [Nat.xor_assoc] using h2

theorem crcUpd_byte {c : Nat} (hc : c < 2 ^ 32) (a b : UInt8) (h : crcUpd c a = crcUpd c b) : a = b := by
  have ha : a.toNat < 2 ^ 32 := Nat.lt_of_lt_of_le (byte_lt a) (by decide)
  have hb : b.toNat < 2 ^ 32 := Nat.lt_of_lt_of_le (byte_lt b) (by decide)
  have := crcSteps_inj 8 (Nat.xor_lt_two_pow hc ha) (Nat.xor_lt_two_pow hc hb) h
  have h2 := congrArg (c ^^^ ·) this
  have h3 : a.toNat = b.toNat := by simpa [← Nat.xor_assoc] using h2
  exact UInt8.toNat.inj h3

def crcFold (c : Nat) (l : List UInt8) : Nat := l.foldl crcUpd c

theorem crcFold_lt {c : Nat} (h : c < 2 ^ 32) (l : List UInt8) : crcFold c l < 2 ^ 32 := by
  induction l generalizing c with
  | nil => exact h
  | cons b l ih => exact ih (crcUpd_lt h b)

theorem crcFold_inj (l : List UInt8) : ∀ {c d : Nat}, c < 2 ^ 32 → d < 2 ^ 32 → crcFold c l = crcFold d l → c = d := by
  induction l with
  | nil => intro c d _ _ h; exact h
  | cons b l ih => intro c d hc hd h; exact crcUpd_inj hc hd b (ih (crcUpd_lt hc b) (crcUpd_lt hd b) h)

theorem crcFold_append (c : Nat) (l m : List UInt8) : crcFold c (l ++ m) = crcFold (crcFold c l) m := by simp [crcFold]

/-- The CRC of bytes behind others that have c. -/
def crcMore (c : Nat) (l : List UInt8) : Nat := 4294967295 - crcFold (4294967295 - c) l
def crc (l : List UInt8) : Nat := crcMore 0 l

theorem crcMore_lt (c : Nat) (l : List UInt8) : crcMore c l < 4294967296 := by unfold crcMore; omega
theorem crc_lt (l : List UInt8) : crc l < 4294967296 := crcMore_lt 0 l

theorem crcMore_append (c : Nat) (hc : c < 4294967296) (l m : List UInt8) : crcMore c (l ++ m) = crcMore (crcMore c l) m := by
  unfold crcMore
  rw [crcFold_append]
  have := crcFold_lt (c := 4294967295 - c) (by omega) l
  rw [show 4294967295 - (4294967295 - crcFold (4294967295 - c) l) = crcFold (4294967295 - c) l from by omega]

/-- Bytes that part in one place have unlike sums. -/
theorem crc_one (l m : List UInt8) (a b : UInt8) (h : crc (l ++ a :: m) = crc (l ++ b :: m)) : a = b := by
  unfold crc crcMore at h
  have h0 : (4294967295 - 0 : Nat) < 2 ^ 32 := by decide
  have ha := crcFold_lt h0 (l ++ a :: m)
  have hb := crcFold_lt h0 (l ++ b :: m)
  have he : crcFold (4294967295 - 0) (l ++ a :: m) = crcFold (4294967295 - 0) (l ++ b :: m) := by omega
  rw [crcFold_append, crcFold_append] at he
  have hl := crcFold_lt h0 l
  have := crcFold_inj m (crcUpd_lt hl a) (crcUpd_lt hl b) he
  exact crcUpd_byte hl a b this

/-! the sum, bit by bit -/
def refStep (n bit : Nat) : Nat := if n % 2 = bit then n / 2 else n / 2 ^^^ crcPoly

theorem refStep_xor (n c : Nat) : refStep n (c % 2) ^^^ (c / 2) = crcStep (n ^^^ c) := by
  unfold refStep crcStep
  rw [div2_xor, mod2_xor]
  split
  · rw [show (n + c) % 2 = 0 from by omega]; simp
  · rw [show (n + c) % 2 = 1 from by omega]
    simp only [Nat.mul_one]
    rw [Nat.xor_assoc, Nat.xor_assoc, Nat.xor_comm crcPoly]

def refBits : Nat → Nat → Nat → Nat
  | 0, n, _ => n
  | k + 1, n, c => refStep (refBits k n c) (c / 2 ^ k % 2)

theorem refBits_xor : ∀ (k n c : Nat), refBits k n c ^^^ (c / 2 ^ k) = crcSteps k (n ^^^ c)
  | 0, n, c => by simp [refBits, crcSteps]
  | k + 1, n, c => by
    show refStep (refBits k n c) (c / 2 ^ k % 2) ^^^ (c / 2 ^ (k + 1)) = crcStep (crcSteps k (n ^^^ c))
    rw [← refBits_xor k, Nat.pow_succ, ← Nat.div_div_eq_div_mul, refStep_xor]

theorem refBits_byte (n : Nat) (b : UInt8) : refBits 8 n b.toNat = crcUpd n b := by
  have h := refBits_xor 8 n b.toNat
  have hb := byte_lt b
  rw [show b.toNat / 2 ^ 8 = 0 from by omega, Nat.xor_zero] at h
  exact h

theorem refStep_lt {n : Nat} (h : n < 2 ^ 32) (bit : Nat) : refStep n bit < 2 ^ 32 := by
  unfold refStep
  split
  · omega
  · exact Nat.xor_lt_two_pow (by omega) crcPoly_lt

theorem refBits_lt : ∀ (k : Nat) {n : Nat} (c : Nat), n < 2 ^ 32 → refBits k n c < 2 ^ 32
  | 0, _, _, h => h
  | k + 1, _, c, h => refStep_lt (refBits_lt k c h) _

/-! ### numbers as bytes -/
/-- A number's lowest bytes, the lowest first. -/
def putB : Nat → Nat → List UInt8
  | 0, _ => []
  | k + 1, n => UInt8.ofNat (n % 256) :: putB k (n / 256)

def getB : List UInt8 → Nat
  | [] => 0
  | c :: l => c.toNat + 256 * getB l

theorem length_putB : ∀ (k n : Nat), (putB k n).length = k
  | 0, _ => rfl
  | k + 1, n => by simp [putB, length_putB k]

theorem putB_succ : ∀ (k n : Nat), putB (k + 1) n = putB k n ++ [UInt8.ofNat (n / 256 ^ k % 256)]
  | 0, n => by simp [putB]
  | k + 1, n => by
    rw [show putB (k + 1 + 1) n = UInt8.ofNat (n % 256) :: putB (k + 1) (n / 256) from rfl, putB_succ k, Nat.div_div_eq_div_mul, show putB (k + 1) n = UInt8.ofNat (n % 256) :: putB k (n / 256) from rfl, ← Nat.pow_succ', List.cons_append]

theorem toNat_ofNat_lt {n : Nat} (h : n < 256) : (UInt8.ofNat n).toNat = n := by
  simp [UInt8.toNat_ofNat, Nat.mod_eq_of_lt h]

theorem getB_lt : ∀ (l : List UInt8), getB l < 256 ^ l.length
  | [] => by simp [getB]
  | c :: l => by
    have h := getB_lt l
    have hc := byte_lt c
    simp only [getB, List.length_cons, Nat.pow_succ]
    omega

theorem getB_putB : ∀ (k n : Nat), getB (putB k n) = n % 256 ^ k
  | 0, n => by simp [getB, putB, Nat.mod_one]
  | k + 1, n => by
    rw [putB, getB, getB_putB k, toNat_ofNat_lt (Nat.mod_lt _ (by decide)), Nat.pow_succ', Nat.mod_mul]

theorem putB_getB : ∀ (l : List UInt8), putB l.length (getB l) = l
  | [] => rfl
  | c :: l => by
    have hc := byte_lt c
    simp only [List.length_cons, putB, getB]
    rw [show (c.toNat + 256 * getB l) % 256 = c.toNat from by omega, show (c.toNat + 256 * getB l) / 256 = getB l from by omega, putB_getB l]
    simp

theorem getB_append : ∀ (l m : List UInt8), getB (l ++ m) = getB l + 256 ^ l.length * getB m
  | [], m => by simp [getB]
  | c :: l, m => by
    simp only [List.cons_append, getB, getB_append l m, List.length_cons, Nat.pow_succ']
    rw [Nat.mul_add, Nat.mul_assoc]
    omega

theorem putB_inj {k n m : Nat} (hn : n < 256 ^ k) (hm : m < 256 ^ k) (h : putB k n = putB k m) : n = m := by
  have := congrArg getB h
  rwa [getB_putB, getB_putB, Nat.mod_eq_of_lt hn, Nat.mod_eq_of_lt hm] at this

/-! ### how many sectors -/
def blocksOf (n : Int) : Int := if n < 1 then 0 else (n - 1) / 512 + 1

/-- bytes, and zeros behind them -/
def zeros (n : Nat) : List UInt8 := List.replicate n 0
theorem length_zeros (n : Nat) : (zeros n).length = n := by simp [zeros]
def padTo (n : Nat) (l : List UInt8) : List UInt8 := l ++ zeros (n - l.length)
theorem length_padTo (n : Nat) (l : List UInt8) (h : l.length ≤ n) : (padTo n l).length = n := by simp [padTo, zeros]; omega

end Go.Proofs.Ytffgjjhopopgcaa
