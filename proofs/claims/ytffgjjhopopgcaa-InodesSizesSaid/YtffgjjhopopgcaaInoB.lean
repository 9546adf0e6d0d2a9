/-
  Plain: what is read of an inode's bytes is the inode that was put. Condition: the inode may be.
-/
import Derived.Test.YtffgjjhopopgcaaIno
namespace Go.Proofs.Ytffgjjhopopgcaa
set_option linter.unusedVariables false
set_option linter.unusedSimpArgs false
set_option maxRecDepth 10000

theorem sub_skip (A B : List UInt8) (a n : Nat) (h : A.length ≤ a) : sub (A ++ B) a n = sub B (a - A.length) n := by
  unfold sub
  rw [List.drop_append, List.drop_of_length_le h, List.nil_append]
theorem sub_take (A B : List UInt8) (n : Nat) (h : n ≤ A.length) : sub (A ++ B) 0 n = A.take n := by
  unfold sub
  rw [List.drop_zero, List.take_append_of_le_length h]

def inoTail (i : Ino) : List UInt8 := putB 4 (crc (inoBody i)) ++ zeros (256 - (inoBody i ++ putB 4 (crc (inoBody i))).length)

theorem inoBytes_parts (i : Ino) : inoBytes i = [UInt8.ofNat (i.name.size % 256)] ++ (padTo 96 i.name.data.toList ++ (putB 4 i.size.toNat ++ ([UInt8.ofNat (i.exts.length % 256)] ++ (padTo 32 (extsB i.exts) ++ inoTail i)))) := by
  unfold inoBytes inoTail
  show padTo 256 _ = _
  rw [padTo]
  simp only [inoBody, List.append_assoc]

theorem size_toNat {n : Nat} (h : n < 256) : (UInt8.ofNat (n % 256)).toNat = n := by
  rw [Nat.mod_eq_of_lt h, toNat_ofNat_lt h]

theorem getD_zero {i : Ino} : (inoBytes i).getD 0 0 = UInt8.ofNat (i.name.size % 256) := by
  rw [inoBytes_parts]; rfl
theorem getD_101 {i : Ino} (h : inoOk i = true) : (inoBytes i).getD 101 0 = UInt8.ofNat (i.exts.length % 256) := by
  obtain ⟨h1, h2, h3, h4, h5, h6⟩ := (inoOk_iff i).1 h
  have hp : (padTo 96 i.name.data.toList).length = 96 := length_padTo 96 _ (by simpa using h2)
  rw [inoBytes_parts, List.getD_eq_getElem?_getD, List.getElem?_append_right (by simp), List.getElem?_append_right (by simp [hp]), List.getElem?_append_right (by simp [hp, length_putB]), List.getElem?_append_left (by simp [hp, length_putB])]
  simp [hp, length_putB]

theorem sub_exts (l : List Ext) (tl : List UInt8) : ∀ k (hk : k < l.length), sub (extsB l ++ tl) (4 * k) 2 = putB 2 (l[k]).first.toNat ∧ sub (extsB l ++ tl) (4 * k + 2) 2 = putB 2 (l[k]).count.toNat := by
  induction l with
  | nil => intro k hk; simp at hk
  | cons x l ih =>
    intro k hk
    have he : extsB (x :: l) = putB 2 x.first.toNat ++ (putB 2 x.count.toNat ++ extsB l) := by simp [extsB, extB]
    rw [he]
    cases k with
    | zero =>
      constructor
      · rw [List.append_assoc, Nat.mul_zero, sub_take _ _ _ (by rw [length_putB]; omega), List.take_of_length_le (by rw [length_putB]; omega)]
        rfl
      · rw [List.append_assoc, sub_skip _ _ _ _ (by rw [length_putB]; omega), List.append_assoc, length_putB, show 4 * 0 + 2 - 2 = 0 from rfl, sub_take _ _ _ (by rw [length_putB]; omega), List.take_of_length_le (by rw [length_putB]; omega)]
        rfl
    | succ k =>
      have hk' : k < l.length := by simpa using hk
      obtain ⟨i1, i2⟩ := ih k hk'
      constructor
      · rw [List.append_assoc, sub_skip _ _ _ _ (by rw [length_putB]; omega), List.append_assoc, sub_skip _ _ _ _ (by rw [length_putB, length_putB]; omega), length_putB, length_putB, show 4 * (k + 1) - 2 - 2 = 4 * k from by omega, i1]
        rfl
      · rw [List.append_assoc, sub_skip _ _ _ _ (by rw [length_putB]; omega), List.append_assoc, sub_skip _ _ _ _ (by rw [length_putB, length_putB]; omega), length_putB, length_putB, show 4 * (k + 1) + 2 - 2 - 2 = 4 * k + 2 from by omega, i2]
        rfl

/-- What the bytes say is what was put. -/
theorem readIno_bytes {i : Ino} (h : inoOk i = true) : readIno (inoBytes i) = i := by
  obtain ⟨h1, h2, h3, h4, h5, h6⟩ := (inoOk_iff i).1 h
  have hp : (padTo 96 i.name.data.toList).length = 96 := length_padTo 96 _ (by simpa using h2)
  have hx := length_extsB i.exts
  have hE : (padTo 32 (extsB i.exts)).length = 32 := length_padTo 32 _ (by omega)
  have hext := inoOk_ext h
  have hname : sub (inoBytes i) 1 (min ((inoBytes i).getD 0 0).toNat 96) = i.name.data.toList := by
    rw [getD_zero, size_toNat (by omega), Nat.min_eq_left h2, inoBytes_parts, sub_skip _ _ _ _ (by simp)]
    have hl : i.name.data.toList.length = i.name.size := Array.length_toList
    rw [show 1 - [UInt8.ofNat (i.name.size % 256)].length = 0 from rfl, sub_take _ _ _ (by rw [hp]; omega)]
    unfold padTo
    rw [List.take_append_of_le_length (by omega), List.take_of_length_le (by omega)]
  have hsize : getB (sub (inoBytes i) 97 4) = i.size.toNat := by
    rw [inoBytes_parts, sub_skip _ _ _ _ (by simp), sub_skip _ _ _ _ (by rw [hp]; simp), show 97 - [UInt8.ofNat (i.name.size % 256)].length - (padTo 96 i.name.data.toList).length = 0 from by rw [hp]; rfl, sub_take _ _ _ (by rw [length_putB]; omega), List.take_of_length_le (by rw [length_putB]; omega), getB_putB]
    rw [Nat.mod_eq_of_lt]
    omega
  have hexts : ∀ k, 4 * k + 4 ≤ 32 → ∀ d, d = 0 ∨ d = 2 → sub (inoBytes i) (102 + 4 * k + d) 2 = sub (padTo 32 (extsB i.exts) ++ inoTail i) (4 * k + d) 2 := by
    intro k hk d hd
    rw [inoBytes_parts, sub_skip _ _ _ _ (by simp; omega), sub_skip _ _ _ _ (by rw [hp]; simp; omega), sub_skip _ _ _ _ (by rw [hp, length_putB]; simp; omega), sub_skip _ _ _ _ (by rw [hp, length_putB]; simp; omega)]
    congr 1
    rw [hp, length_putB]
    simp
    omega
  obtain ⟨nm, sz, ex⟩ := i
  simp only at *
  unfold readIno
  have hm : min ((inoBytes ⟨nm, sz, ex⟩).getD 101 0).toNat 8 = ex.length := by
    rw [getD_101 h, size_toNat (by show ex.length < 256; omega)]
    exact Nat.min_eq_left h5
  rw [hname, hsize, hm]
  congr 1
  · exact Int.toNat_of_nonneg h3
  · refine List.ext_getElem (by rw [List.length_map, List.length_range]) fun k g1 g2 => ?_
    simp only [List.length_map, List.length_range] at g1
    rw [List.getElem_map, List.getElem_range]
    have e1 := hexts k (by omega) 0 (.inl rfl)
    have e2 := hexts k (by omega) 2 (.inr rfl)
    rw [Nat.add_zero, Nat.add_zero] at e1
    rw [show 102 + 4 * k + 2 = 104 + 4 * k from by omega] at e2
    unfold padTo at e1 e2
    rw [List.append_assoc] at e1 e2
    obtain ⟨s1, s2⟩ := sub_exts ex (zeros (32 - (extsB ex).length) ++ inoTail ⟨nm, sz, ex⟩) k g2
    rw [e1, e2, s1, s2, getB_putB, getB_putB]
    have := (extOk_iff _).1 (hext ex[k] (List.getElem_mem g2))
    generalize ex[k] = x at *
    obtain ⟨f, n⟩ := x
    simp only at this ⊢
    rw [Nat.mod_eq_of_lt (by show f.toNat < 65536; omega), Nat.mod_eq_of_lt (by show n.toNat < 65536; omega), Int.toNat_of_nonneg this.1, Int.toNat_of_nonneg (by omega)]

theorem inoBytes_heads {l : List UInt8} (hok : inoOk (readIno l) = true) (hb : inoBytes (readIno l) = l) (h6 : l.length = 256) : (l[0]'(by omega)).toNat ≤ 96 ∧ (l[101]'(by omega)).toNat ≤ 8 := by
  obtain ⟨h1, h2, h3, h4, h5, _⟩ := (inoOk_iff _).1 hok
  have e0 := @getD_zero (readIno l)
  have e1 := getD_101 hok
  rw [hb] at e0 e1
  have q0 : l.getD 0 0 = l[0]'(by omega) := by simp [List.getD_eq_getElem?_getD, List.getElem?_eq_getElem (show 0 < l.length by omega)]
  have q1 : l.getD 101 0 = l[101]'(by omega) := by simp [List.getD_eq_getElem?_getD, List.getElem?_eq_getElem (show 101 < l.length by omega)]
  rw [← q0, ← q1, e0, e1, size_toNat (by omega), size_toNat (by omega)]
  exact ⟨h2, h5⟩
end Go.Proofs.Ytffgjjhopopgcaa
