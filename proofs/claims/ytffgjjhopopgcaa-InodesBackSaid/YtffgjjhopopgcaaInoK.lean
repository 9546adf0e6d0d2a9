/-
  Plain: what was put is got; of bytes of which one has turned nothing is got, nor of fewer or more. Condition: the inode may be.
-/
import Derived.Test.YtffgjjhopopgcaaInoB
namespace Go.Proofs.Ytffgjjhopopgcaa
set_option linter.unusedVariables false
set_option linter.unusedSimpArgs false
set_option maxRecDepth 10000

theorem inoBytes_three {i : Ino} (h : inoOk i = true) : inoBytes i = inoBody i ++ (putB 4 (crc (inoBody i)) ++ zeros 118) := by
  unfold inoBytes padTo
  rw [List.length_append, length_inoBody h, length_putB, List.append_assoc]

theorem crc_small : ∀ k : Fin 97, k.val ≠ 0 → crc (UInt8.ofNat k.val :: zeros 133) ≠ 0 := by decide +kernel

theorem getElem_set_self' (l : List UInt8) (n : Nat) (y : UInt8) (h : n < l.length) : l.set n y = l.take n ++ y :: l.drop (n + 1) := by
  rw [List.set_eq_take_append_cons_drop, if_pos h]

theorem there_put {i : Ino} (h : inoOk i = true) : inoThere (inoBytes i) = true ∧ inoGet (inoBytes i) = i ∧ inoErr (inoBytes i) = 0 := by
  obtain ⟨h1, h2, _⟩ := (inoOk_iff i).1 h
  have hz : inoBytes i ≠ zeros 256 := by
    intro e
    have e0 := @getD_zero i
    rw [e] at e0
    have : (UInt8.ofNat (i.name.size % 256)).toNat = i.name.size := size_toNat (by omega)
    rw [← e0] at this
    have z0 : ((zeros 256).getD 0 0).toNat = 0 := rfl
    omega
  have ht : inoThere (inoBytes i) = true := by
    simp [inoThere, length_inoBytes h, hz, readIno_bytes h, h]
  exact ⟨ht, by simp [inoGet, ht, readIno_bytes h], by simp [inoErr, ht]⟩

theorem back_flip {i : Ino} (h : inoOk i = true) (n : Nat) (hn : n < 256) (y : UInt8) (hy : (inoBytes i).getD n 0 ≠ y) :
    inoThere ((inoBytes i).set n y) = false ∧ (inoBytes i).set n y ≠ zeros 256 := by
  obtain ⟨h1, h2, _⟩ := (inoOk_iff i).1 h
  have hlen := length_inoBytes h
  have hB := length_inoBody h
  have h3 := inoBytes_three h
  have hyn : (inoBytes i)[n]'(by omega) ≠ y := by
    rw [List.getD_eq_getElem?_getD, List.getElem?_eq_getElem (by omega)] at hy
    exact hy
  constructor
  · rw [← Bool.not_eq_true]
    intro ht
    simp only [inoThere, Bool.and_eq_true, decide_eq_true_eq] at ht
    obtain ⟨⟨_, hj⟩, hjb⟩ := ht
    generalize readIno ((inoBytes i).set n y) = j at *
    have h3' := inoBytes_three hj
    have hB' := length_inoBody hj
    rw [hjb] at h3'
    have htake : (inoBody j) = ((inoBytes i).set n y).take 134 := by rw [h3', List.take_left' hB']
    have hdrop : putB 4 (crc (inoBody j)) ++ zeros 118 = ((inoBytes i).set n y).drop 134 := by rw [h3', List.drop_left' hB']
    have htake0 : (inoBody i) = (inoBytes i).take 134 := by rw [h3, List.take_left' hB]
    have hdrop0 : putB 4 (crc (inoBody i)) ++ zeros 118 = (inoBytes i).drop 134 := by rw [h3, List.drop_left' hB]
    by_cases hn1 : n < 134
    · rw [List.drop_set_of_lt hn1, ← hdrop0] at hdrop
      have hc := List.append_inj_left hdrop (by simp [length_putB])
      have hc := putB_inj (crc_lt _) (crc_lt _) hc
      rw [List.take_set, ← htake0] at htake
      have hnB : n < (inoBody i).length := by omega
      rw [getElem_set_self' _ _ _ hnB] at htake
      have hsplit : inoBody i = (inoBody i).take n ++ (inoBody i)[n] :: (inoBody i).drop (n + 1) := by
        rw [List.getElem_cons_drop, List.take_append_drop]
      rw [htake] at hc
      have : y = (inoBody i)[n] := crc_one ((inoBody i).take n) ((inoBody i).drop (n + 1)) y (inoBody i)[n] (by rw [← hsplit]; exact hc)
      apply hyn
      rw [this]
      have e : (inoBytes i)[n]'(by omega) = (inoBody i)[n] := by
        have : (inoBytes i)[n]? = (inoBody i)[n]? := by rw [h3, List.getElem?_append_left hnB]
        rw [List.getElem?_eq_getElem (by omega), List.getElem?_eq_getElem hnB] at this
        exact Option.some.inj this
      exact e
    · rw [List.take_set_of_le (by omega), ← htake0] at htake
      have e : inoBytes j = inoBytes i := by
        rw [inoBytes_three hj, h3, htake]
      rw [hjb] at e
      have := congrArg (fun l : List UInt8 => l[n]?) e
      simp only [List.getElem?_set_self (show n < (inoBytes i).length by omega)] at this
      rw [List.getElem?_eq_getElem (by omega)] at this
      exact hyn (Option.some.inj this).symm
  · intro e
    by_cases hn0 : n = 0
    · subst hn0
      have hs : inoBytes i = (inoBytes i)[0]'(by omega) :: zeros 255 := by
        have h0 : (inoBytes i).set 0 y = y :: (inoBytes i).drop 1 := by
          rw [getElem_set_self' _ _ _ (by omega)]
          rfl
        rw [h0] at e
        have e' : (inoBytes i).drop 1 = zeros 255 := by
          have := congrArg List.tail e
          rw [List.tail_cons] at this
          exact this.trans rfl
        rw [← e', List.getElem_cons_drop]
        rfl
      have h0 := @getD_zero i
      have hg : (inoBytes i).getD 0 0 = (inoBytes i)[0]'(by omega) := by simp [List.getD_eq_getElem?_getD, List.getElem?_eq_getElem (show 0 < (inoBytes i).length by omega)]
      rw [← hg, h0, Nat.mod_eq_of_lt (by omega)] at hs
      have hb : inoBody i = UInt8.ofNat i.name.size :: zeros 133 := by
        have := congrArg (List.take 134) hs
        rw [h3, List.take_left' hB] at this
        rw [this]
        rfl
      have hc : putB 4 (crc (inoBody i)) = putB 4 0 := by
        have := congrArg (fun l : List UInt8 => (l.drop 134).take 4) hs
        simp only [h3, List.drop_left' hB, List.take_left' (length_putB 4 _)] at this
        rw [this]
        rfl
      have hc := putB_inj (crc_lt _) (by decide) hc
      rw [hb] at hc
      exact crc_small ⟨i.name.size, by omega⟩ (by simp only; omega) hc
    · have h0 := @getD_zero i
      have : ((inoBytes i).set n y).getD 0 0 = (inoBytes i).getD 0 0 := by
        rw [List.getD_eq_getElem?_getD, List.getD_eq_getElem?_getD, List.getElem?_set_ne (by omega)]
      rw [e, h0] at this
      have hk : (UInt8.ofNat (i.name.size % 256)).toNat = i.name.size := size_toNat (by omega)
      rw [← this] at hk
      have z0 : ((zeros 256).getD 0 0).toNat = 0 := rfl
      omega

theorem got_none {l : List UInt8} (h : l.length ≠ 256) : inoThere l = false ∧ inoErr l = 10 ∧ inoGet l = noIno := by
  have h1 : inoThere l = false := by simp [inoThere, h]
  have hz : l ≠ zeros 256 := fun e => h (by rw [e]; simp [zeros])
  exact ⟨h1, by simp [inoErr, h1, hz], by simp [inoGet, h1]⟩
end Go.Proofs.Ytffgjjhopopgcaa
