/-
  The rule for regions that draw their order, where some of the operations turn the world, in whatever order: the state knows which are done.
-/
import Derived.Test.YtffgjjhopopgcaaRr
namespace Go.Proofs.Ytffgjjhopopgcaa
set_option linter.unusedVariables false
set_option linter.unusedSimpArgs false
open Go Go.RowKit

section
variable {P : Program} {ops : Array Oper} {Q : Exit → Act → World → Prop}

/-- Which of E are done. -/
def doneOf (E js : List Nat) : List Nat := E.filter fun e => decide (e ∈ js)
def insOf (E F : List Nat) (i : Nat) : List Nat := E.filter fun e => decide (e ∈ F ∨ e = i)

theorem doneOf_full {E js : List Nat} (h : ∀ e ∈ E, e ∈ js) : doneOf E js = E := List.filter_eq_self.2 fun e he => by simpa using h e he
theorem doneOf_not {E js : List Nat} {i : Nat} (h : i ∉ E) : doneOf E (js ++ [i]) = doneOf E js := by
  refine List.filter_congr fun e he => ?_
  have : e ≠ i := fun x => h (x ▸ he)
  simp [this]
theorem doneOf_at {E js : List Nat} {i : Nat} : doneOf E (js ++ [i]) = insOf E (doneOf E js) i := by
  refine List.filter_congr fun e he => ?_
  simp [doneOf, he]
theorem not_doneOf {E js : List Nat} {i : Nat} (h : i ∉ js) : i ∉ doneOf E js := fun hi => h (by simpa using (List.mem_filter.1 hi).2)

/-- The duty of one operation: one of E turns the state; another leaves each. -/
def DutyF (P : Program) (ops : Array Oper) (S : List Nat → World → Prop) (E : List Nat) (k : Nat) (o : Oper) (a : Act) (v : Value) : Prop :=
  if k ∈ E then
    (Region.wanted o (yielded ops a.tmps) = false ∧ v = undef ∧ ∀ F w, k ∉ F → S F w → S (insOf E F k) w) ∨
    (Region.wanted o (yielded ops a.tmps) = true ∧ ∀ F w, k ∉ F → S F w → Runs P o a w fun v' w' => a.put o.dst v' = a.put o.dst v ∧ S (insOf E F k) w')
  else ∀ F, Duty P ops (S F) o a v

theorem rr4_main {tab : Array Nat} {m : Nat} {S : List Nat → World → Prop} {E : List Nat} (hEm : ∀ e ∈ E, e < m) (ht : tabOk ops tab = true) (hc : apartOk ops tab m = true) (val : Nat → Value) (a₀ : Act)
    (hduty : ∀ k, k < m → ∃ o, ops[k]? = some o ∧ DutyF P ops S E k o (putAll ops val (List.range k) a₀) (val k))
    (htail : ∀ w, S E w → wpList P ops Q (ops.toList.drop m) (putAll ops val (List.range m) a₀) w) :
    ∀ (fuel : Nat) (listed : Array Bool) (js : List Nat) (w : World), fuel + js.length = ops.size → (∀ j ∈ js, j < m) → Went ops listed js → S (doneOf E js) w →
      wpAny P .any ops Q fuel listed (putAll ops val js a₀) w := by
  have hm : m ≤ ops.size := by
    unfold apartOk at hc
    simp only [Bool.and_eq_true, decide_eq_true_eq] at hc
    exact hc.1.1
  have hrow : ∀ i, i < m → ∀ o, ops[i]? = some o → (∀ cs b, o.op ≠ .select cs b) ∧ ∀ j, j < m → i ≠ j → ∀ d, dstOf ops j = some d →
      dstOf ops i ≠ some d ∧ (d ∈ o.looksAt ops → (j < i → (tab.getD i 0).testBit j = true) ∧ (i < j → (tab.getD j 0).testBit i = true)) := by
    intro i hi o ho
    unfold apartOk at hc
    simp only [Bool.and_eq_true, List.all_eq_true] at hc
    have h1 := hc.1.2 i (List.mem_range.2 hi)
    rw [ho] at h1
    simp only [Bool.and_eq_true, List.all_eq_true] at h1
    refine ⟨fun cs b e => by simp [e] at h1, fun j hj hij d hd => ?_⟩
    have h2 := h1.2 j (List.mem_range.2 hj)
    rw [hd] at h2
    simp only [Bool.or_eq_true, beq_iff_eq, hij, false_or, Bool.and_eq_true, bne_iff_ne, ne_eq, Bool.not_eq_true'] at h2
    refine ⟨h2.1, fun hl => ?_⟩
    rcases h2.2 with h3 | h3
    · rw [← Bool.not_eq_true, List.contains_iff_mem] at h3
      exact absurd hl h3
    · refine ⟨fun hji => ?_, fun hij' => ?_⟩
      · rwa [if_pos hji] at h3
      · rwa [if_neg (by omega)] at h3
  have hdd : ∀ js : List Nat, (∀ j ∈ js, j < m) → ∀ x ∈ js, ∀ y ∈ js, x ≠ y → ∀ d, dstOf ops x = some d → dstOf ops y ≠ some d := by
    intro js hjs x hx y hy hxy d hd
    exact ((hrow y (hjs y hy) ops[y]! (by rw [getElem!_pos ops y (by have := hjs y hy; omega)]; exact Array.getElem?_eq_some_iff.2 ⟨by have := hjs y hy; omega, rfl⟩)).2 x (hjs x hx) (Ne.symm hxy) d hd).1
  intro fuel
  induction fuel with
  | zero =>
    intro listed js w hf hjs hw hS
    have hp : js.Perm (List.range m) := by
      refine (List.perm_ext_iff_of_nodup hw.nodup List.nodup_range).2 fun j => ?_
      rw [List.mem_range]
      refine ⟨hjs j, fun hj => Classical.byContradiction fun hn => ?_⟩
      have hle := (List.nodup_cons.2 ⟨hn, hw.nodup⟩).length_le_of_subset (l₂ := List.range m) (fun x hx => by
        rcases List.mem_cons.1 hx with rfl | hx
        · exact List.mem_range.2 hj
        · exact List.mem_range.2 (hjs x hx))
      simp only [List.length_range, List.length_cons] at hle
      omega
    have hmm : m = ops.size := by
      have := hp.length_eq
      simp at this
      omega
    rw [putAll_perm val hp (hdd js hjs)]
    refine rr_tail ht hc 0 listed m _ w (Nat.le_refl _) (by omega) hw.size (fun j hj => ?_) (fun j hj hjs => by omega) (htail w (by rwa [doneOf_full fun e he => hp.mem_iff.2 (List.mem_range.2 (hEm e he))] at hS))
    exact (hw.mem j).2 (hp.mem_iff.2 (List.mem_range.2 hj))
  | succ fuel ih =>
    intro listed js w hf hjs hw hS
    by_cases hfull : ∀ j, j < m → j ∈ js
    · have hp : js.Perm (List.range m) := by
        refine (List.perm_ext_iff_of_nodup hw.nodup List.nodup_range).2 fun j => ?_
        rw [List.mem_range]
        exact ⟨hjs j, hfull j⟩
      have hl : js.length = m := by simpa using hp.length_eq
      rw [putAll_perm val hp (hdd js hjs)]
      refine rr_tail ht hc (fuel + 1) listed m _ w (Nat.le_refl _) (by omega) hw.size (fun j hj => (hw.mem j).2 (hfull j hj)) (fun j hj hjs' => ?_) (htail w (by rwa [doneOf_full fun e he => hfull e (hEm e he)] at hS))
      have : ¬ listed.getD j false = true := fun h => by have := hjs j ((hw.mem j).1 h); omega
      simp only [Array.getD_eq_getD_getElem?] at this ⊢
      have hlt : j < listed.size := by rw [hw.size]; exact hjs'
      rw [Array.getElem?_eq_some_iff.2 ⟨hlt, rfl⟩] at this ⊢
      simpa using this
    · have inm : ∀ i, i ∈ Region.ready .any ops listed → i < m := by
        intro i hi
        obtain ⟨hn, o, ho, hall⟩ := mem_ready.1 hi
        have hlt : i < ops.size := (Array.getElem?_eq_some_iff.1 ho).1
        rcases Nat.lt_or_ge i m with h' | h'
        · exact h'
        · exfalso
          apply hfull
          intro j hj
          have hbit : (tab.getD i 0).testBit j = true := by
            unfold apartOk at hc
            simp only [Bool.and_eq_true, List.all_eq_true] at hc
            have := hc.2 i (List.mem_range.2 hlt)
            rw [Bool.or_eq_true] at this
            rcases this with h'' | h''
            · have := of_decide_eq_true h''; omega
            · rw [List.all_eq_true] at h''
              exact h'' j (List.mem_range.2 (by omega))
          exact (hw.mem j).1 (closed_tab ht hw.closed i o ho hall j hbit)
      refine ⟨fun h0 => ?_, fun i hi => ?_⟩
      · -- the least that is not listed is ready
        exfalso
        have hex : ∃ j, j < m ∧ j ∉ js := by
          refine Classical.byContradiction fun hne => hfull fun j hj => ?_
          exact Classical.byContradiction fun hn => hne ⟨j, hj, hn⟩
        have hleast : ∃ j, (j < m ∧ j ∉ js) ∧ ∀ k, k < j → ¬ (k < m ∧ k ∉ js) := by
          obtain ⟨j, hj⟩ := hex
          induction j using Nat.strongRecOn with
          | _ j ihj =>
            by_cases hx : ∃ k, k < j ∧ (k < m ∧ k ∉ js)
            · obtain ⟨k, hk, hk'⟩ := hx
              exact ihj k hk hk'
            · exact ⟨j, hj, fun k hk hk' => hx ⟨k, hk, hk'⟩⟩
        obtain ⟨j, ⟨hj, hjn⟩, hmin⟩ := hleast
        have hjs' : j < ops.size := by omega
        have : j ∈ Region.ready .any ops listed := by
          refine mem_ready.2 ⟨?_, ops[j], Array.getElem?_eq_some_iff.2 ⟨hjs', rfl⟩, fun e he hb => ?_⟩
          · have hnn : ¬ listed.getD j false = true := fun h => hjn ((hw.mem j).1 h)
            simp only [Array.getD_eq_getD_getElem?] at hnn ⊢
            have hlt : j < listed.size := by rw [hw.size]; exact hjs'
            rw [Array.getElem?_eq_some_iff.2 ⟨hlt, rfl⟩] at hnn ⊢
            simpa using hnn
          · unfold tabOk at ht
            rw [List.all_eq_true] at ht
            have h3 := ht j (List.mem_range.2 hjs')
            rw [Array.getElem?_eq_some_iff.2 ⟨hjs', rfl⟩] at h3
            simp only [Bool.and_eq_true, List.all_eq_true] at h3
            have hlt : e.on < j := by have := h3.1 e (by simpa using he); simpa [hb] using this
            exact (hw.mem e.on).2 (Classical.byContradiction fun hn => hmin e.on hlt ⟨by omega, hn⟩)
        rw [h0] at this
        cases this
      · have him := inm i hi
        obtain ⟨hn, o, ho, hall⟩ := mem_ready.1 hi
        obtain ⟨hsel, hap⟩ := hrow i him o ho
        obtain ⟨o', ho', hd⟩ := hduty i him
        rw [ho] at ho'
        cases ho'
        have hinj : i ∉ js := fun h => by
          have := (hw.mem i).2 h
          simp only [Array.getD_eq_getD_getElem?] at hn this
          cases hx : listed[i]? <;> simp_all
        -- the actual state and the text's agree in what i looks at
        have hsame : ∀ t ∈ o.looksAt ops, (putAll ops val (List.range i) a₀).tmps[t]? = (putAll ops val js a₀).tmps[t]? := by
          intro t ht'
          by_cases hex : ∃ j, j < m ∧ dstOf ops j = some t
          · obtain ⟨j, hj, hdj⟩ := hex
            have hone : ∀ (ks : List Nat), (∀ k ∈ ks, k < m) → ∀ k ∈ ks, k ≠ j → dstOf ops k ≠ some t := fun ks hks k hk hkj => by
              have hkm := hks k hk
              exact ((hrow k hkm ops[k] (Array.getElem?_eq_some_iff.2 ⟨by omega, rfl⟩)).2 j hj hkj t hdj).1
            rw [putAll_one val t j hdj _ _ (hone _ (fun k hk => by have := List.mem_range.1 hk; omega)), putAll_one val t j hdj _ _ (hone js hjs)]
            have hiff : j ∈ List.range i ↔ j ∈ js := by
              rw [List.mem_range]
              rcases Nat.lt_trichotomy j i with hji | hji | hji
              · refine ⟨fun _ => ?_, fun _ => hji⟩
                exact (hw.mem j).1 (closed_tab ht hw.closed i o ho hall j (((hap j hj (by omega) t hdj).2 ht').1 hji))
              · subst hji
                exact ⟨fun h => by omega, fun h => absurd h hinj⟩
              · refine ⟨fun h => by omega, fun hjj => absurd ?_ hinj⟩
                have hbit := ((hap j hj (by omega) t hdj).2 ht').2 hji
                have hlj := (hw.mem j).2 hjj
                have hoj : ops[j]? = some ops[j] := Array.getElem?_eq_some_iff.2 ⟨by omega, rfl⟩
                exact (hw.mem i).1 (closed_tab ht hw.closed j ops[j] hoj (fun e he hb => hw.closed j _ hoj hlj e he hb) i hbit)
            by_cases hji : j ∈ js
            · rw [if_pos hji, if_pos (hiff.2 hji)]
            · rw [if_neg hji, if_neg (fun h => hji (hiff.1 h))]
          · have hno : ∀ (ks : List Nat), (∀ k ∈ ks, k < m) → ∀ k ∈ ks, dstOf ops k ≠ some t := fun ks hks k hk hk' => hex ⟨k, hks k hk, hk'⟩
            rw [putAll_other val t _ _ (hno _ (fun k hk => by have := List.mem_range.1 hk; omega)), putAll_other val t _ _ (hno js hjs)]
        have hstep : ∀ w', S (doneOf E (js ++ [i])) w' → wpAny P .any ops Q fuel (listed.setIfInBounds i true) ((putAll ops val js a₀).put o.dst (val i)) w' := by
          intro w' hS'
          have he : (putAll ops val js a₀).put o.dst (val i) = putAll ops val (js ++ [i]) a₀ := by
            rw [putAll_append]
            simp [putAll, dstOf, ho]
          rw [he]
          refine ih _ (js ++ [i]) w' (by simp; omega) (fun j hj => ?_) (hw.next ho hn hall) hS'
          rcases List.mem_append.1 hj with h' | h'
          · exact hjs j h'
          · rw [List.mem_singleton] at h'
            omega
        unfold wpOp
        simp only [ho]
        by_cases hiE : i ∈ E
        · have r2 := doneOf_at (E := E) (js := js) (i := i)
          have hnF := not_doneOf (E := E) hinj
          unfold DutyF at hd
          rw [if_pos hiE] at hd
          rw [r2] at hstep
          rcases hd with ⟨hwn, hv, hgo⟩ | ⟨hwn, hrun⟩
          · rw [wanted_same hsame] at hwn
            rw [if_neg (by simp [hwn])]
            rw [← hv]
            exact hstep w (hgo _ w hnF hS)
          · rw [wanted_same hsame] at hwn
            rw [if_pos hwn]
            refine .inl (((hrun _ w hnF hS).same hsel hsame).wp fun v w' hv => ?_)
            obtain ⟨hpv, hS'⟩ := hv
            rw [put_transfer (by rw [size_putAll, size_putAll]) hpv]
            exact hstep w' hS'
        · have r1 := doneOf_not (js := js) hiE
          unfold DutyF at hd
          rw [if_neg hiE] at hd
          rw [r1] at hstep
          rcases hd (doneOf E js) with ⟨hwn, hv⟩ | ⟨hwn, hrun⟩
          · rw [wanted_same hsame] at hwn
            rw [if_neg (by simp [hwn])]
            rw [← hv]
            exact hstep w hS
          · rw [wanted_same hsame] at hwn
            rw [if_pos hwn]
            refine .inl (((hrun w hS).same hsel hsame).wp fun v w' hv => ?_)
            obtain ⟨hpv, hS'⟩ := hv
            rw [put_transfer (by rw [size_putAll, size_putAll]) hpv]
            exact hstep w' hS'

/-- One walk in the text's order. -/
def RR4 (P : Program) (ops : Array Oper) (Q : Exit → Act → World → Prop) (S : List Nat → World → Prop) (E : List Nat) (i : Nat) (a : Act) : Nat → List Oper → Prop
  | 0, rest => ∀ w, S E w → wpList P ops Q rest a w
  | _ + 1, [] => False
  | m + 1, o :: rest => ∃ v, DutyF P ops S E i o a v ∧ RR4 P ops Q S E (i + 1) (a.put o.dst v) m rest

theorem RR4_run {S : List Nat → World → Prop} {E : List Nat} {i : Nat} {a : Act} {o : Oper} {rest : List Oper} {m : Nat} {Q : Exit → Act → World → Prop} {b : Act} (hi : (i ∈ E) = False) (hw : Region.wanted o (yielded ops a.tmps) = true)
    (h : ∀ j w, S j w → wpList P ops (YB (S j) b) [o] a w) (hb : ∃ v, b = a.put o.dst v) (hr : RR4 P ops Q S E (i + 1) b m rest) : RR4 P ops Q S E i a (m + 1) (o :: rest) := by
  obtain ⟨v, rfl⟩ := hb
  refine ⟨v, ?_, hr⟩
  unfold DutyF
  rw [if_neg (by rw [hi]; exact not_false)]
  intro j
  refine Duty.run hw (fun w hS => ?_)
  have := h j w hS
  have e : YB (S j) (a.put o.dst v) = YQ (S j) a o v := by
    funext e a' w'
    cases e <;> rfl
  rwa [e] at this

theorem RR4_skip {S : List Nat → World → Prop} {E : List Nat} {i : Nat} {a : Act} {o : Oper} {rest : List Oper} {m : Nat} {Q : Exit → Act → World → Prop} (hi : (i ∈ E) = False) (hw : Region.wanted o (yielded ops a.tmps) = false)
    {b : Act} (hb : b = a.put o.dst undef) (hr : RR4 P ops Q S E (i + 1) b m rest) : RR4 P ops Q S E i a (m + 1) (o :: rest) := by
  refine ⟨undef, ?_, hb ▸ hr⟩
  unfold DutyF
  rw [if_neg (by rw [hi]; exact not_false)]
  exact fun j => Duty.skip hw

/-- One that turns the world. -/
theorem RR4_turn {S : List Nat → World → Prop} {E : List Nat} {i : Nat} {a : Act} {o : Oper} {rest : List Oper} {m : Nat} {Q : Exit → Act → World → Prop} {b : Act} (hi : (i ∈ E) = True) (hw : Region.wanted o (yielded ops a.tmps) = true)
    (h : ∀ F w, i ∉ F → S F w → wpList P ops (YB (S (insOf E F i)) b) [o] a w) (hb : ∃ v, b = a.put o.dst v) (hr : RR4 P ops Q S E (i + 1) b m rest) : RR4 P ops Q S E i a (m + 1) (o :: rest) := by
  obtain ⟨v, rfl⟩ := hb
  refine ⟨v, ?_, hr⟩
  unfold DutyF
  rw [if_pos (by rw [hi]; exact True.intro)]
  refine .inr ⟨hw, fun F w hF hS => ?_⟩
  exact (runs_of_list (R := fun a' w' => a' = a.put o.dst v ∧ S (insOf E F i) w') (fun e a' w' h => by cases e <;> first | exact ⟨rfl, h⟩ | exact h.elim) hw (h F w hF hS) (fun d v' w' h => by
    have := congrArg Act.defers h.1
    cases hd : o.dst <;> simp [Act.put, hd] at this))

theorem RR4_end {S : List Nat → World → Prop} {E : List Nat} {i : Nat} {a : Act} {rest : List Oper} {Q : Exit → Act → World → Prop} (h : ∀ w, S E w → wpList P ops Q rest a w) : RR4 P ops Q S E i a 0 rest := h

theorem RR4.values {S : List Nat → World → Prop} {E : List Nat} : ∀ (m i : Nat) (rest : List Oper) (a : Act), (∀ j, rest[j]? = ops[i + j]?) → RR4 P ops Q S E i a m rest →
    ∃ val : Nat → Value, (∀ k, k < m → ∃ o, ops[i + k]? = some o ∧ DutyF P ops S E (i + k) o (putAll ops val (List.range' i k) a) (val (i + k))) ∧
      ∀ w, S E w → wpList P ops Q (rest.drop m) (putAll ops val (List.range' i m) a) w
  | 0, i, rest, a, _, h => ⟨fun _ => undef, fun k hk => by omega, fun w hw => by simpa [putAll] using h w hw⟩
  | m + 1, i, [], a, _, h => h.elim
  | m + 1, i, o :: rest, a, hr, ⟨v, hd, h⟩ => by
    have ho : ops[i]? = some o := by simpa using (hr 0).symm
    have hr' : ∀ j, rest[j]? = ops[i + 1 + j]? := fun j => by have := hr (j + 1); simpa [Nat.add_assoc, Nat.add_comm 1 j] using this
    obtain ⟨val, h1, h2⟩ := RR4.values m (i + 1) rest _ hr' h
    have hdst : dstOf ops i = o.dst := by simp [dstOf, ho]
    have keep : ∀ (k : Nat) (b : Act), putAll ops (fun n => if n = i then v else val n) (List.range' (i + 1) k) b = putAll ops val (List.range' (i + 1) k) b := by
      intro k b
      unfold putAll
      have : ∀ (l : List Nat), (∀ x ∈ l, x ≠ i) → ∀ b : Act, l.foldl (fun a j => a.put (dstOf ops j) (if j = i then v else val j)) b = l.foldl (fun a j => a.put (dstOf ops j) (val j)) b := by
        intro l
        induction l with
        | nil => intro _ b; rfl
        | cons x l ih =>
          intro hx b
          simp only [List.foldl_cons]
          rw [if_neg (hx x (by simp)), ih (fun y hy => hx y (by simp [hy]))]
      exact this _ (fun x hx => by have := (List.mem_range'_1.1 hx).1; omega) b
    refine ⟨fun n => if n = i then v else val n, fun k hk => ?_, fun w hw => ?_⟩
    · cases k with
      | zero => exact ⟨o, by simpa using ho, by simpa [putAll] using hd⟩
      | succ k =>
        obtain ⟨o', ho', hd'⟩ := h1 k (by omega)
        refine ⟨o', by rw [← ho']; congr 1; omega, ?_⟩
        have he : putAll ops (fun n => if n = i then v else val n) (List.range' i (k + 1)) a = putAll ops val (List.range' (i + 1) k) (a.put o.dst v) := by
          rw [List.range'_succ]
          show putAll ops _ (List.range' (i + 1) k) (a.put (dstOf ops i) (if i = i then v else val i)) = _
          rw [keep, if_pos rfl, hdst]
        have hv : (fun n => if n = i then v else val n) (i + (k + 1)) = val (i + 1 + k) := by
          show (if i + (k + 1) = i then v else val (i + (k + 1))) = _
          rw [if_neg (by omega), show i + (k + 1) = i + 1 + k from by omega]
        rw [he, hv]
        rw [show i + (k + 1) = i + 1 + k by omega]
        exact hd'
    · have he : putAll ops (fun n => if n = i then v else val n) (List.range' i (m + 1)) a = putAll ops val (List.range' (i + 1) m) (a.put o.dst v) := by
        rw [List.range'_succ]
        show putAll ops _ (List.range' (i + 1) m) (a.put (dstOf ops i) (if i = i then v else val i)) = _
        rw [keep, if_pos rfl, hdst]
      rw [he]
      simpa using h2 w hw

/-- A region that draws, where the operations of E, one behind the other, turn the world. -/
theorem wp_region_rr4 {id : Nat} {l : List Oper} {a : Act} {w : World} (m : Nat) (S : List Nat → World → Prop) (E : List Nat) (hm : P.follows .mixedOrders = true) (hok : rrOk l.toArray m = true) (hE : (E.all fun e => decide (e < m)) = true)
    (hS : S [] w.drew) (h : RR4 P l.toArray Q S E 0 a m l) : (Code.region id l.toArray true).wp P Q a w := by
  refine wp_region_any hm ?_
  show wpAny P .any l.toArray Q l.toArray.size (Array.replicate l.toArray.size false) a w.drew
  unfold rrOk at hok
  simp only [Bool.and_eq_true] at hok
  obtain ⟨val, h1, h2⟩ := RR4.values m 0 l a (fun j => by simp) h
  have := rr4_main (P := P) (Q := Q) (S := S) (E := E) (fun e he => by have := List.all_eq_true.1 hE e he; simpa using this) hok.1 hok.2 val a (fun k hk => by
    obtain ⟨o, ho, hd⟩ := h1 k hk
    refine ⟨o, by simpa using ho, ?_⟩
    rw [List.range_eq_range']
    simpa using hd) (fun w hw => by rw [List.range_eq_range']; simpa using h2 w hw) l.toArray.size (Array.replicate l.toArray.size false) [] w.drew (by simp) (by simp) ?_ (by rw [show doneOf E [] = [] by simp [doneOf]]; exact hS)
  · exact this
  · refine ⟨by simp, by simp, fun j => ?_, fun i o _ hl => ?_⟩
    · simp [Array.getD]
    · simp [Array.getD] at hl

end
end Go.Proofs.Ytffgjjhopopgcaa
