/-
  A rule for regions that draw their order: one walk in the text's order serves for all orders.
-/
import Derived.Orders
import Derived.Tactics
import Derived.Below
namespace Go.Proofs.Ytffgjjhopopgcaa
set_option linter.unusedVariables false
set_option linter.unusedSimpArgs false
open Go Go.RowKit

section
variable {P : Program} {ops : Array Oper} {Q : Exit → Act → World → Prop}

/-- What an operation waits for, by a table of masks. -/
def orOf (tab : Array Nat) : List Edge → Nat
  | [] => 0
  | e :: es => if Region.binds .any e then 2 ^ e.on ||| tab.getD e.on 0 ||| orOf tab es else orOf tab es

theorem testBit_orOf {tab : Array Nat} {j : Nat} : ∀ {es : List Edge}, (orOf tab es).testBit j = true →
    ∃ e ∈ es, Region.binds .any e = true ∧ (e.on = j ∨ (tab.getD e.on 0).testBit j = true)
  | [], h => by simp [orOf] at h
  | e :: es, h => by
    unfold orOf at h
    by_cases hb : Region.binds .any e = true
    · rw [if_pos hb] at h
      simp only [Nat.testBit_or, Bool.or_eq_true] at h
      rcases h with (h | h) | h
      · refine ⟨e, by simp, hb, .inl ?_⟩
        rw [Nat.testBit_two_pow] at h
        simpa using h
      · exact ⟨e, by simp, hb, .inr h⟩
      · obtain ⟨e', he, hx⟩ := testBit_orOf h
        exact ⟨e', by simp [he], hx⟩
    · rw [if_neg hb] at h
      obtain ⟨e', he, hx⟩ := testBit_orOf h
      exact ⟨e', by simp [he], hx⟩

def dstOf (ops : Array Oper) (j : Nat) : Option Tmp := (ops[j]?).bind (·.dst)

/-- The table is right, edges point back. -/
def tabOk (ops : Array Oper) (tab : Array Nat) : Bool :=
  (List.range ops.size).all fun i => match ops[i]? with
    | none => true
    | some o => (o.after.toList.all fun e => !Region.binds .any e || decide (e.on < i)) && tab.getD i 0 == orOf tab o.after.toList

/-- The first m: their targets are apart, and who looks at a target is ordered with it; no select. The rest: one behind the other, behind all. -/
def apartOk (ops : Array Oper) (tab : Array Nat) (m : Nat) : Bool :=
  decide (m ≤ ops.size) &&
  (List.range m).all (fun i => match ops[i]? with
    | none => false
    | some o => (match o.op with | .select .. => false | _ => true) &&
      (List.range m).all fun j => (i == j) || (match dstOf ops j with
        | none => true
        | some d => (dstOf ops i != some d) &&
          (!(o.looksAt ops).contains d || (if j < i then (tab.getD i 0).testBit j else (tab.getD j 0).testBit i)))) &&
  (List.range ops.size).all fun k => decide (k < m) || ((List.range k).all fun j => (tab.getD k 0).testBit j)

def rrOk (ops : Array Oper) (m : Nat) : Bool :=
  let tab := Region.before ops
  tabOk ops tab && apartOk ops tab m

def Closed (ops : Array Oper) (L : Nat → Prop) : Prop := ∀ i o, ops[i]? = some o → L i → ∀ e ∈ o.after, Region.binds .any e = true → L e.on

theorem closed_tab {tab : Array Nat} (ht : tabOk ops tab = true) {L : Nat → Prop} (hL : Closed ops L) :
    ∀ i o, ops[i]? = some o → (∀ e ∈ o.after, Region.binds .any e = true → L e.on) → ∀ j, (tab.getD i 0).testBit j = true → L j := by
  intro i
  induction i using Nat.strongRecOn with
  | _ i ih =>
    intro o ho hall j hj
    have hi : i < ops.size := (Array.getElem?_eq_some_iff.1 ho).1
    unfold tabOk at ht
    rw [List.all_eq_true] at ht
    have h1 := ht i (List.mem_range.2 hi)
    rw [ho] at h1
    simp only [Bool.and_eq_true, beq_iff_eq, List.all_eq_true] at h1
    rw [h1.2] at hj
    obtain ⟨e, he, hb, hx⟩ := testBit_orOf hj
    have hlt : e.on < i := by have := h1.1 e he; simpa [hb] using this
    have hLe := hall e (by simpa using he) hb
    rcases hx with rfl | hx
    · exact hLe
    · have hes : e.on < ops.size := by omega
      refine ih e.on hlt ops[e.on] (Array.getElem?_eq_some_iff.2 ⟨hes, rfl⟩) (fun e' he' hb' => hL e.on _ (Array.getElem?_eq_some_iff.2 ⟨hes, rfl⟩) hLe e' he' hb') j hx

/-- What an operation comes to: a value and a world, no panic. -/
def Runs (P : Program) (o : Oper) (a : Act) (w : World) (R : Value → World → Prop) : Prop :=
  match (execOp a.eval o).run P w with
  | .ok (.value v) w' => R v w'
  | .ok .skip w' => R undef w'
  | .ok (.enter f args) w' => Calls P f args w' fun
    | .returned v, w'' => R v w''
    | _, _ => False
  | .ok (.row row args) w' => Rows P row args w' R
  | _ => False

theorem Runs.mono {o : Oper} {a : Act} {w : World} {R R' : Value → World → Prop} (h : Runs P o a w R) (hr : ∀ v w', R v w' → R' v w') : Runs P o a w R' := by
  unfold Runs at *
  generalize (execOp a.eval o).run P w = r at *
  cases r with
  | ok n w' =>
    cases n <;> simp only at h ⊢
    case value v => exact hr _ _ h
    case skip => exact hr _ _ h
    case enter f args => exact Calls.mono h fun e w'' he => by cases e <;> first | exact hr _ _ he | exact he.elim
    case row row args => exact Rows.mono h fun v w'' hv => hr _ _ hv
  | halt x w' => exact h.elim

theorem Runs.wp {o : Oper} {a : Act} {w : World} {R : Value → World → Prop} {K : Act → World → Prop} (h : Runs P o a w R) (hk : ∀ v w', R v w' → K (a.put o.dst v) w') : o.wp P a w K Q := by
  unfold Oper.wp
  unfold Runs at h
  generalize (execOp a.eval o).run P w = r at *
  cases r with
  | ok n w' =>
    cases n <;> simp only [Oper.upon] at h ⊢
    case value v => exact hk _ _ h
    case skip => exact hk _ _ h
    case enter f args => exact Calls.mono h fun e w'' he => by cases e <;> first | exact hk _ _ he | exact he.elim
    case row row args => exact Rows.mono h fun v w'' hr => hk _ _ hr
    all_goals exact h.elim
  | halt x w' => cases x <;> exact h.elim

def putAll (ops : Array Oper) (val : Nat → Value) (js : List Nat) (a : Act) : Act := js.foldl (fun a j => a.put (dstOf ops j) (val j)) a

theorem putAll_append (val : Nat → Value) (js ks : List Nat) (a : Act) : putAll ops val (js ++ ks) a = putAll ops val ks (putAll ops val js a) := by simp [putAll]

theorem getElem?_put (a : Act) (d : Option Tmp) (v : Value) (t : Nat) : (a.put d v).tmps[t]? = if d = some t then (a.tmps[t]?).map (fun _ => v) else a.tmps[t]? := by
  cases d with
  | none => simp [Act.put]
  | some d =>
    by_cases h : d = t
    · subst h
      simp only [Act.put, if_true]
      by_cases hs : d < a.tmps.size
      · simp [hs]
      · have h1 : (a.tmps.setIfInBounds d v)[d]? = none := Array.getElem?_eq_none (by simpa using Nat.le_of_not_lt hs)
        have h2 : a.tmps[d]? = none := Array.getElem?_eq_none (Nat.le_of_not_lt hs)
        rw [h1, h2]
        rfl
    · simp only [Act.put]
      rw [Array.getElem?_setIfInBounds_ne h, if_neg (by simpa using h)]

theorem size_put (a : Act) (d : Option Tmp) (v : Value) : (a.put d v).tmps.size = a.tmps.size := by cases d <;> simp [Act.put]

theorem putAll_other (val : Nat → Value) (t : Nat) : ∀ (js : List Nat) (a : Act), (∀ j ∈ js, dstOf ops j ≠ some t) → (putAll ops val js a).tmps[t]? = a.tmps[t]?
  | [], _, _ => rfl
  | j :: js, a, h => by
    show (putAll ops val js (a.put (dstOf ops j) (val j))).tmps[t]? = _
    rw [putAll_other val t js _ (fun k hk => h k (by simp [hk])), getElem?_put, if_neg (h j (by simp))]

/-- Of the targets t is that of one alone. -/
theorem putAll_one (val : Nat → Value) (t i : Nat) (hi : dstOf ops i = some t) : ∀ (js : List Nat) (a : Act), (∀ j ∈ js, j ≠ i → dstOf ops j ≠ some t) →
    (putAll ops val js a).tmps[t]? = if i ∈ js then (a.tmps[t]?).map (fun _ => val i) else a.tmps[t]?
  | [], a, _ => by simp [putAll]
  | j :: js, a, h => by
    show (putAll ops val js (a.put (dstOf ops j) (val j))).tmps[t]? = _
    rw [putAll_one val t i hi js _ (fun k hk => h k (by simp [hk])), getElem?_put]
    by_cases hji : j = i
    · subst hji
      simp only [hi, if_true, List.mem_cons, true_or]
      by_cases hm : j ∈ js
      · rw [if_pos hm]; cases a.tmps[t]? <;> rfl
      · rw [if_neg hm]
    · rw [if_neg (h j (by simp) hji)]
      simp [Ne.symm hji]

theorem put_none (a : Act) (v : Value) : a.put none v = a := rfl

theorem putAll_perm (val : Nat → Value) {js ks : List Nat} (hp : js.Perm ks) (hd : ∀ x ∈ js, ∀ y ∈ js, x ≠ y → ∀ d, dstOf ops x = some d → dstOf ops y ≠ some d) (a : Act) :
    putAll ops val js a = putAll ops val ks a := by
  refine List.Perm.foldl_eq' hp (fun x hx y hy z => ?_) a
  by_cases hxy : x = y
  · subst hxy; rfl
  · exact Act.put_comm z (val x) (val y) (fun d h => hd x hx y hy hxy d h)

/-- States that agree in what an operation looks at. -/
theorem execOp_same {o : Oper} (hs : ∀ cs b, o.op ≠ .select cs b) {a b : Act} (h : ∀ t ∈ o.looksAt ops, a.tmps[t]? = b.tmps[t]?) : execOp a.eval o = execOp b.eval o := by
  refine execOp_congr o hs fun x hx => ?_
  cases x with
  | tmp t =>
    have : t ∈ o.looksAt ops := List.mem_append_left _ (List.mem_filterMap.2 ⟨.tmp t, by simpa using hx, rfl⟩)
    simp [Act.eval, h t this]
  | _ => rfl

theorem wanted_same {o : Oper} {a b : Act} (h : ∀ t ∈ o.looksAt ops, a.tmps[t]? = b.tmps[t]?) : Region.wanted o (yielded ops a.tmps) = Region.wanted o (yielded ops b.tmps) := by
  unfold Region.wanted
  cases hg : o.guard with
  | none => rfl
  | some gw =>
    obtain ⟨g, want⟩ := gw
    have hy : yielded ops a.tmps g = yielded ops b.tmps g := by
      unfold yielded
      cases ht : (ops[g]?).bind (·.dst) with
      | none => rfl
      | some t =>
        have : t ∈ o.looksAt ops := by simp [Oper.looksAt, hg, ht]
        simp [h t this]
    simp only [hy]

theorem Runs.same {o : Oper} (hs : ∀ cs b, o.op ≠ .select cs b) {a b : Act} (h : ∀ t ∈ o.looksAt ops, a.tmps[t]? = b.tmps[t]?) {w : World} {R : Value → World → Prop} (hr : Runs P o a w R) : Runs P o b w R := by
  unfold Runs at *
  rwa [execOp_same hs h] at hr

/-- The duty of one operation, in the state that the text's order makes, in any world of S. -/
def Duty (P : Program) (ops : Array Oper) (S : World → Prop) (o : Oper) (a : Act) (v : Value) : Prop :=
  (Region.wanted o (yielded ops a.tmps) = false ∧ v = undef) ∨
  (Region.wanted o (yielded ops a.tmps) = true ∧ ∀ w, S w → Runs P o a w fun v' w' => a.put o.dst v' = a.put o.dst v ∧ S w')

theorem size_putAll (val : Nat → Value) : ∀ (js : List Nat) (a : Act), (putAll ops val js a).tmps.size = a.tmps.size
  | [], _ => rfl
  | j :: js, a => by
    show (putAll ops val js (a.put (dstOf ops j) (val j))).tmps.size = _
    rw [size_putAll val js, size_put]

theorem put_transfer {a b : Act} {d : Option Tmp} {v v' : Value} (hs : a.tmps.size = b.tmps.size) (h : b.put d v' = b.put d v) : a.put d v' = a.put d v := by
  cases d with
  | none => rfl
  | some d =>
    by_cases hd : d < b.tmps.size
    · have : v' = v := by
        have h1 := congrArg (fun x : Act => x.tmps[d]?) h
        simpa [Act.put, hd] using h1
      rw [this]
    · have ha : ¬ d < a.tmps.size := by rw [hs]; exact hd
      simp [Act.put, Array.setIfInBounds, ha]

/-- What stands behind one operation alone. -/
def YQ (S : World → Prop) (a : Act) (o : Oper) (v : Value) : Exit → Act → World → Prop
  | .normal, a', w' => a' = a.put o.dst v ∧ S w'
  | _, _, _ => False

theorem Duty.skip {S : World → Prop} {o : Oper} {a : Act} (h : Region.wanted o (yielded ops a.tmps) = false) : Duty P ops S o a undef := .inl ⟨h, rfl⟩

theorem Duty.run {S : World → Prop} {o : Oper} {a : Act} {v : Value} (hw : Region.wanted o (yielded ops a.tmps) = true)
    (h : ∀ w, S w → wpList P ops (YQ S a o v) [o] a w) : Duty P ops S o a v := by
  refine .inr ⟨hw, fun w hS => ?_⟩
  have h1 := h w hS
  unfold wpList at h1
  rw [if_pos hw] at h1
  rcases h1 with h1 | ⟨_, a', w', h1⟩
  · unfold Oper.wp at h1
    unfold Runs
    generalize (execOp a.eval o).run P w = r at *
    cases r with
    | ok n w' =>
      cases n <;> simp only [Oper.upon] at h1 ⊢
      case value v' => exact h1
      case skip => exact h1
      case enter f args =>
        refine Calls.mono h1 fun e w'' he => ?_
        cases e with
        | returned v' => exact he
        | panicked c => exact he
        | outgrown => exact he.elim fun a' he => he.elim fun w3 h3 => h3
      case row row args => exact h1
      case defer d =>
        have := congrArg Act.defers h1.1
        cases hd : o.dst <;> simp [Act.put, hd] at this
    | halt x w' => cases x <;> simp only [Oper.upon] at h1 <;> exact h1
  · exact h1.elim

/-- One walk in the text's order. -/
def RR (P : Program) (ops : Array Oper) (Q : Exit → Act → World → Prop) (S : World → Prop) (a : Act) : Nat → List Oper → Prop
  | 0, rest => ∀ w, S w → wpList P ops Q rest a w
  | _ + 1, [] => False
  | m + 1, o :: rest => ∃ v, Duty P ops S o a v ∧ RR P ops Q S (a.put o.dst v) m rest

theorem RR_step {S : World → Prop} {a : Act} {o : Oper} {rest : List Oper} {m : Nat} {Q : Exit → Act → World → Prop} (v : Value) (hd : Duty P ops S o a v) (h : RR P ops Q S (a.put o.dst v) m rest) : RR P ops Q S a (m + 1) (o :: rest) := ⟨v, hd, h⟩

/-- What stands behind one operation alone, by the state. -/
def YB (S : World → Prop) (b : Act) : Exit → Act → World → Prop
  | .normal, a', w' => a' = b ∧ S w'
  | _, _, _ => False

theorem RR_run {S : World → Prop} {a : Act} {o : Oper} {rest : List Oper} {m : Nat} {Q : Exit → Act → World → Prop} {b : Act} (hw : Region.wanted o (yielded ops a.tmps) = true)
    (h : ∀ w, S w → wpList P ops (YB S b) [o] a w) (hb : ∃ v, b = a.put o.dst v) (hr : RR P ops Q S b m rest) : RR P ops Q S a (m + 1) (o :: rest) := by
  obtain ⟨v, rfl⟩ := hb
  exact ⟨v, Duty.run hw (fun w hS => by
    have := h w hS
    have e : YB S (a.put o.dst v) = YQ S a o v := by
      funext e a' w'
      cases e <;> rfl
    rwa [e] at this), hr⟩

theorem RR_skip {S : World → Prop} {a : Act} {o : Oper} {rest : List Oper} {m : Nat} {Q : Exit → Act → World → Prop} (hw : Region.wanted o (yielded ops a.tmps) = false)
    {b : Act} (hb : b = a.put o.dst undef) (hr : RR P ops Q S b m rest) : RR P ops Q S a (m + 1) (o :: rest) := ⟨undef, Duty.skip hw, hb ▸ hr⟩

theorem RR_end {S : World → Prop} {a : Act} {rest : List Oper} {Q : Exit → Act → World → Prop} (h : ∀ w, S w → wpList P ops Q rest a w) : RR P ops Q S a 0 rest := h

theorem RR.values {S : World → Prop} : ∀ (m i : Nat) (rest : List Oper) (a : Act), (∀ j, rest[j]? = ops[i + j]?) → RR P ops Q S a m rest →
    ∃ val : Nat → Value, (∀ k, k < m → ∃ o, ops[i + k]? = some o ∧ Duty P ops S o (putAll ops val (List.range' i k) a) (val (i + k))) ∧
      ∀ w, S w → wpList P ops Q (rest.drop m) (putAll ops val (List.range' i m) a) w
  | 0, i, rest, a, _, h => ⟨fun _ => undef, fun k hk => by omega, fun w hw => by simpa [putAll] using h w hw⟩
  | m + 1, i, [], a, _, h => h.elim
  | m + 1, i, o :: rest, a, hr, ⟨v, hd, h⟩ => by
    have ho : ops[i]? = some o := by simpa using (hr 0).symm
    have hr' : ∀ j, rest[j]? = ops[i + 1 + j]? := fun j => by have := hr (j + 1); simpa [Nat.add_assoc, Nat.add_comm 1 j] using this
    obtain ⟨val, h1, h2⟩ := RR.values m (i + 1) rest _ hr' h
    have hdst : dstOf ops i = o.dst := by simp [dstOf, ho]
    have keep : ∀ (k : Nat) (b : Act), putAll ops (fun n => if n = i then v else val n) (List.range' (i + 1) k) b = putAll ops val (List.range' (i + 1) k) b := by
      intro k b
      unfold putAll
      have : ∀ (l : List Nat), (∀ x ∈ l, x ≠ i) → ∀ b : Act, l.foldl (fun a j => a.put (dstOf ops j) (if j = i then v else val j)) b = l.foldl (fun a j => a.put (dstOf ops j) (val j)) b := by
        intro l
        induction l with
        | nil => intro _ b; rfl
        | cons x l ih =>
          intro hx b
          simp only [List.foldl_cons]
          rw [if_neg (hx x (by simp)), ih (fun y hy => hx y (by simp [hy]))]
      exact this _ (fun x hx => by have := (List.mem_range'_1.1 hx).1; omega) b
    refine ⟨fun n => if n = i then v else val n, fun k hk => ?_, fun w hw => ?_⟩
    · cases k with
      | zero => exact ⟨o, by simpa using ho, by simpa [putAll] using hd⟩
      | succ k =>
        obtain ⟨o', ho', hd'⟩ := h1 k (by omega)
        refine ⟨o', by rw [← ho']; congr 1; omega, ?_⟩
        have he : putAll ops (fun n => if n = i then v else val n) (List.range' i (k + 1)) a = putAll ops val (List.range' (i + 1) k) (a.put o.dst v) := by
          rw [List.range'_succ]
          show putAll ops _ (List.range' (i + 1) k) (a.put (dstOf ops i) (if i = i then v else val i)) = _
          rw [keep, if_pos rfl, hdst]
        have hv : (fun n => if n = i then v else val n) (i + (k + 1)) = val (i + 1 + k) := by
          show (if i + (k + 1) = i then v else val (i + (k + 1))) = _
          rw [if_neg (by omega), show i + (k + 1) = i + 1 + k from by omega]
        rw [he, hv]
        exact hd'
    · have he : putAll ops (fun n => if n = i then v else val n) (List.range' i (m + 1)) a = putAll ops val (List.range' (i + 1) m) (a.put o.dst v) := by
        rw [List.range'_succ]
        show putAll ops _ (List.range' (i + 1) m) (a.put (dstOf ops i) (if i = i then v else val i)) = _
        rw [keep, if_pos rfl, hdst]
      rw [he]
      simpa using h2 w hw

/-- The executed ones. -/
structure Went (ops : Array Oper) (listed : Array Bool) (js : List Nat) : Prop where
  size : listed.size = ops.size
  nodup : js.Nodup
  mem : ∀ j, listed.getD j false = true ↔ j ∈ js
  closed : Closed ops (fun j => listed.getD j false = true)

theorem Went.next {listed : Array Bool} {js : List Nat} (h : Went ops listed js) {i : Nat} {o : Oper} (ho : ops[i]? = some o) (hn : listed.getD i true = false)
    (hall : ∀ e ∈ o.after, Region.binds .any e = true → listed.getD e.on false = true) : Went ops (listed.setIfInBounds i true) (js ++ [i]) := by
  have hi : i < ops.size := (Array.getElem?_eq_some_iff.1 ho).1
  have hget : ∀ j, (listed.setIfInBounds i true).getD j false = true ↔ (j = i ∨ listed.getD j false = true) := by
    intro j
    by_cases hj : j = i
    · subst hj
      simp [Array.getD, h.size, hi]
    · simp only [hj, false_or]
      rw [show (listed.setIfInBounds i true).getD j false = listed.getD j false from by
        simp only [Array.getD_eq_getD_getElem?]
        rw [Array.getElem?_setIfInBounds_ne (Ne.symm hj)]]
  refine ⟨by simp [h.size], ?_, fun j => ?_, fun k ok hk hlk e he hb => ?_⟩
  · refine List.nodup_append.2 ⟨h.nodup, by simp, fun x hx y hy => ?_⟩
    rw [List.mem_singleton] at hy
    subst hy
    intro e
    subst e
    have := (h.mem x).2 hx
    simp only [Array.getD_eq_getD_getElem?] at hn this
    cases hx : listed[x]? <;> simp_all
  · rw [hget, List.mem_append, List.mem_singleton, ← h.mem j]
    exact Or.comm
  · have hlk' := (hget k).1 hlk
    show (listed.setIfInBounds i true).getD e.on false = true
    rw [hget]
    rcases hlk' with rfl | hlk'
    · rw [ho] at hk
      cases hk
      exact .inr (hall e he hb)
    · exact .inr (h.closed k ok hk hlk' e he hb)

theorem rr_tail {tab : Array Nat} {m : Nat} (ht : tabOk ops tab = true) (hc : apartOk ops tab m = true) : ∀ (fuel : Nat) (listed : Array Bool) (k : Nat) (a : Act) (w : World),
    m ≤ k → fuel + k = ops.size → listed.size = ops.size → (∀ j, j < k → listed.getD j false = true) → (∀ j, k ≤ j → j < ops.size → listed.getD j true = false) →
    wpList P ops Q (ops.toList.drop k) a w → wpAny P .any ops Q fuel listed a w := by
  intro fuel
  induction fuel with
  | zero =>
    intro listed k a w hmk hf hs h1 h2 h
    have hk : k = ops.size := by omega
    subst hk
    refine ⟨?_, by rw [List.drop_eq_nil_of_le (by simp)] at h; exact h⟩
    rw [List.eq_nil_iff_forall_not_mem]
    intro j hj
    obtain ⟨hn, o, ho, _⟩ := mem_ready.1 hj
    have hlt : j < ops.size := (Array.getElem?_eq_some_iff.1 ho).1
    have := h1 j hlt
    simp only [Array.getD_eq_getD_getElem?] at hn this
    cases hx : listed[j]? <;> simp_all
  | succ fuel ih =>
    intro listed k a w hmk hf hs h1 h2 h
    have hk : k < ops.size := by omega
    have hok : ops[k]? = some ops[k] := Array.getElem?_eq_some_iff.2 ⟨hk, rfl⟩
    have only : ∀ j, j ∈ Region.ready .any ops listed → j = k := by
      intro j hj
      obtain ⟨hn, o, ho, hall⟩ := mem_ready.1 hj
      have hlt : j < ops.size := (Array.getElem?_eq_some_iff.1 ho).1
      rcases Nat.lt_trichotomy j k with hjk | hjk | hjk
      · have := h1 j hjk
        simp only [Array.getD_eq_getD_getElem?] at hn this
        cases hx : listed[j]? <;> simp_all
      · exact hjk
      · -- k is not listed, and j waits for it
        have hcl : Closed ops (fun x => listed.getD x false = true) := by
          intro x ox hx hlx e he hb
          have hxk : x < k := by
            rcases Nat.lt_or_ge x k with h' | h'
            · exact h'
            · have hxs : x < ops.size := (Array.getElem?_eq_some_iff.1 hx).1
              have := h2 x h' hxs
              simp only [Array.getD_eq_getD_getElem?] at this hlx
              cases hx : listed[x]? <;> simp_all
          have hxs : x < ops.size := (Array.getElem?_eq_some_iff.1 hx).1
          unfold tabOk at ht
          rw [List.all_eq_true] at ht
          have h3 := ht x (List.mem_range.2 hxs)
          rw [hx] at h3
          simp only [Bool.and_eq_true, List.all_eq_true] at h3
          have hlt : e.on < x := by have := h3.1 e (by simpa using he); simpa [hb] using this
          exact h1 _ (by omega)
        have hbit : (tab.getD j 0).testBit k = true := by
          unfold apartOk at hc
          simp only [Bool.and_eq_true, List.all_eq_true] at hc
          have := hc.2 j (List.mem_range.2 hlt)
          rw [Bool.or_eq_true] at this
          rcases this with h' | h'
          · have := of_decide_eq_true h'; omega
          · rw [List.all_eq_true] at h'
            exact h' k (List.mem_range.2 hjk)
        have hlk := closed_tab ht hcl j o ho hall k hbit
        have := h2 k (Nat.le_refl _) hk
        simp only [Array.getD_eq_getD_getElem?] at hlk this
        cases hx : listed[k]? <;> simp_all
    have hdrop : ops.toList.drop k = ops[k] :: ops.toList.drop (k + 1) := by
      rw [List.drop_eq_getElem_cons (by simpa using hk)]
      simp
    have hkr : k ∈ Region.ready .any ops listed := by
      refine mem_ready.2 ⟨h2 k (Nat.le_refl _) hk, ops[k], hok, fun e he hb => ?_⟩
      unfold tabOk at ht
      rw [List.all_eq_true] at ht
      have h3 := ht k (List.mem_range.2 hk)
      rw [hok] at h3
      simp only [Bool.and_eq_true, List.all_eq_true] at h3
      have hlt : e.on < k := by have := h3.1 e (by simpa using he); simpa [hb] using this
      exact h1 _ hlt
    refine ⟨fun h0 => (by rw [h0] at hkr; cases hkr), fun i hi => ?_⟩
    obtain rfl := only i hi
    rw [hdrop] at h
    unfold wpList at h
    unfold wpOp
    simp only [hok]
    have step : ∀ a' w', wpList P ops Q (ops.toList.drop (i + 1)) a' w' → wpAny P .any ops Q fuel (listed.setIfInBounds i true) a' w' := by
      intro a' w' h'
      refine ih _ (i + 1) a' w' (by omega) (by omega) (by simpa using hs) (fun j hj => ?_) (fun j hj hjs => ?_) h'
      · rcases Nat.lt_or_ge j i with h'' | h''
        · have := h1 j h''
          simp only [Array.getD_eq_getD_getElem?] at this ⊢
          rw [Array.getElem?_setIfInBounds_ne (by omega)]
          exact this
        · obtain rfl : j = i := by omega
          simp [Array.getD, hs, hk]
      · have := h2 j (by omega) hjs
        simp only [Array.getD_eq_getD_getElem?] at this ⊢
        rw [Array.getElem?_setIfInBounds_ne (by omega)]
        exact this
    split
    · rename_i hw
      rw [if_pos hw] at h
      exact h.imp (Oper.wp_mono step) id
    · rename_i hw
      rw [if_neg hw] at h
      exact step _ _ h

theorem rr_main {tab : Array Nat} {m : Nat} {S : World → Prop} (ht : tabOk ops tab = true) (hc : apartOk ops tab m = true) (val : Nat → Value) (a₀ : Act)
    (hduty : ∀ k, k < m → ∃ o, ops[k]? = some o ∧ Duty P ops S o (putAll ops val (List.range k) a₀) (val k))
    (htail : ∀ w, S w → wpList P ops Q (ops.toList.drop m) (putAll ops val (List.range m) a₀) w) :
    ∀ (fuel : Nat) (listed : Array Bool) (js : List Nat) (w : World), fuel + js.length = ops.size → (∀ j ∈ js, j < m) → Went ops listed js → S w →
      wpAny P .any ops Q fuel listed (putAll ops val js a₀) w := by
  have hm : m ≤ ops.size := by
    unfold apartOk at hc
    simp only [Bool.and_eq_true, decide_eq_true_eq] at hc
    exact hc.1.1
  have hrow : ∀ i, i < m → ∀ o, ops[i]? = some o → (∀ cs b, o.op ≠ .select cs b) ∧ ∀ j, j < m → i ≠ j → ∀ d, dstOf ops j = some d →
      dstOf ops i ≠ some d ∧ (d ∈ o.looksAt ops → (j < i → (tab.getD i 0).testBit j = true) ∧ (i < j → (tab.getD j 0).testBit i = true)) := by
    intro i hi o ho
    unfold apartOk at hc
    simp only [Bool.and_eq_true, List.all_eq_true] at hc
    have h1 := hc.1.2 i (List.mem_range.2 hi)
    rw [ho] at h1
    simp only [Bool.and_eq_true, List.all_eq_true] at h1
    refine ⟨fun cs b e => by simp [e] at h1, fun j hj hij d hd => ?_⟩
    have h2 := h1.2 j (List.mem_range.2 hj)
    rw [hd] at h2
    simp only [Bool.or_eq_true, beq_iff_eq, hij, false_or, Bool.and_eq_true, bne_iff_ne, ne_eq, Bool.not_eq_true'] at h2
    refine ⟨h2.1, fun hl => ?_⟩
    rcases h2.2 with h3 | h3
    · rw [← Bool.not_eq_true, List.contains_iff_mem] at h3
      exact absurd hl h3
    · refine ⟨fun hji => ?_, fun hij' => ?_⟩
      · rwa [if_pos hji] at h3
      · rwa [if_neg (by omega)] at h3
  have hdd : ∀ js : List Nat, (∀ j ∈ js, j < m) → ∀ x ∈ js, ∀ y ∈ js, x ≠ y → ∀ d, dstOf ops x = some d → dstOf ops y ≠ some d := by
    intro js hjs x hx y hy hxy d hd
    exact ((hrow y (hjs y hy) ops[y]! (by rw [getElem!_pos ops y (by have := hjs y hy; omega)]; exact Array.getElem?_eq_some_iff.2 ⟨by have := hjs y hy; omega, rfl⟩)).2 x (hjs x hx) (Ne.symm hxy) d hd).1
  intro fuel
  induction fuel with
  | zero =>
    intro listed js w hf hjs hw hS
    have hp : js.Perm (List.range m) := by
      refine (List.perm_ext_iff_of_nodup hw.nodup List.nodup_range).2 fun j => ?_
      rw [List.mem_range]
      refine ⟨hjs j, fun hj => Classical.byContradiction fun hn => ?_⟩
      have hle := (List.nodup_cons.2 ⟨hn, hw.nodup⟩).length_le_of_subset (l₂ := List.range m) (fun x hx => by
        rcases List.mem_cons.1 hx with rfl | hx
        · exact List.mem_range.2 hj
        · exact List.mem_range.2 (hjs x hx))
      simp only [List.length_range, List.length_cons] at hle
      omega
    have hmm : m = ops.size := by
      have := hp.length_eq
      simp at this
      omega
    rw [putAll_perm val hp (hdd js hjs)]
    refine rr_tail ht hc 0 listed m _ w (Nat.le_refl _) (by omega) hw.size (fun j hj => ?_) (fun j hj hjs => by omega) (htail w hS)
    exact (hw.mem j).2 (hp.mem_iff.2 (List.mem_range.2 hj))
  | succ fuel ih =>
    intro listed js w hf hjs hw hS
    by_cases hfull : ∀ j, j < m → j ∈ js
    · have hp : js.Perm (List.range m) := by
        refine (List.perm_ext_iff_of_nodup hw.nodup List.nodup_range).2 fun j => ?_
        rw [List.mem_range]
        exact ⟨hjs j, hfull j⟩
      have hl : js.length = m := by simpa using hp.length_eq
      rw [putAll_perm val hp (hdd js hjs)]
      refine rr_tail ht hc (fuel + 1) listed m _ w (Nat.le_refl _) (by omega) hw.size (fun j hj => (hw.mem j).2 (hfull j hj)) (fun j hj hjs' => ?_) (htail w hS)
      have : ¬ listed.getD j false = true := fun h => by have := hjs j ((hw.mem j).1 h); omega
      simp only [Array.getD_eq_getD_getElem?] at this ⊢
      have hlt : j < listed.size := by rw [hw.size]; exact hjs'
      rw [Array.getElem?_eq_some_iff.2 ⟨hlt, rfl⟩] at this ⊢
      simpa using this
    · have inm : ∀ i, i ∈ Region.ready .any ops listed → i < m := by
        intro i hi
        obtain ⟨hn, o, ho, hall⟩ := mem_ready.1 hi
        have hlt : i < ops.size := (Array.getElem?_eq_some_iff.1 ho).1
        rcases Nat.lt_or_ge i m with h' | h'
        · exact h'
        · exfalso
          apply hfull
          intro j hj
          have hbit : (tab.getD i 0).testBit j = true := by
            unfold apartOk at hc
            simp only [Bool.and_eq_true, List.all_eq_true] at hc
            have := hc.2 i (List.mem_range.2 hlt)
            rw [Bool.or_eq_true] at this
            rcases this with h'' | h''
            · have := of_decide_eq_true h''; omega
            · rw [List.all_eq_true] at h''
              exact h'' j (List.mem_range.2 (by omega))
          exact (hw.mem j).1 (closed_tab ht hw.closed i o ho hall j hbit)
      refine ⟨fun h0 => ?_, fun i hi => ?_⟩
      · -- the least that is not listed is ready
        exfalso
        have hex : ∃ j, j < m ∧ j ∉ js := by
          refine Classical.byContradiction fun hne => hfull fun j hj => ?_
          exact Classical.byContradiction fun hn => hne ⟨j, hj, hn⟩
        have hleast : ∃ j, (j < m ∧ j ∉ js) ∧ ∀ k, k < j → ¬ (k < m ∧ k ∉ js) := by
          obtain ⟨j, hj⟩ := hex
          induction j using Nat.strongRecOn with
          | _ j ihj =>
            by_cases hx : ∃ k, k < j ∧ (k < m ∧ k ∉ js)
            · obtain ⟨k, hk, hk'⟩ := hx
              exact ihj k hk hk'
            · exact ⟨j, hj, fun k hk hk' => hx ⟨k, hk, hk'⟩⟩
        obtain ⟨j, ⟨hj, hjn⟩, hmin⟩ := hleast
        have hjs' : j < ops.size := by omega
        have : j ∈ Region.ready .any ops listed := by
          refine mem_ready.2 ⟨?_, ops[j], Array.getElem?_eq_some_iff.2 ⟨hjs', rfl⟩, fun e he hb => ?_⟩
          · have hnn : ¬ listed.getD j false = true := fun h => hjn ((hw.mem j).1 h)
            simp only [Array.getD_eq_getD_getElem?] at hnn ⊢
            have hlt : j < listed.size := by rw [hw.size]; exact hjs'
            rw [Array.getElem?_eq_some_iff.2 ⟨hlt, rfl⟩] at hnn ⊢
            simpa using hnn
          · unfold tabOk at ht
            rw [List.all_eq_true] at ht
            have h3 := ht j (List.mem_range.2 hjs')
            rw [Array.getElem?_eq_some_iff.2 ⟨hjs', rfl⟩] at h3
            simp only [Bool.and_eq_true, List.all_eq_true] at h3
            have hlt : e.on < j := by have := h3.1 e (by simpa using he); simpa [hb] using this
            exact (hw.mem e.on).2 (Classical.byContradiction fun hn => hmin e.on hlt ⟨by omega, hn⟩)
        rw [h0] at this
        cases this
      · have him := inm i hi
        obtain ⟨hn, o, ho, hall⟩ := mem_ready.1 hi
        obtain ⟨hsel, hap⟩ := hrow i him o ho
        obtain ⟨o', ho', hd⟩ := hduty i him
        rw [ho] at ho'
        cases ho'
        have hinj : i ∉ js := fun h => by
          have := (hw.mem i).2 h
          simp only [Array.getD_eq_getD_getElem?] at hn this
          cases hx : listed[i]? <;> simp_all
        -- the actual state and the text's agree in what i looks at
        have hsame : ∀ t ∈ o.looksAt ops, (putAll ops val (List.range i) a₀).tmps[t]? = (putAll ops val js a₀).tmps[t]? := by
          intro t ht'
          by_cases hex : ∃ j, j < m ∧ dstOf ops j = some t
          · obtain ⟨j, hj, hdj⟩ := hex
            have hone : ∀ (ks : List Nat), (∀ k ∈ ks, k < m) → ∀ k ∈ ks, k ≠ j → dstOf ops k ≠ some t := fun ks hks k hk hkj => by
              have hkm := hks k hk
              exact ((hrow k hkm ops[k] (Array.getElem?_eq_some_iff.2 ⟨by omega, rfl⟩)).2 j hj hkj t hdj).1
            rw [putAll_one val t j hdj _ _ (hone _ (fun k hk => by have := List.mem_range.1 hk; omega)), putAll_one val t j hdj _ _ (hone js hjs)]
            have hiff : j ∈ List.range i ↔ j ∈ js := by
              rw [List.mem_range]
              rcases Nat.lt_trichotomy j i with hji | hji | hji
              · refine ⟨fun _ => ?_, fun _ => hji⟩
                exact (hw.mem j).1 (closed_tab ht hw.closed i o ho hall j (((hap j hj (by omega) t hdj).2 ht').1 hji))
              · subst hji
                exact ⟨fun h => by omega, fun h => absurd h hinj⟩
              · refine ⟨fun h => by omega, fun hjj => absurd ?_ hinj⟩
                have hbit := ((hap j hj (by omega) t hdj).2 ht').2 hji
                have hlj := (hw.mem j).2 hjj
                have hoj : ops[j]? = some ops[j] := Array.getElem?_eq_some_iff.2 ⟨by omega, rfl⟩
                exact (hw.mem i).1 (closed_tab ht hw.closed j ops[j] hoj (fun e he hb => hw.closed j _ hoj hlj e he hb) i hbit)
            by_cases hji : j ∈ js
            · rw [if_pos hji, if_pos (hiff.2 hji)]
            · rw [if_neg hji, if_neg (fun h => hji (hiff.1 h))]
          · have hno : ∀ (ks : List Nat), (∀ k ∈ ks, k < m) → ∀ k ∈ ks, dstOf ops k ≠ some t := fun ks hks k hk hk' => hex ⟨k, hks k hk, hk'⟩
            rw [putAll_other val t _ _ (hno _ (fun k hk => by have := List.mem_range.1 hk; omega)), putAll_other val t _ _ (hno js hjs)]
        have hstep : ∀ w', S w' → wpAny P .any ops Q fuel (listed.setIfInBounds i true) ((putAll ops val js a₀).put o.dst (val i)) w' := by
          intro w' hS'
          have he : (putAll ops val js a₀).put o.dst (val i) = putAll ops val (js ++ [i]) a₀ := by
            rw [putAll_append]
            simp [putAll, dstOf, ho]
          rw [he]
          refine ih _ (js ++ [i]) w' (by simp; omega) (fun j hj => ?_) (hw.next ho hn hall) hS'
          rcases List.mem_append.1 hj with h' | h'
          · exact hjs j h'
          · rw [List.mem_singleton] at h'
            omega
        unfold wpOp
        simp only [ho]
        rcases hd with ⟨hwn, hv⟩ | ⟨hwn, hrun⟩
        · rw [wanted_same hsame] at hwn
          rw [if_neg (by simp [hwn])]
          rw [← hv]
          exact hstep w hS
        · rw [wanted_same hsame] at hwn
          rw [if_pos hwn]
          refine .inl (((hrun w hS).same hsel hsame).wp fun v w' hv => ?_)
          obtain ⟨hpv, hS'⟩ := hv
          rw [put_transfer (by rw [size_putAll, size_putAll]) hpv]
          exact hstep w' hS'

/-- A region that draws: one walk in the text's order; S holds throughout the first m operations, which may be in any order; the rest follows in order. -/
theorem wp_region_rr {id : Nat} {l : List Oper} {a : Act} {w : World} (m : Nat) (S : World → Prop) (hm : P.follows .mixedOrders = true) (hok : rrOk l.toArray m = true)
    (hS : S w.drew) (h : RR P l.toArray Q S a m l) : (Code.region id l.toArray true).wp P Q a w := by
  refine wp_region_any hm ?_
  show wpAny P .any l.toArray Q l.toArray.size (Array.replicate l.toArray.size false) a w.drew
  unfold rrOk at hok
  simp only [Bool.and_eq_true] at hok
  obtain ⟨val, h1, h2⟩ := RR.values m 0 l a (fun j => by simp) h
  have := rr_main (P := P) (Q := Q) hok.1 hok.2 val a (fun k hk => by
    obtain ⟨o, ho, hd⟩ := h1 k hk
    refine ⟨o, by simpa using ho, ?_⟩
    rw [List.range_eq_range']
    simpa using hd) (fun w hw => by rw [List.range_eq_range']; simpa using h2 w hw) l.toArray.size (Array.replicate l.toArray.size false) [] w.drew (by simp) (by simp) ?_ hS
  · exact this
  · refine ⟨by simp, by simp, fun j => ?_, fun i o _ hl => ?_⟩
    · simp [Array.getD]
    · simp [Array.getD] at hl

/-! ### The same where an operation's value hangs on the world (a new block's address): it is told by a predicate -/
def Grew (w w' : World) : Prop := Below w.heap.size w w'
theorem Grew.refl (w : World) : Grew w w := Below.refl _ _
theorem Grew.trans {a b c : World} (h : Grew a b) (k : Grew b c) : Grew a c := Below.trans h (k.mono h.size)

abbrev Spec := Value → World → Prop
def Stable (Φ : Spec) : Prop := ∀ v w w', Φ v w → Grew w w' → Φ v w'

theorem apart_row {tab : Array Nat} {m : Nat} (hc : apartOk ops tab m = true) : ∀ i, i < m → ∀ o, ops[i]? = some o → (∀ cs b, o.op ≠ .select cs b) ∧ ∀ j, j < m → i ≠ j → ∀ d, dstOf ops j = some d →
      dstOf ops i ≠ some d ∧ (d ∈ o.looksAt ops → (j < i → (tab.getD i 0).testBit j = true) ∧ (i < j → (tab.getD j 0).testBit i = true)) := by
  intro i hi o ho
  unfold apartOk at hc
  simp only [Bool.and_eq_true, List.all_eq_true] at hc
  have h1 := hc.1.2 i (List.mem_range.2 hi)
  rw [ho] at h1
  simp only [Bool.and_eq_true, List.all_eq_true] at h1
  refine ⟨fun cs b e => by simp [e] at h1, fun j hj hij d hd => ?_⟩
  have h2 := h1.2 j (List.mem_range.2 hj)
  rw [hd] at h2
  simp only [Bool.or_eq_true, beq_iff_eq, hij, false_or, Bool.and_eq_true, bne_iff_ne, ne_eq, Bool.not_eq_true'] at h2
  refine ⟨h2.1, fun hl => ?_⟩
  rcases h2.2 with h3 | h3
  · rw [← Bool.not_eq_true, List.contains_iff_mem] at h3
    exact absurd hl h3
  · refine ⟨fun hji => ?_, fun hij' => ?_⟩
    · rwa [if_pos hji] at h3
    · rwa [if_neg (by omega)] at h3

theorem apart_le {tab : Array Nat} {m : Nat} (hc : apartOk ops tab m = true) : m ≤ ops.size := by
  unfold apartOk at hc
  simp only [Bool.and_eq_true, decide_eq_true_eq] at hc
  exact hc.1.1

def Duty2 (P : Program) (ops : Array Oper) (S : World → Prop) (tab : Array Nat) (Φ : Nat → Spec) (a₀ : Act) (k : Nat) (o : Oper) : Prop :=
  ∀ (ρ : Nat → Value) (w : World), S w → (∀ i, i < k → (tab.getD k 0).testBit i = true → Φ i (ρ i) w) →
    (Region.wanted o (yielded ops (putAll ops ρ (List.range k) a₀).tmps) = false ∧ Φ k undef w) ∨
    (Region.wanted o (yielded ops (putAll ops ρ (List.range k) a₀).tmps) = true ∧ Runs P o (putAll ops ρ (List.range k) a₀) w fun v w' => Φ k v w' ∧ Grew w w')

theorem putAll_upd (ρ : Nat → Value) (i : Nat) (v : Value) : ∀ (js : List Nat) (a : Act), i ∉ js → putAll ops (fun n => if n = i then v else ρ n) js a = putAll ops ρ js a
  | [], _, _ => rfl
  | j :: js, a, h => by
    show putAll ops _ js (a.put (dstOf ops j) (if j = i then v else ρ j)) = putAll ops ρ js (a.put (dstOf ops j) (ρ j))
    rw [if_neg (by intro e; subst e; simp at h), putAll_upd ρ i v js _ (by intro h'; exact h (by simp [h']))]

theorem rr2_main {tab : Array Nat} {m : Nat} {S : World → Prop} {Φ : Nat → Spec} (hSt : ∀ w w', S w → Grew w w' → S w') (hΦ : ∀ k, Stable (Φ k)) (ht : tabOk ops tab = true) (hc : apartOk ops tab m = true) (a₀ : Act)
    (hduty : ∀ k, k < m → ∃ o, ops[k]? = some o ∧ Duty2 P ops S tab Φ a₀ k o)
    (htail : ∀ ρ w, S w → (∀ i, i < m → Φ i (ρ i) w) → wpList P ops Q (ops.toList.drop m) (putAll ops ρ (List.range m) a₀) w) :
    ∀ (fuel : Nat) (listed : Array Bool) (js : List Nat) (ρ : Nat → Value) (w : World), fuel + js.length = ops.size → (∀ j ∈ js, j < m) → Went ops listed js → S w → (∀ j ∈ js, Φ j (ρ j) w) →
      wpAny P .any ops Q fuel listed (putAll ops ρ js a₀) w := by
  have hm := apart_le hc
  have hrow := apart_row hc
  have hdd : ∀ js : List Nat, (∀ j ∈ js, j < m) → ∀ x ∈ js, ∀ y ∈ js, x ≠ y → ∀ d, dstOf ops x = some d → dstOf ops y ≠ some d := by
    intro js hjs x hx y hy hxy d hd
    exact ((hrow y (hjs y hy) ops[y]! (by rw [getElem!_pos ops y (by have := hjs y hy; omega)]; exact Array.getElem?_eq_some_iff.2 ⟨by have := hjs y hy; omega, rfl⟩)).2 x (hjs x hx) (Ne.symm hxy) d hd).1
  have hdone : ∀ (fuel : Nat) (listed : Array Bool) (js : List Nat) (ρ : Nat → Value) (w : World), fuel + js.length = ops.size → (∀ j ∈ js, j < m) → Went ops listed js → S w → (∀ j ∈ js, Φ j (ρ j) w) →
      js.Perm (List.range m) → wpAny P .any ops Q fuel listed (putAll ops ρ js a₀) w := by
    intro fuel listed js ρ w hf hjs hw hS hfacts hp
    have hl : js.length = m := by simpa using hp.length_eq
    rw [putAll_perm ρ hp (hdd js hjs)]
    refine rr_tail ht hc fuel listed m _ w (Nat.le_refl _) (by omega) hw.size (fun j hj => (hw.mem j).2 (hp.mem_iff.2 (List.mem_range.2 hj))) (fun j hj hjs' => ?_) (htail ρ w hS fun i hi => hfacts i (hp.mem_iff.2 (List.mem_range.2 hi)))
    have : ¬ listed.getD j false = true := fun h => by have := hjs j ((hw.mem j).1 h); omega
    simp only [Array.getD_eq_getD_getElem?] at this ⊢
    have hlt : j < listed.size := by rw [hw.size]; exact hjs'
    rw [Array.getElem?_eq_some_iff.2 ⟨hlt, rfl⟩] at this ⊢
    simpa using this
  intro fuel
  induction fuel with
  | zero =>
    intro listed js ρ w hf hjs hw hS hfacts
    have hp : js.Perm (List.range m) := by
      refine (List.perm_ext_iff_of_nodup hw.nodup List.nodup_range).2 fun j => ?_
      rw [List.mem_range]
      refine ⟨hjs j, fun hj => Classical.byContradiction fun hn => ?_⟩
      have hle := (List.nodup_cons.2 ⟨hn, hw.nodup⟩).length_le_of_subset (l₂ := List.range m) (fun x hx => by
        rcases List.mem_cons.1 hx with rfl | hx
        · exact List.mem_range.2 hj
        · exact List.mem_range.2 (hjs x hx))
      simp only [List.length_range, List.length_cons] at hle
      omega
    exact hdone 0 listed js ρ w hf hjs hw hS hfacts hp
  | succ fuel ih =>
    intro listed js ρ w hf hjs hw hS hfacts
    by_cases hfull : ∀ j, j < m → j ∈ js
    · have hp : js.Perm (List.range m) := by
        refine (List.perm_ext_iff_of_nodup hw.nodup List.nodup_range).2 fun j => ?_
        rw [List.mem_range]
        exact ⟨hjs j, hfull j⟩
      exact hdone (fuel + 1) listed js ρ w hf hjs hw hS hfacts hp
    · have inm : ∀ i, i ∈ Region.ready .any ops listed → i < m := by
        intro i hi
        obtain ⟨hn, o, ho, hall⟩ := mem_ready.1 hi
        have hlt : i < ops.size := (Array.getElem?_eq_some_iff.1 ho).1
        rcases Nat.lt_or_ge i m with h' | h'
        · exact h'
        · exfalso
          apply hfull
          intro j hj
          have hbit : (tab.getD i 0).testBit j = true := by
            unfold apartOk at hc
            simp only [Bool.and_eq_true, List.all_eq_true] at hc
            have := hc.2 i (List.mem_range.2 hlt)
            rw [Bool.or_eq_true] at this
            rcases this with h'' | h''
            · have := of_decide_eq_true h''; omega
            · rw [List.all_eq_true] at h''
              exact h'' j (List.mem_range.2 (by omega))
          exact (hw.mem j).1 (closed_tab ht hw.closed i o ho hall j hbit)
      refine ⟨fun h0 => ?_, fun i hi => ?_⟩
      · exfalso
        have hex : ∃ j, j < m ∧ j ∉ js := by
          refine Classical.byContradiction fun hne => hfull fun j hj => ?_
          exact Classical.byContradiction fun hn => hne ⟨j, hj, hn⟩
        have hleast : ∃ j, (j < m ∧ j ∉ js) ∧ ∀ k, k < j → ¬ (k < m ∧ k ∉ js) := by
          obtain ⟨j, hj⟩ := hex
          induction j using Nat.strongRecOn with
          | _ j ihj =>
            by_cases hx : ∃ k, k < j ∧ (k < m ∧ k ∉ js)
            · obtain ⟨k, hk, hk'⟩ := hx
              exact ihj k hk hk'
            · exact ⟨j, hj, fun k hk hk' => hx ⟨k, hk, hk'⟩⟩
        obtain ⟨j, ⟨hj, hjn⟩, hmin⟩ := hleast
        have hjs' : j < ops.size := by omega
        have : j ∈ Region.ready .any ops listed := by
          refine mem_ready.2 ⟨?_, ops[j], Array.getElem?_eq_some_iff.2 ⟨hjs', rfl⟩, fun e he hb => ?_⟩
          · have hnn : ¬ listed.getD j false = true := fun h => hjn ((hw.mem j).1 h)
            simp only [Array.getD_eq_getD_getElem?] at hnn ⊢
            have hlt : j < listed.size := by rw [hw.size]; exact hjs'
            rw [Array.getElem?_eq_some_iff.2 ⟨hlt, rfl⟩] at hnn ⊢
            simpa using hnn
          · unfold tabOk at ht
            rw [List.all_eq_true] at ht
            have h3 := ht j (List.mem_range.2 hjs')
            rw [Array.getElem?_eq_some_iff.2 ⟨hjs', rfl⟩] at h3
            simp only [Bool.and_eq_true, List.all_eq_true] at h3
            have hlt : e.on < j := by have := h3.1 e (by simpa using he); simpa [hb] using this
            exact (hw.mem e.on).2 (Classical.byContradiction fun hn => hmin e.on hlt ⟨by omega, hn⟩)
        rw [h0] at this
        cases this
      · have him := inm i hi
        obtain ⟨hn, o, ho, hall⟩ := mem_ready.1 hi
        obtain ⟨hsel, hap⟩ := hrow i him o ho
        obtain ⟨o', ho', hd⟩ := hduty i him
        rw [ho] at ho'
        cases ho'
        have hinj : i ∉ js := fun h => by
          have := (hw.mem i).2 h
          simp only [Array.getD_eq_getD_getElem?] at hn this
          cases hx : listed[i]? <;> simp_all
        have hsame : ∀ t ∈ o.looksAt ops, (putAll ops ρ (List.range i) a₀).tmps[t]? = (putAll ops ρ js a₀).tmps[t]? := by
          intro t ht'
          by_cases hex : ∃ j, j < m ∧ dstOf ops j = some t
          · obtain ⟨j, hj, hdj⟩ := hex
            have hone : ∀ (ks : List Nat), (∀ k ∈ ks, k < m) → ∀ k ∈ ks, k ≠ j → dstOf ops k ≠ some t := fun ks hks k hk hkj => by
              have hkm := hks k hk
              exact ((hrow k hkm ops[k] (Array.getElem?_eq_some_iff.2 ⟨by omega, rfl⟩)).2 j hj hkj t hdj).1
            rw [putAll_one ρ t j hdj _ _ (hone _ (fun k hk => by have := List.mem_range.1 hk; omega)), putAll_one ρ t j hdj _ _ (hone js hjs)]
            have hiff : j ∈ List.range i ↔ j ∈ js := by
              rw [List.mem_range]
              rcases Nat.lt_trichotomy j i with hji | hji | hji
              · refine ⟨fun _ => ?_, fun _ => hji⟩
                exact (hw.mem j).1 (closed_tab ht hw.closed i o ho hall j (((hap j hj (by omega) t hdj).2 ht').1 hji))
              · subst hji
                exact ⟨fun h => by omega, fun h => absurd h hinj⟩
              · refine ⟨fun h => by omega, fun hjj => absurd ?_ hinj⟩
                have hbit := ((hap j hj (by omega) t hdj).2 ht').2 hji
                have hlj := (hw.mem j).2 hjj
                have hoj : ops[j]? = some ops[j] := Array.getElem?_eq_some_iff.2 ⟨by omega, rfl⟩
                exact (hw.mem i).1 (closed_tab ht hw.closed j ops[j] hoj (fun e he hb => hw.closed j _ hoj hlj e he hb) i hbit)
            by_cases hji : j ∈ js
            · rw [if_pos hji, if_pos (hiff.2 hji)]
            · rw [if_neg hji, if_neg (fun h => hji (hiff.1 h))]
          · have hno : ∀ (ks : List Nat), (∀ k ∈ ks, k < m) → ∀ k ∈ ks, dstOf ops k ≠ some t := fun ks hks k hk hk' => hex ⟨k, hks k hk, hk'⟩
            rw [putAll_other ρ t _ _ (hno _ (fun k hk => by have := List.mem_range.1 hk; omega)), putAll_other ρ t _ _ (hno js hjs)]
        have hstep : ∀ v w', S w' → Φ i v w' → (∀ j ∈ js, Φ j (ρ j) w') → wpAny P .any ops Q fuel (listed.setIfInBounds i true) ((putAll ops ρ js a₀).put o.dst v) w' := by
          intro v w' hS' hv hold
          have he : (putAll ops ρ js a₀).put o.dst v = putAll ops (fun n => if n = i then v else ρ n) (js ++ [i]) a₀ := by
            rw [putAll_append, putAll_upd ρ i v js a₀ hinj]
            simp [putAll, dstOf, ho]
          rw [he]
          refine ih _ (js ++ [i]) _ w' (by simp; omega) (fun j hj => ?_) (hw.next ho hn hall) hS' (fun j hj => ?_)
          · rcases List.mem_append.1 hj with h' | h'
            · exact hjs j h'
            · rw [List.mem_singleton] at h'
              omega
          · rcases List.mem_append.1 hj with h' | h'
            · have hji : j ≠ i := fun e => hinj (e ▸ h')
              simp only [if_neg hji]
              exact hold j h'
            · rw [List.mem_singleton] at h'
              subst h'
              simp only [if_true]
              exact hv
        have hdep : ∀ j, j < i → (tab.getD i 0).testBit j = true → Φ j (ρ j) w := fun j _ hbit => hfacts j ((hw.mem j).1 (closed_tab ht hw.closed i o ho hall j hbit))
        unfold wpOp
        simp only [ho]
        rcases hd ρ w hS hdep with ⟨hwn, hv⟩ | ⟨hwn, hrun⟩
        · rw [wanted_same hsame] at hwn
          rw [if_neg (by simp [hwn])]
          exact hstep undef w hS hv hfacts
        · rw [wanted_same hsame] at hwn
          rw [if_pos hwn]
          refine .inl ((hrun.same hsel hsame).wp fun v w' hv => ?_)
          exact hstep v w' (hSt w w' hS hv.2) hv.1 (fun j hj => hΦ j _ _ _ (hfacts j hj) hv.2)

/-- The slots whose values hang on the world. -/
abbrev Pend := List (Nat × Tmp × Spec)
def overlay (pend : Pend) (ρ : Nat → Value) (a : Act) : Act := pend.foldl (fun a p => a.put (some p.2.1) (ρ p.1)) a

def RR2 (P : Program) (ops : Array Oper) (Q : Exit → Act → World → Prop) (S : World → Prop) (tab : Array Nat) (i : Nat) (a : Act) (pend : Pend) : Nat → List Oper → Prop
  | 0, rest => ∀ ρ w, S w → (∀ p ∈ pend, p.2.2 (ρ p.1) w) → wpList P ops Q rest (overlay pend ρ a) w
  | _ + 1, [] => False
  | m + 1, o :: rest =>
    (∃ c, (∀ ρ w, S w → (∀ p ∈ pend, (tab.getD i 0).testBit p.1 = true → p.2.2 (ρ p.1) w) →
        (Region.wanted o (yielded ops (overlay pend ρ a).tmps) = false ∧ c = undef) ∨
        (Region.wanted o (yielded ops (overlay pend ρ a).tmps) = true ∧ Runs P o (overlay pend ρ a) w fun v w' => (overlay pend ρ a).put o.dst v = (overlay pend ρ a).put o.dst c ∧ Grew w w')) ∧
      RR2 P ops Q S tab (i + 1) (a.put o.dst c) pend m rest) ∨
    (∃ d Φ, o.dst = some d ∧ Stable Φ ∧ (∀ ρ w, S w → (∀ p ∈ pend, (tab.getD i 0).testBit p.1 = true → p.2.2 (ρ p.1) w) →
        Region.wanted o (yielded ops (overlay pend ρ a).tmps) = true ∧ Runs P o (overlay pend ρ a) w fun v w' => Φ v w' ∧ Grew w w') ∧
      RR2 P ops Q S tab (i + 1) a (pend ++ [(i, d, Φ)]) m rest)

theorem Duty2.congr {S : World → Prop} {tab : Array Nat} {Φ Ψ : Nat → Spec} {a₀ : Act} {k : Nat} {o : Oper} (h : ∀ j, j ≤ k → Φ j = Ψ j) (hd : Duty2 P ops S tab Φ a₀ k o) : Duty2 P ops S tab Ψ a₀ k o := by
  intro ρ w hS hf
  have := hd ρ w hS (fun i hi hb => by rw [h i (by omega)]; exact hf i hi hb)
  rw [h k (Nat.le_refl _)] at this
  exact this

theorem size_overlay (ρ : Nat → Value) : ∀ (pend : Pend) (a : Act), (overlay pend ρ a).tmps.size = a.tmps.size
  | [], _ => rfl
  | p :: pend, a => by
    show (overlay pend ρ (a.put (some p.2.1) (ρ p.1))).tmps.size = _
    rw [size_overlay ρ pend, size_put]

theorem defers_put (a : Act) (d : Option Tmp) (v : Value) : (a.put d v).defers = a.defers := by cases d <;> rfl
theorem defers_overlay (ρ : Nat → Value) : ∀ (pend : Pend) (a : Act), (overlay pend ρ a).defers = a.defers
  | [], _ => rfl
  | p :: pend, a => by
    show (overlay pend ρ (a.put (some p.2.1) (ρ p.1))).defers = _
    rw [defers_overlay ρ pend, defers_put]
theorem defers_putAll (val : Nat → Value) : ∀ (js : List Nat) (a : Act), (putAll ops val js a).defers = a.defers
  | [], _ => rfl
  | j :: js, a => by
    show (putAll ops val js (a.put (dstOf ops j) (val j))).defers = _
    rw [defers_putAll val js, defers_put]

theorem overlay_put (ρ : Nat → Value) (d : Option Tmp) (v : Value) : ∀ (pend : Pend) (a : Act), (∀ p ∈ pend, d ≠ some p.2.1) → overlay pend ρ (a.put d v) = (overlay pend ρ a).put d v
  | [], _, _ => rfl
  | p :: pend, a, h => by
    show overlay pend ρ ((a.put d v).put (some p.2.1) (ρ p.1)) = (overlay pend ρ (a.put (some p.2.1) (ρ p.1))).put d v
    rw [← overlay_put ρ d v pend _ (fun q hq => h q (by simp [hq])), Act.put_comm a v (ρ p.1) (fun x hx e => h p (by simp) (hx.trans e.symm))]

theorem overlay_snoc (ρ : Nat → Value) (pend : Pend) (q : Nat × Tmp × Spec) (a : Act) : overlay (pend ++ [q]) ρ a = (overlay pend ρ a).put (some q.2.1) (ρ q.1) := by simp [overlay]

theorem put_eq_iff {a : Act} {d : Tmp} {v c : Value} (hd : d < a.tmps.size) (h : a.put (some d) v = a.put (some d) c) : v = c := by
  have h1 := congrArg (fun x : Act => x.tmps[d]?) h
  simpa [Act.put, hd] using h1

def updS (Φ₀ : Nat → Spec) (i : Nat) (Ψ : Spec) : Nat → Spec := fun n => if n = i then Ψ else Φ₀ n

theorem RR2.specs {tab : Array Nat} {m₀ : Nat} {S : World → Prop} (hc : apartOk ops tab m₀ = true) (a₀ : Act) : ∀ (m i : Nat) (rest : List Oper) (a : Act) (pend : Pend) (Φ₀ : Nat → Spec), i + m = m₀ → (∀ j, rest[j]? = ops[i + j]?) →
    (∀ k, Stable (Φ₀ k)) → a.tmps.size = a₀.tmps.size → a.defers = a₀.defers → (∀ p ∈ pend, p.1 < i ∧ dstOf ops p.1 = some p.2.1 ∧ Φ₀ p.1 = p.2.2) →
    (∀ ρ w t, (∀ j, j < i → dstOf ops j = some t → Φ₀ j (ρ j) w) → (overlay pend ρ a).tmps[t]? = (putAll ops ρ (List.range i) a₀).tmps[t]?) →
    (∀ k, k < i → ∃ o, ops[k]? = some o ∧ Duty2 P ops S tab Φ₀ a₀ k o) → RR2 P ops Q S tab i a pend m rest →
    ∃ Φ : Nat → Spec, (∀ k, Stable (Φ k)) ∧ (∀ k, k < m₀ → ∃ o, ops[k]? = some o ∧ Duty2 P ops S tab Φ a₀ k o) ∧
      ∀ ρ w, S w → (∀ i, i < m₀ → Φ i (ρ i) w) → wpList P ops Q (rest.drop m) (putAll ops ρ (List.range m₀) a₀) w
  | 0, i, rest, a, pend, Φ₀, hm, hr, hst, hsz, hdf, hp, hinv, hduty, h => by
    obtain rfl : i = m₀ := by omega
    refine ⟨Φ₀, hst, hduty, fun ρ w hS hf => ?_⟩
    have he : overlay pend ρ a = putAll ops ρ (List.range i) a₀ := by
      have h1 : (overlay pend ρ a).tmps = (putAll ops ρ (List.range i) a₀).tmps := Array.ext_getElem? fun t => hinv ρ w t fun j hj _ => hf j hj
      have h2 : (overlay pend ρ a).defers = (putAll ops ρ (List.range i) a₀).defers := by rw [defers_overlay, defers_putAll, hdf]
      cases hx : overlay pend ρ a
      cases hy : putAll ops ρ (List.range i) a₀
      simp_all
    rw [← he]
    exact h ρ w hS fun p hpp => by
      obtain ⟨h1, _, h3⟩ := hp p hpp
      rw [← h3]
      exact hf p.1 h1
  | m + 1, i, [], a, pend, Φ₀, hm, hr, hst, hsz, hdf, hp, hinv, hduty, h => h.elim
  | m + 1, i, o :: rest, a, pend, Φ₀, hm, hr, hst, hsz, hdf, hp, hinv, hduty, h => by
    have ho : ops[i]? = some o := by simpa using (hr 0).symm
    have hr' : ∀ j, rest[j]? = ops[i + 1 + j]? := fun j => by have := hr (j + 1); simpa [Nat.add_assoc, Nat.add_comm 1 j] using this
    have hdst : dstOf ops i = o.dst := by simp [dstOf, ho]
    have hrow := apart_row hc
    have him : i < m₀ := by omega
    have hms := apart_le hc
    have hrange : List.range (i + 1) = List.range i ++ [i] := List.range_succ
    have hput : ∀ (ρ : Nat → Value), putAll ops ρ (List.range (i + 1)) a₀ = (putAll ops ρ (List.range i) a₀).put o.dst (ρ i) := fun ρ => by
      rw [hrange, putAll_append]
      simp [putAll, hdst]
    have hpd : ∀ p ∈ pend, o.dst ≠ some p.2.1 := fun p hpp e => by
      obtain ⟨h1, h2, _⟩ := hp p hpp
      exact ((hrow i him o ho).2 p.1 (by omega) (by omega) p.2.1 h2).1 (hdst.trans e)
    -- what the operation looks at reads the same in both
    have hlook : ∀ (ρ : Nat → Value) (w : World), (∀ j, j < i → (tab.getD i 0).testBit j = true → Φ₀ j (ρ j) w) → ∀ t ∈ o.looksAt ops, (overlay pend ρ a).tmps[t]? = (putAll ops ρ (List.range i) a₀).tmps[t]? := by
      intro ρ w hf t ht
      refine hinv ρ w t fun j hj hdj => ?_
      exact hf j hj (((hrow i him o ho).2 j (by omega) (by omega) t hdj).2 ht |>.1 hj)
    have hpf : ∀ (ρ : Nat → Value) (w : World), (∀ j, j < i → (tab.getD i 0).testBit j = true → Φ₀ j (ρ j) w) → ∀ p ∈ pend, (tab.getD i 0).testBit p.1 = true → p.2.2 (ρ p.1) w := by
      intro ρ w hf p hpp hb
      obtain ⟨h1, _, h3⟩ := hp p hpp
      rw [← h3]
      exact hf p.1 h1 hb
    have hsel := (hrow i him o ho).1
    rcases h with ⟨c, hd, h⟩ | ⟨d, Φ, hod, hΦ, hd, h⟩
    · let Ψ : Spec := fun v _ => ∀ d, o.dst = some d → d < a₀.tmps.size → v = c
      have hlow : ∀ j, j < i → (updS Φ₀ i Ψ) j = Φ₀ j := fun j hj => if_neg (by omega)
      have hat : (updS Φ₀ i Ψ) i = Ψ := if_pos rfl
      refine RR2.specs hc a₀ m (i + 1) rest (a.put o.dst c) pend (updS Φ₀ i Ψ) (by omega) hr' (fun k => ?_) (by rw [size_put, hsz]) (by rw [defers_put, hdf]) (fun p hpp => ?_) (fun ρ w t hf => ?_) (fun k hk => ?_) h
      · by_cases hk : k = i
        · rw [hk, hat]; exact fun v w w' hv _ => hv
        · rw [show updS Φ₀ i Ψ k = Φ₀ k from if_neg hk]; exact hst k
      · obtain ⟨h1, h2, h3⟩ := hp p hpp
        exact ⟨by omega, h2, by rw [hlow p.1 h1]; exact h3⟩
      · rw [overlay_put ρ o.dst c pend a hpd, hput, getElem?_put, getElem?_put]
        by_cases hdt : o.dst = some t
        · rw [if_pos hdt, if_pos hdt]
          by_cases hts : t < a₀.tmps.size
          · have hv := hf i (by omega) (hdst.trans hdt)
            rw [hat] at hv
            have hv' : ρ i = c := hv t hdt hts
            have e1 : (overlay pend ρ a).tmps[t]? = some ((overlay pend ρ a).tmps[t]'(by rw [size_overlay, hsz]; exact hts)) := Array.getElem?_eq_some_iff.2 ⟨by rw [size_overlay, hsz]; exact hts, rfl⟩
            have e2 : (putAll ops ρ (List.range i) a₀).tmps[t]? = some ((putAll ops ρ (List.range i) a₀).tmps[t]'(by rw [size_putAll]; exact hts)) := Array.getElem?_eq_some_iff.2 ⟨by rw [size_putAll]; exact hts, rfl⟩
            rw [e1, e2, hv']; try rfl
          · rw [Array.getElem?_eq_none (by rw [size_overlay, hsz]; exact Nat.le_of_not_lt hts), Array.getElem?_eq_none (by rw [size_putAll]; exact Nat.le_of_not_lt hts)]; try rfl
        · rw [if_neg hdt, if_neg hdt]
          exact hinv ρ w t fun j hj hdj => by have := hf j (by omega) hdj; rwa [hlow j hj] at this
      · rcases Nat.lt_or_ge k i with hki | hki
        · obtain ⟨o', ho', hd'⟩ := hduty k hki
          exact ⟨o', ho', hd'.congr fun j hj => (hlow j (by omega)).symm⟩
        · obtain rfl : k = i := by omega
          refine ⟨o, ho, fun ρ w hS hf => ?_⟩
          have hf' : ∀ j, j < k → (tab.getD k 0).testBit j = true → Φ₀ j (ρ j) w := fun j hj hb => by have := hf j hj hb; rwa [hlow j hj] at this
          rw [hat]
          rcases hd ρ w hS (hpf ρ w hf') with ⟨hw, rfl⟩ | ⟨hw, hrun⟩
          · exact .inl ⟨by rw [← wanted_same (hlook ρ w hf')]; exact hw, fun _ _ _ => rfl⟩
          · refine .inr ⟨by rw [← wanted_same (hlook ρ w hf')]; exact hw, ?_⟩
            have hr2 := hrun.same hsel (hlook ρ w hf')
            have : ∀ v w', ((overlay pend ρ a).put o.dst v = (overlay pend ρ a).put o.dst c ∧ Grew w w') → Ψ v w' ∧ Grew w w' := fun v w' hv =>
              ⟨fun d hd hds => put_eq_iff (a := overlay pend ρ a) (by rw [size_overlay, hsz]; exact hds) (by rw [← hd]; exact hv.1), hv.2⟩
            exact hr2.mono this
    · have hlow : ∀ j, j < i → (updS Φ₀ i Φ) j = Φ₀ j := fun j hj => if_neg (by omega)
      have hat : (updS Φ₀ i Φ) i = Φ := if_pos rfl
      refine RR2.specs hc a₀ m (i + 1) rest a (pend ++ [(i, d, Φ)]) (updS Φ₀ i Φ) (by omega) hr' (fun k => ?_) hsz hdf (fun p hpp => ?_) (fun ρ w t hf => ?_) (fun k hk => ?_) h
      · by_cases hk : k = i
        · rw [hk, hat]; exact hΦ
        · rw [show updS Φ₀ i Φ k = Φ₀ k from if_neg hk]; exact hst k
      · rcases List.mem_append.1 hpp with hpp | hpp
        · obtain ⟨h1, h2, h3⟩ := hp p hpp
          exact ⟨by omega, h2, by rw [hlow p.1 h1]; exact h3⟩
        · rw [List.mem_singleton] at hpp
          subst hpp
          exact ⟨by simp, by rw [hdst]; exact hod, hat⟩
      · rw [overlay_snoc, hput, hod, getElem?_put, getElem?_put]
        by_cases hdt : (some d : Option Tmp) = some t
        · rw [if_pos hdt, if_pos hdt]
          by_cases hts : t < a₀.tmps.size
          · have e1 : (overlay pend ρ a).tmps[t]? = some ((overlay pend ρ a).tmps[t]'(by rw [size_overlay, hsz]; exact hts)) := Array.getElem?_eq_some_iff.2 ⟨by rw [size_overlay, hsz]; exact hts, rfl⟩
            have e2 : (putAll ops ρ (List.range i) a₀).tmps[t]? = some ((putAll ops ρ (List.range i) a₀).tmps[t]'(by rw [size_putAll]; exact hts)) := Array.getElem?_eq_some_iff.2 ⟨by rw [size_putAll]; exact hts, rfl⟩
            rw [e1, e2]; try rfl
          · rw [Array.getElem?_eq_none (by rw [size_overlay, hsz]; exact Nat.le_of_not_lt hts), Array.getElem?_eq_none (by rw [size_putAll]; exact Nat.le_of_not_lt hts)]; try rfl
        · rw [if_neg hdt, if_neg hdt]
          exact hinv ρ w t fun j hj hdj => by have := hf j (by omega) hdj; rwa [hlow j hj] at this
      · rcases Nat.lt_or_ge k i with hki | hki
        · obtain ⟨o', ho', hd'⟩ := hduty k hki
          exact ⟨o', ho', hd'.congr fun j hj => (hlow j (by omega)).symm⟩
        · obtain rfl : k = i := by omega
          refine ⟨o, ho, fun ρ w hS hf => ?_⟩
          have hf' : ∀ j, j < k → (tab.getD k 0).testBit j = true → Φ₀ j (ρ j) w := fun j hj hb => by have := hf j hj hb; rwa [hlow j hj] at this
          rw [hat]
          obtain ⟨hw, hrun⟩ := hd ρ w hS (hpf ρ w hf')
          exact .inr ⟨by rw [← wanted_same (hlook ρ w hf')]; exact hw, hrun.same hsel (hlook ρ w hf')⟩

/-- A region that draws, some of whose values hang on the world. -/
theorem wp_region_rr2 {id : Nat} {l : List Oper} {a : Act} {w : World} (m : Nat) (S : World → Prop) (hm : P.follows .mixedOrders = true) (hok : rrOk l.toArray m = true)
    (hSt : ∀ w w', S w → Grew w w' → S w') (hS : S w.drew) (h : RR2 P l.toArray Q S (Region.before l.toArray) 0 a [] m l) : (Code.region id l.toArray true).wp P Q a w := by
  refine wp_region_any hm ?_
  show wpAny P .any l.toArray Q l.toArray.size (Array.replicate l.toArray.size false) a w.drew
  unfold rrOk at hok
  simp only [Bool.and_eq_true] at hok
  obtain ⟨Φ, h1, h2, h3⟩ := RR2.specs hok.2 a m 0 l a [] (fun _ _ _ => True) (by omega) (fun j => by simp) (fun _ _ _ _ _ _ => trivial) rfl rfl (by simp) (fun ρ w t _ => rfl) (fun k hk => by omega) h
  exact rr2_main (P := P) (Q := Q) hSt h1 hok.1 hok.2 a h2 (fun ρ w hS hf => by simpa using h3 ρ w hS hf) l.toArray.size (Array.replicate l.toArray.size false) [] (fun _ => undef) w.drew (by simp) (by simp)
    ⟨by simp, by simp, fun j => by simp [Array.getD], fun i o _ hl => by simp [Array.getD] at hl⟩ hS (by simp)

/-! The steps of such a walk. -/
def YC (w₀ : World) (b : Act) : Exit → Act → World → Prop
  | .normal, a', w' => a' = b ∧ Grew w₀ w'
  | _, _, _ => False
def YF (w₀ : World) (a : Act) (o : Oper) (Φ : Spec) : Exit → Act → World → Prop
  | .normal, a', w' => (∃ v, a' = a.put o.dst v ∧ Φ v w') ∧ Grew w₀ w'
  | _, _, _ => False

theorem runs_of_list {o : Oper} {a : Act} {w : World} {R : Act → World → Prop} {Y : Exit → Act → World → Prop} (hY : ∀ e a w, Y e a w → e = .normal ∧ R a w) (hw : Region.wanted o (yielded ops a.tmps) = true)
    (h : wpList P ops Y [o] a w) (hdf : ∀ d v w', ¬ R ({ a with defers := d :: a.defers }.put o.dst v) w') : Runs P o a w fun v w' => R (a.put o.dst v) w' := by
  unfold wpList at h
  rw [if_pos hw] at h
  rcases h with h1 | ⟨_, a', w', h1⟩
  · unfold Oper.wp at h1
    unfold Runs
    generalize (execOp a.eval o).run P w = r at *
    cases r with
    | ok n w' =>
      cases n <;> simp only [Oper.upon] at h1 ⊢
      case value v' => exact (hY _ _ _ h1).2
      case skip => exact (hY _ _ _ h1).2
      case enter f args =>
        refine Calls.mono h1 fun e w'' he => ?_
        cases e with
        | returned v' => exact (hY _ _ _ he).2
        | panicked c => cases (hY _ _ _ he).1
        | outgrown => exact he.elim fun a' he => he.elim fun w3 h3 => by cases (hY _ _ _ h3).1
      case row row args => exact Rows.mono h1 fun v w' hv => (hY _ _ _ hv).2
      case defer d => exact hdf _ _ _ (hY _ _ _ h1).2
    | halt x w' => cases x <;> simp only [Oper.upon] at h1 <;> first | exact h1.elim | cases (hY _ _ _ h1).1
  · cases (hY _ _ _ h1).1

/-- An operation that looks at no such slot. -/
def apartFrom (o : Oper) (pend : Pend) : Bool := pend.all fun p => !(o.looksAt ops).contains p.2.1 && o.dst != some p.2.1

theorem overlay_other (ρ : Nat → Value) (t : Nat) : ∀ (pend : Pend) (a : Act), (∀ p ∈ pend, p.2.1 ≠ t) → (overlay pend ρ a).tmps[t]? = a.tmps[t]?
  | [], _, _ => rfl
  | p :: pend, a, h => by
    show (overlay pend ρ (a.put (some p.2.1) (ρ p.1))).tmps[t]? = _
    rw [overlay_other ρ t pend _ (fun q hq => h q (by simp [hq])), getElem?_put, if_neg (by intro e; exact h p (by simp) (by simpa using e))]

theorem apartFrom_same {o : Oper} {pend : Pend} (h : apartFrom (ops := ops) o pend = true) (ρ : Nat → Value) (a : Act) : ∀ t ∈ o.looksAt ops, a.tmps[t]? = (overlay pend ρ a).tmps[t]? := by
  intro t ht
  rw [overlay_other ρ t pend a]
  intro p hp e
  unfold apartFrom at h
  rw [List.all_eq_true] at h
  have := h p hp
  simp only [Bool.and_eq_true, Bool.not_eq_true'] at this
  rw [← Bool.not_eq_true, List.contains_iff_mem] at this
  exact this.1 (e ▸ ht)

theorem not_defer {a : Act} {d : Deferred} {t : Option Tmp} {v c : Value} : { a with defers := d :: a.defers }.put t v ≠ a.put t c := by
  intro h
  have := congrArg Act.defers h
  cases t <;> simp [Act.put] at this

theorem RR2_run {S : World → Prop} {tab : Array Nat} {i : Nat} {a b : Act} {pend : Pend} {o : Oper} {rest : List Oper} {m : Nat} {Q : Exit → Act → World → Prop} (hsel : (match o.op with | .select .. => false | _ => true) = true) (hap : apartFrom (ops := ops) o pend = true)
    (hw : Region.wanted o (yielded ops a.tmps) = true) (h : ∀ w, S w → wpList P ops (YC w b) [o] a w) (hb : ∃ v, b = a.put o.dst v) (hr : RR2 P ops Q S tab (i + 1) b pend m rest) : RR2 P ops Q S tab i a pend (m + 1) (o :: rest) := by
  obtain ⟨c, rfl⟩ := hb
  refine .inl ⟨c, fun ρ w hS _ => .inr ?_, hr⟩
  have hs : ∀ cs b, o.op ≠ .select cs b := fun cs b e => by simp [e] at hsel
  have hsame := apartFrom_same hap ρ a
  refine ⟨by rw [← wanted_same hsame]; exact hw, ?_⟩
  have h1 := runs_of_list (R := fun a' w' => a' = a.put o.dst c ∧ Grew w w') (fun e a' w' hy => by cases e <;> first | exact ⟨rfl, hy⟩ | exact hy.elim) hw (h w hS) (fun d v w' hh => not_defer hh.1)
  exact (h1.same hs hsame).mono fun v w' hv => ⟨put_transfer (by rw [size_overlay]) hv.1, hv.2⟩

theorem RR2_skip {S : World → Prop} {tab : Array Nat} {i : Nat} {a b : Act} {pend : Pend} {o : Oper} {rest : List Oper} {m : Nat} {Q : Exit → Act → World → Prop} (hap : apartFrom (ops := ops) o pend = true)
    (hw : Region.wanted o (yielded ops a.tmps) = false) (hb : b = a.put o.dst undef) (hr : RR2 P ops Q S tab (i + 1) b pend m rest) : RR2 P ops Q S tab i a pend (m + 1) (o :: rest) :=
  .inl ⟨undef, fun ρ w _ _ => .inl ⟨by rw [← wanted_same (apartFrom_same hap ρ a)]; exact hw, rfl⟩, hb ▸ hr⟩

/-- An operation whose value is told by a predicate. -/
theorem RR2_mk {S : World → Prop} {tab : Array Nat} {i : Nat} {a : Act} {pend : Pend} {o : Oper} {rest : List Oper} {m : Nat} {Q : Exit → Act → World → Prop} (Φ : Spec) (d : Tmp) (hd : o.dst = some d) (hst : Stable Φ) (hsz : d < a.tmps.size) (hsel : (match o.op with | .select .. => false | _ => true) = true) (hap : apartFrom (ops := ops) o pend = true)
    (hw : Region.wanted o (yielded ops a.tmps) = true) (h : ∀ w, S w → wpList P ops (YF w a o Φ) [o] a w) (hr : RR2 P ops Q S tab (i + 1) a (pend ++ [(i, d, Φ)]) m rest) : RR2 P ops Q S tab i a pend (m + 1) (o :: rest) := by
  refine .inr ⟨d, Φ, hd, hst, fun ρ w hS _ => ?_, hr⟩
  have hs : ∀ cs b, o.op ≠ .select cs b := fun cs b e => by simp [e] at hsel
  have hsame := apartFrom_same hap ρ a
  refine ⟨by rw [← wanted_same hsame]; exact hw, ?_⟩
  have h1 := runs_of_list (R := fun a' w' => (∃ v, a' = a.put o.dst v ∧ Φ v w') ∧ Grew w w') (fun e a' w' hy => by cases e <;> first | exact ⟨rfl, hy⟩ | exact hy.elim) hw (h w hS) (fun d v w' hh => by
    obtain ⟨⟨c, hc, _⟩, _⟩ := hh
    exact not_defer hc)
  exact (h1.same hs hsame).mono fun v w' hv => by
    obtain ⟨⟨c, hc, hΦ⟩, hg⟩ := hv
    rw [hd] at hc
    rw [put_eq_iff hsz hc]
    exact ⟨hΦ, hg⟩

/-- An operation that looks at such a slot, and gives a value of its own. -/
theorem RR2_use {S : World → Prop} {tab : Array Nat} {i : Nat} {a b : Act} {pend : Pend} {o : Oper} {rest : List Oper} {m : Nat} {Q : Exit → Act → World → Prop} (p : Nat × Tmp × Spec) (c : Value) (hp : p ∈ pend) (hbit : (tab.getD i 0).testBit p.1 = true) (hpo : (pend.all fun q => decide (q.1 = p.1) || (!(o.looksAt ops).contains q.2.1 && o.dst != some q.2.1)) = true)
    (hone : (pend.all fun q => decide (q.1 ≠ p.1) || decide (q.2.1 = p.2.1)) = true) (hdst : o.dst ≠ some p.2.1)
    (hsel : (match o.op with | .select .. => false | _ => true) = true)
    (h : ∀ v w, S w → p.2.2 v w → Region.wanted o (yielded ops (a.put (some p.2.1) v).tmps) = true ∧ wpList P ops (YC w ((a.put o.dst c).put (some p.2.1) v)) [o] (a.put (some p.2.1) v) w) (hb : b = a.put o.dst c)
    (hr : RR2 P ops Q S tab (i + 1) b pend m rest) : RR2 P ops Q S tab i a pend (m + 1) (o :: rest) := by
  subst hb
  refine .inl ⟨c, fun ρ w hS hf => .inr ?_, hr⟩
  have hs : ∀ cs b, o.op ≠ .select cs b := fun cs b e => by simp [e] at hsel
  obtain ⟨hw, h1⟩ := h (ρ p.1) w hS (hf p hp hbit)
  rw [List.all_eq_true] at hpo hone
  have key : ∀ (l : Pend) (a : Act), (∀ q ∈ l, q ∈ pend) → ∀ t ∈ o.looksAt ops, (overlay l ρ a).tmps[t]? = if t = p.2.1 ∧ (∃ q ∈ l, q.1 = p.1) then (a.put (some p.2.1) (ρ p.1)).tmps[t]? else a.tmps[t]? := by
    intro l
    induction l with
    | nil => intro a _ t _; simp [overlay]
    | cons q l ih =>
      intro a hl t ht
      show (overlay l ρ (a.put (some q.2.1) (ρ q.1))).tmps[t]? = _
      rw [ih _ (fun x hx => hl x (by simp [hx])) t ht]
      have hq := hl q (by simp)
      by_cases hqp : q.1 = p.1
      · have hslot : q.2.1 = p.2.1 := by
          rcases (Bool.or_eq_true _ _).mp (hone q hq) with h | h
          · exact absurd hqp (of_decide_eq_true h)
          · exact of_decide_eq_true h
        rw [hqp, hslot]
        by_cases htp : t = p.2.1
        · subst htp
          simp only [true_and]
          rw [if_pos (show ∃ x, x ∈ q :: l ∧ x.1 = p.1 from ⟨q, by simp, hqp⟩)]
          by_cases hx : ∃ x, x ∈ l ∧ x.1 = p.1
          · rw [if_pos hx]
            simp only [getElem?_put, if_true]
            cases a.tmps[p.2.1]? <;> rfl
          · rw [if_neg hx]
        · rw [if_neg (fun h => htp h.1), if_neg (fun h => htp h.1), getElem?_put, if_neg (by intro e; exact htp (by simpa using e.symm))]
      · have hno : q.2.1 ≠ t := by
          have := hpo q hq
          simp only [hqp, decide_false, Bool.false_or, Bool.and_eq_true, Bool.not_eq_true'] at this
          intro e
          rw [← Bool.not_eq_true, List.contains_iff_mem] at this
          exact this.1 (e ▸ ht)
        have hput : (a.put (some q.2.1) (ρ q.1)).tmps[t]? = a.tmps[t]? := by rw [getElem?_put, if_neg (by intro e; exact hno (by simpa using e))]
        have hput2 : ((a.put (some q.2.1) (ρ q.1)).put (some p.2.1) (ρ p.1)).tmps[t]? = (a.put (some p.2.1) (ρ p.1)).tmps[t]? := by
          rw [getElem?_put (a.put (some q.2.1) (ρ q.1)), hput, getElem?_put a (some p.2.1)]
        rw [hput, hput2]
        have hiff : (∃ x ∈ l, x.1 = p.1) ↔ (∃ x ∈ q :: l, x.1 = p.1) := by
          constructor
          · rintro ⟨x, hx, e⟩; exact ⟨x, by simp [hx], e⟩
          · rintro ⟨x, hx, e⟩
            rcases List.mem_cons.1 hx with rfl | hx
            · exact absurd e hqp
            · exact ⟨x, hx, e⟩
        simp only [hiff]
  have hsame : ∀ t ∈ o.looksAt ops, (a.put (some p.2.1) (ρ p.1)).tmps[t]? = (overlay pend ρ a).tmps[t]? := by
    intro t ht
    rw [key pend a (fun q hq => hq) t ht]
    by_cases htp : t = p.2.1
    · rw [if_pos ⟨htp, p, hp, rfl⟩]
    · rw [if_neg (fun h => htp h.1), getElem?_put, if_neg (by intro e; exact htp (by simpa using e.symm))]
  refine ⟨by rw [← wanted_same hsame]; exact hw, ?_⟩
  have h2 := runs_of_list (R := fun a' w' => a' = (a.put (some p.2.1) (ρ p.1)).put o.dst c ∧ Grew w w') (fun e a' w' hy => by
    cases e with
    | normal => exact ⟨rfl, by rw [Act.put_comm a (ρ p.1) c (fun d hd e => hdst (e.trans hd.symm))]; exact hy.1, hy.2⟩
    | _ => exact hy.elim) hw h1 (fun d v w' hh => not_defer hh.1)
  exact (h2.same hs hsame).mono fun v w' hv => ⟨put_transfer (by rw [size_overlay, size_put]) hv.1, hv.2⟩

theorem RR2_end {S : World → Prop} {tab : Array Nat} {i : Nat} {a : Act} {pend : Pend} {rest : List Oper} {Q : Exit → Act → World → Prop}
    (h : ∀ ρ w, S w → (∀ p ∈ pend, p.2.2 (ρ p.1) w) → wpList P ops Q rest (overlay pend ρ a) w) : RR2 P ops Q S tab i a pend 0 rest := h
end
end Go.Proofs.Ytffgjjhopopgcaa
