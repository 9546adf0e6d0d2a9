/-
  A journal in thought (Jn), and what it is to stand in memory (JAt); the map of what was committed.
-/
import Derived.Test.YtffgjjhopopgcaaJb
import Derived.Maps.OwnOps
import Derived.Maps.OwnSet
import Derived.Maps.Views
namespace Go.Proofs.Ytffgjjhopopgcaa
set_option linter.unusedVariables false
set_option linter.unusedSimpArgs false
open Go.RowKit Go.Maps
set_option maxRecDepth 100000
set_option maxHeartbeats 2000000

/-! ### a map of numbers, as a set -/
abbrev inL (x : Int) : Prop := -9223372036854775808 ≤ x ∧ x ≤ 9223372036854775807
theorem inL_wf {x : Int} (h : inL x) : (Lit.int .i64 x).wf = true := by
  simp [Lit.wf, IntKind.min, IntKind.max, IntKind.signed, IntKind.bits]
  unfold inL at h
  omega
def MapAt (w : World) (b n : Nat) (ks : List Int) : Prop := ∃ Dm : DataW Unit, w.ownsMap Try.prog 3 (plainElem Try.prog 3) b n Dm ∧ IsMap Dm ∧
  ∀ x : Int, inL x → Dm.atKey (.int .i64 x) (.lit (.int .i64 0)) = .lit (.int .i64 (if x ∈ ks then 1 else 0))
theorem mapAt_made (w : World) : MapAt (w.alloc (.map #[] 0)) w.heap.size 0 [] :=
  ⟨.map [], World.ownsMap_made _ _ _ _, isMap_empty, fun x _ => by simp [DataW.atKey]⟩
theorem MapAt.lt {w : World} {b n : Nat} {ks : List Int} (h : MapAt w b n ks) : b < w.heap.size := by
  obtain ⟨Dm, h, _⟩ := h
  exact h.lt
theorem MapAt.block {w w' : World} {b n : Nat} {ks : List Int} (h : MapAt w b n ks) (hb : w'.heap[b]? = w.heap[b]?) : MapAt w' b n ks := by
  obtain ⟨Dm, ⟨es, clock, h1, h2⟩, h3⟩ := h
  exact ⟨Dm, ⟨es, clock, hb.trans h1, h2⟩, h3⟩
theorem mapKeyed : Keyed Try.prog 3 := int_keyed Try.underlying3
theorem MapAt.look {w : World} {b n : Nat} {ks : List Int} (h : MapAt w b n ks) (x : Int) (hx : inL x) :
    (Instr.lookup 72 (.map (some b)) (.int .i64 x) false).run Try.prog w = .ok (.int .i64 (if x ∈ ks then 1 else 0)) w := by
  obtain ⟨Dm, h1, h2, h3⟩ := h
  obtain ⟨c, hrun, hat, _⟩ := h1.lookup_int mapKeyed Try.underlying72 Try.underlying3 (Try.zeroValue3 w) (keyOf_int_mk Try.underlying3 (inL_wf hx))
  rw [h3 x hx] at hat
  injection hat with hat
  injection hat with _ hat
  rw [hrun, hat]
theorem MapAt.update {w : World} {b n : Nat} {ks : List Int} (h : MapAt w b n ks) (hn : n < 1000000) (x : Int) (hx : inL x) :
    ∃ w', (Instr.mapUpdate 72 (.map (some b)) (.int .i64 x) (.int .i64 1)).run Try.prog w = .ok () w' ∧ MapAt w' b (n + 1) (ks ++ [x]) ∧ w.grownBy w' (some b) := by
  obtain ⟨Dm, h1, h2, h3⟩ := h
  obtain ⟨w', hrun, ho, hg⟩ := h1.update mapKeyed Try.underlying72 (by unfold maxLen; omega) (keyOf_int_mk Try.underlying3 (inL_wf hx)) (plainElem_int Try.underlying3 (by decide : (Lit.int .i64 1).wf = true))
  refine ⟨w', hrun, ⟨_, ho, h2.put _ _, fun y hy => ?_⟩, hg⟩
  by_cases e : y = x
  · subst e
    rw [atKey_put_same h2 (by simp [WideAt.IsKeyLit])]
    simp
  · rw [atKey_put_other (by simp [e]), h3 y hy]
    simp [e]

/-! ### a journal in thought -/
structure Jn where
  starts : Int
  number : Nat
  place : Nat
  used : Nat
  since : List Int

/-- One behind the other, as far as it goes. -/
def step (r : Dk × Int) (f : Dk → Dk × Int) : Dk × Int := if r.2 = 0 then f r.1 else r
def Dk.writes : List Wr → Dk → Dk × Int
  | [], D => (D, 0)
  | x :: l, D => step (D.write x.sec x.data) (Dk.writes l)
def mayW (size : Int) (l : List Wr) : Bool := (l.all fun x => decide (0 ≤ x.sec) && decide (x.sec < size) && decide (x.data.size = 512)) && decide (l.map (·.sec)).Nodup
def home (l : List Wr) : List Wr := l.map fun x => ⟨65 + x.sec, x.data⟩
def logD (s : ByteArray) : ByteArray := ⟨([76, 68, 48, 49] ++ (bOf s).drop 4).toArray⟩
def logs : Nat → List Wr → List Wr
  | _, [] => []
  | p, x :: l => ⟨((1 + p % 64 : Nat) : Int), logD x.data⟩ :: logs (p + 1) l

namespace Jn
def over (J : Jn) (D : Dk) : Int := if D.down = true ∨ D.starts ≠ J.starts then 61 else 0
def size (D : Dk) : Int := (D.sure.length : Int) - 65
def check (D : Dk) (l : List Wr) : Int := if mayW (size D) l then 0 else 2
def ckD (J : Jn) (D : Dk) : Dk × Int := step (step D.flush fun D => D.write 0 ⟨(markL J.number J.place).toArray⟩) Dk.flush
def emptied (J : Jn) : Jn := { J with used := 0, since := [] }
def checkpoint (J : Jn) (D : Dk) : Jn × Dk × Int := (if (J.ckD D).2 = 0 then J.emptied else J, (J.ckD D).1, (J.ckD D).2)
def next (many : Nat) (J : Jn) : Jn := { J with number := J.number + 1, place := (J.place + 1 + many) % 64 }
def commitD (J : Jn) (l : List Wr) (D : Dk) : Dk × Int :=
  step (step (step (step ((Dk.writes (logs (J.place + 1) l)) D) Dk.flush) fun D => D.write ((1 + J.place % 64 : Nat) : Int) ⟨(headL J.number l).toArray⟩) Dk.flush) (Dk.writes (home l))
def added (l : List Wr) (J : Jn) : Jn := { J.next l.length with used := J.used + (1 + l.length), since := J.since ++ l.map (·.sec) }
/-- Is there room, or has it to be made? -/
def roomed (l : List Wr) (J : Jn) (D : Dk) : Jn × Dk × Int := if 64 - (J.used : Int) < 1 + (l.length : Int) then J.checkpoint D else (J, D, 0)
def commit (l : List Wr) (J : Jn) (D : Dk) : Jn × Dk × Int :=
  if J.over D ≠ 0 then (J, D, J.over D)
  else if 24 < l.length then (J, D, 63)
  else if check D l ≠ 0 then (J, D, check D l)
  else
    let c := J.roomed l D
    if c.2.2 ≠ 0 then c
    else
      let r := c.1.commitD l c.2.1
      if r.2 ≠ 0 then (c.1, r.1, r.2) else (c.1.added l, r.1, 0)
def direct (l : List Wr) (J : Jn) (D : Dk) : Jn × Dk × Int :=
  if J.over D ≠ 0 then (J, D, J.over D)
  else if check D l ≠ 0 then (J, D, check D l)
  else
    let c := if (l.any fun x => decide (x.sec ∈ J.since)) then J.checkpoint D else (J, D, 0)
    if c.2.2 ≠ 0 then c
    else
      let r := (Dk.writes (home l)) c.2.1
      (c.1, r.1, r.2)
def checkpointed (J : Jn) (D : Dk) : Jn × Dk × Int := if J.over D ≠ 0 then (J, D, J.over D) else J.checkpoint D
def read (J : Jn) (D : Dk) (n : Int) : ByteArray × Int :=
  if J.over D ≠ 0 then (⟨#[]⟩, J.over D) else if n < 0 ∨ size D ≤ n then (⟨#[]⟩, 2) else D.read (65 + n)

structure Ok (J : Jn) : Prop where
  starts : 0 ≤ J.starts ∧ J.starts ≤ 4611686018427387904
  number : J.number < 4611686018427387904
  place : J.place < 64
  used : J.used ≤ 64
  since : J.since.length ≤ J.used
  keys : ∀ x ∈ J.since, inL x
end Jn

/-! ### a journal in memory -/
/-- What j.since holds. -/
def SinceAt (w : World) (K : Nat → Prop) (jp : Nat) (mv : Option Nat) (ks : List Int) : Prop :=
  (mv = none ∧ ks = []) ∨ ∃ b n, mv = some b ∧ MapAt w b n ks ∧ n ≤ ks.length ∧ ¬ K b ∧ b ≠ jp
def JRow (w : World) (jp p : Nat) (mv : Option Nat) (J : Jn) : Prop :=
  w.heap[jp]? = some (.cells #[.pointer (some ⟨p, 0, none⟩), .int .i64 J.starts, .int .u64 J.number, .int .i64 J.place, .int .i64 J.used, .map mv] 74 (0, 0))
/-- K, and the journal's own. -/
def JK (K : Nat → Prop) (jp : Nat) (mv : Option Nat) : Nat → Prop := fun b => K b ∨ b = jp ∨ mv = some b
structure JRows (w : World) (K : Nat → Prop) (jp p : Nat) (mv : Option Nat) (J : Jn) (D : Dk) : Prop where
  disk : DiskAt w (JK K jp mv) p D
  row : JRow w jp p mv J
  since : SinceAt w K jp mv J.since
  kj : ¬ K jp
  ok : J.Ok
def JAt (w : World) (K : Nat → Prop) (jp p : Nat) (J : Jn) (D : Dk) : Prop := ∃ mv, JRows w K jp p mv J D

theorem JRows.kept {w w' : World} {K : Nat → Prop} {jp p : Nat} {mv : Option Nat} {J : Jn} {D D' : Dk} (h : JRows w K jp p mv J D) (hd : DiskAt w' (JK K jp mv) p D') (hk : Kept (JK K jp mv) w w') : JRows w' K jp p mv J D' := by
  refine ⟨hd, (hk.block jp (.inr (.inl rfl))).trans h.row, ?_, h.kj, h.ok⟩
  rcases h.since with h1 | ⟨b, n, e, h1, h2⟩
  · exact .inl h1
  · exact .inr ⟨b, n, e, h1.block (hk.block b (.inr (.inr e))), h2⟩
theorem JRows.old {w : World} {K : Nat → Prop} {jp p : Nat} {mv : Option Nat} {J : Jn} {D : Dk} (h : JRows w K jp p mv J D) : ∀ b, K b → b < w.heap.size := fun b hb => h.disk.old b (.inl hb)
theorem JRows.lt {w : World} {K : Nat → Prop} {jp p : Nat} {mv : Option Nat} {J : Jn} {D : Dk} (h : JRows w K jp p mv J D) : jp < w.heap.size := (Array.getElem?_eq_some_iff.1 h.row).1
theorem JRows.below {w w' : World} {K : Nat → Prop} {jp p : Nat} {mv : Option Nat} {J : Jn} {D : Dk} (h : JRows w K jp p mv J D) (hb : Below w.heap.size w w') : JRows w' K jp p mv J D :=
  h.kept (h.disk.below hb) (Kept.of_below hb h.disk.old)
theorem JRows.mono {w : World} {K K' : Nat → Prop} {jp p : Nat} {mv : Option Nat} {J : Jn} {D : Dk} (h : JRows w K jp p mv J D) (hK : ∀ b, K' b → K b) : JRows w K' jp p mv J D := by
  refine ⟨h.disk.mono fun b hb => ?_, h.row, ?_, fun hb => h.kj (hK _ hb), h.ok⟩
  · rcases hb with hb | hb
    · exact .inl (hK b hb)
    · exact .inr hb
  · rcases h.since with h1 | ⟨b, n, e, h1, h2, h3, h4⟩
    · exact .inl h1
    · exact .inr ⟨b, n, e, h1, h2, fun hb => h3 (hK _ hb), h4⟩
theorem JRows.fresh {w w' : World} {K : Nat → Prop} {jp p : Nat} {mv : Option Nat} {J : Jn} {D : Dk} (h : JRows w K jp p mv J D) (hb : Below w.heap.size w w') : JRows w' (fun b => K b ∨ (w.heap.size ≤ b ∧ b < w'.heap.size)) jp p mv J D := by
  have h1 := h.below hb
  refine ⟨(h.disk.fresh hb).mono fun b hb => ?_, h1.row, ?_, fun hk => ?_, h.ok⟩
  · rcases hb with (hb | hb) | hb
    · exact .inl (.inl hb)
    · exact .inr hb
    · exact .inl (.inr hb)
  · rcases h1.since with h2 | ⟨b, n, e, h2, h3, h4, h5⟩
    · exact .inl h2
    · refine .inr ⟨b, n, e, h2, h3, fun hk => ?_, h5⟩
      rcases hk with hk | hk
      · exact h4 hk
      · rcases h.since with ⟨e2, _⟩ | ⟨b2, n2, e2, h6, _⟩
        · rw [e] at e2; cases e2
        · rw [e] at e2
          cases e2
          have := h6.lt
          omega
  · rcases hk with hk | hk
    · exact h.kj hk
    · have := h.lt
      omega
theorem JAt.below {w w' : World} {K : Nat → Prop} {jp p : Nat} {J : Jn} {D : Dk} (h : JAt w K jp p J D) (hb : Below w.heap.size w w') : JAt w' K jp p J D := by
  obtain ⟨mv, h⟩ := h
  exact ⟨mv, h.below hb⟩
theorem JAt.mono {w : World} {K K' : Nat → Prop} {jp p : Nat} {J : Jn} {D : Dk} (h : JAt w K jp p J D) (hK : ∀ b, K' b → K b) : JAt w K' jp p J D := by
  obtain ⟨mv, h⟩ := h
  exact ⟨mv, h.mono hK⟩
theorem JAt.fresh {w w' : World} {K : Nat → Prop} {jp p : Nat} {J : Jn} {D : Dk} (h : JAt w K jp p J D) (hb : Below w.heap.size w w') : JAt w' (fun b => K b ∨ (w.heap.size ≤ b ∧ b < w'.heap.size)) jp p J D := by
  obtain ⟨mv, h⟩ := h
  exact ⟨mv, h.fresh hb⟩
theorem JAt.old {w : World} {K : Nat → Prop} {jp p : Nat} {J : Jn} {D : Dk} (h : JAt w K jp p J D) : ∀ b, K b → b < w.heap.size := by
  obtain ⟨mv, h⟩ := h
  exact h.old
theorem JAt.disk {w : World} {K : Nat → Prop} {jp p : Nat} {J : Jn} {D : Dk} (h : JAt w K jp p J D) : DiskAt w K p D := by
  obtain ⟨mv, h⟩ := h
  exact h.disk.mono fun b hb => .inl hb
theorem JRows.keptK {w w' : World} {K : Nat → Prop} {jp : Nat} {mv : Option Nat} (hk : Kept (JK K jp mv) w w') : Kept K w w' := hk.mono fun b hb => .inl hb

/-- A block of K turns, which holds no bools: the disk stands. -/
theorem DiskRows.turn {w w' : World} {K : Nat → Prop} {p gs cs : Nat} {vl : Value} {ak : Option Addr} {ck : Nat} {D : Dk} (h : DiskRows w K p gs cs vl ak ck D) {b : Nat} (hg : w.grownBy w' (some b)) (hb : K b)
    (hn : ∀ o v, w.cell? ⟨b, o, none⟩ = some (.bool v) → False) : DiskRows w' K p gs cs vl ak ck D := by
  have no : ∀ c, c < w.heap.size → ¬ K c → w'.heap[c]? = w.heap[c]? := fun c hc hk => hg.block c hc fun e => by cases e; exact hk hb
  refine ⟨fun c hc => Nat.lt_of_lt_of_le (h.old c hc) hg.size, (no p h.p_lt h.kp).trans h.row, row_block h.sure fun g e => by cases e; exact no gs h.gs_lt h.kg, row_block h.loose fun g e => no g (h.loose.lt g e).2 (h.kl g e).1,
    fun k hk => ?_, h.kp, h.kg, h.kl, h.gp, fun a e => ⟨(h.kk a e).1, (h.kk a e).2.1, (h.kk a e).2.2.1, Nat.lt_of_lt_of_le (h.kk a e).2.2.2 hg.size⟩⟩
  obtain ⟨c, off, e, hc⟩ := h.keep k hk
  refine ⟨c, off, e, (World.cell?_of_block (w := w) (a := ⟨c, off + k, none⟩) (hg.block c (World.block_lt_of_cell? w _ hc) fun e2 => ?_)).trans hc⟩
  cases e2
  exact hn _ _ hc
theorem DiskAt.turn {w w' : World} {K : Nat → Prop} {p : Nat} {D : Dk} (h : DiskAt w K p D) {b : Nat} (hg : w.grownBy w' (some b)) (hb : K b)
    (hn : ∀ o v, w.cell? ⟨b, o, none⟩ = some (.bool v) → False) : DiskAt w' K p D := by
  obtain ⟨ok, gs, cs, vl, ak, ck, h⟩ := h
  exact ⟨ok, gs, cs, vl, ak, ck, h.turn hg hb hn⟩
theorem MapAt.no_cell {w : World} {b n : Nat} {ks : List Int} (h : MapAt w b n ks) : ∀ o v, w.cell? ⟨b, o, none⟩ = some (.bool v) → False := by
  obtain ⟨Dm, ⟨es, clock, h1, h2⟩, h3⟩ := h
  intro o v hc
  simp [World.cell?, h1] at hc
theorem JRow.no_bool {w : World} {jp p : Nat} {mv : Option Nat} {J : Jn} (h : JRow w jp p mv J) : ∀ o v, w.cell? ⟨jp, o, none⟩ = some (.bool v) → False := by
  intro o v hc
  rw [cell_of_row _ _ _ _ _ _ h] at hc
  match o, hc with
  | 0, hc => cases hc
  | 1, hc => cases hc
  | 2, hc => cases hc
  | 3, hc => cases hc
  | 4, hc => cases hc
  | 5, hc => cases hc
  | n + 6, hc => simp at hc
/-- The journal's own cells turn. -/
theorem JRows.stored {w w' : World} {K : Nat → Prop} {jp p : Nat} {mv : Option Nat} {J J' : Jn} {D : Dk} (h : JRows w K jp p mv J D) (hg : w.grownBy w' (some jp)) (hrow : JRow w' jp p mv J') (hs : J'.since = J.since) (hok : J'.Ok) : JRows w' K jp p mv J' D := by
  refine ⟨h.disk.turn hg (.inr (.inl rfl)) h.row.no_bool, hrow, ?_, h.kj, hok⟩
  rw [hs]
  rcases h.since with h1 | ⟨b, n, e, h1, h2, h3, h4⟩
  · exact .inl h1
  · exact .inr ⟨b, n, e, h1.block (hg.block b h1.lt fun e2 => h4 (by cases e2; rfl)), h2, h3, h4⟩
theorem grownBy_setCell1 (w : World) (b o : Nat) (u : Value) : w.grownBy (w.setCell ⟨b, o, none⟩ u) (some b) :=
  ⟨rfl, rfl, rfl, by simp [World.setCell], fun k _ hk => Below.heap_setCell _ _ _ _ fun e => hk (by simp only at e; rw [e])⟩
theorem grownBy_trans {w w1 w2 : World} {b : Nat} (h : w.grownBy w1 (some b)) (k : w1.grownBy w2 (some b)) : w.grownBy w2 (some b) :=
  ⟨k.os.trans h.os, k.tape.trans h.tape, k.output.trans h.output, Nat.le_trans h.size k.size, fun i hi hne => (k.block i (Nat.lt_of_lt_of_le hi h.size) hne).trans (h.block i hi hne)⟩
theorem Kept.of_grown {w w' : World} {K : Nat → Prop} {b : Nat} (hg : w.grownBy w' (some b)) (hK : ∀ c, K c → c < w.heap.size) (hb : ¬ K b) : Kept K w w' := Kept.grown hg hK fun k e => by cases e; exact hb
/-- The journal's map turns. -/
theorem JRows.mapped {w w' : World} {K : Nat → Prop} {jp p mb n : Nat} {J : Jn} {D : Dk} (h : JRows w K jp p (some mb) J D) (hg : w.grownBy w' (some mb)) (ks : List Int) (hm : MapAt w' mb n ks) (hn : n ≤ ks.length) (hok : ({ J with since := ks } : Jn).Ok) :
    JRows w' K jp p (some mb) { J with since := ks } D := by
  rcases h.since with ⟨e, _⟩ | ⟨b, n0, e, h1, h2, h3, h4⟩
  · cases e
  · cases e
    exact ⟨h.disk.turn hg (.inr (.inr rfl)) h1.no_cell, (hg.block jp h.lt fun e => h4 (by cases e; rfl)).trans h.row, .inr ⟨mb, n, rfl, hm, hn, h3, h4⟩, h.kj, hok⟩
end Go.Proofs.Ytffgjjhopopgcaa
