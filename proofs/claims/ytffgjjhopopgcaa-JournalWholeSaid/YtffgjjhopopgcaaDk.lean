/-
  A disk in thought (Dk), what each of its operations makes of it, and what it is to stand in memory (DiskAt).
-/
import Derived.Test.YtffgjjhopopgcaaLeaf
namespace Go.Proofs.Ytffgjjhopopgcaa
set_option linter.unusedVariables false
set_option linter.unusedSimpArgs false
open Go.RowKit

/-! ### what a set of blocks keeps -/
structure Kept (K : Nat → Prop) (w w' : World) : Prop where
  os : w'.os = w.os
  tape : w'.tape = w.tape
  output : w'.output = w.output
  size : w.heap.size ≤ w'.heap.size
  block : ∀ k, K k → w'.heap[k]? = w.heap[k]?

theorem Kept.refl (K : Nat → Prop) (w : World) : Kept K w w := ⟨rfl, rfl, rfl, Nat.le_refl _, fun _ _ => rfl⟩
theorem Kept.trans {K : Nat → Prop} {a b c : World} (h : Kept K a b) (k : Kept K b c) : Kept K a c :=
  ⟨k.os.trans h.os, k.tape.trans h.tape, k.output.trans h.output, Nat.le_trans h.size k.size, fun i hi => (k.block i hi).trans (h.block i hi)⟩
theorem Kept.mono {K K' : Nat → Prop} {w w' : World} (h : Kept K w w') (hK : ∀ b, K' b → K b) : Kept K' w w' := ⟨h.os, h.tape, h.output, h.size, fun k hk => h.block k (hK k hk)⟩
theorem Kept.below {B : Nat} {w w' : World} (h : Kept (· < B) w w') : Below B w w' := ⟨h.os, h.tape, h.output, h.size, h.block⟩
theorem Kept.belowOf {K : Nat → Prop} {B : Nat} {w w' : World} (h : Kept K w w') (hB : ∀ b, b < B → K b) : Below B w w' := ⟨h.os, h.tape, h.output, h.size, fun k hk => h.block k (hB k hk)⟩
theorem Kept.of_below {K : Nat → Prop} {B : Nat} {w w' : World} (h : Below B w w') (hK : ∀ b, K b → b < B) : Kept K w w' := ⟨h.os, h.tape, h.output, h.size, fun k hk => h.block k (hK k hk)⟩
theorem Kept.setCell {K : Nat → Prop} (w : World) {p : Addr} (hp : ¬ K p.block) (u : Value) : Kept K w (w.setCell p u) :=
  ⟨rfl, rfl, rfl, by simp [World.setCell], fun k hk => Below.heap_setCell _ _ _ _ (fun e => hp (e ▸ hk))⟩
theorem Kept.grown {K : Nat → Prop} {w w' : World} {row : Option Nat} (hg : w.grownBy w' row) (hK : ∀ b, K b → b < w.heap.size) (hr : ∀ k, row = some k → ¬ K k) : Kept K w w' :=
  ⟨hg.os, hg.tape, hg.output, hg.size, fun k hk => hg.block k (hK k hk) (fun e => hr k e.symm hk)⟩
theorem Kept.cell {K : Nat → Prop} {w w' : World} (h : Kept K w w') {p : Addr} (hp : K p.block) : w'.cell? p = w.cell? p := World.cell?_of_block (w := w) (h.block p.block hp)

/-! ### rows -/
theorem row_below {w w1 : World} {base : Nat} {e : TypeId} {size : Nat} {v : Value} {n : Nat} {xs : List Value} (h : w.ownsRow base e size v n xs) (hb : Below w.heap.size w w1) : w1.ownsRow base e size v n xs := by
  refine ⟨h.1, ?_⟩
  rcases h.2 with h2 | ⟨g, cap, cur, hv, hg, hh, r⟩
  · exact Or.inl h2
  · exact Or.inr ⟨g, cap, cur, hv, hg, (hb.block g (Array.getElem?_eq_some_iff.1 hh).1).trans hh, r⟩
theorem row_suc {W : World} {base : Nat} {e : TypeId} {size : Nat} {v : Value} {k : Nat} {xs : List Value} (h : W.ownsRow base e size v (k + 1) xs) : ∃ g cap, v = .slice (some ⟨g, 0, none⟩) (k + 1) cap := by
  rcases h.2 with ⟨_, h0⟩ | ⟨g, cap, cur, hv, _⟩
  · omega
  · exact ⟨g, cap, hv⟩
theorem row_slice {w : World} {base : Nat} {e : TypeId} {size : Nat} {v : Value} {n : Nat} {xs : List Value} (h : w.ownsRow base e size v n xs) : ∃ a c, v = .slice a n c := by
  rcases h.2 with ⟨rfl, rfl⟩ | ⟨g, cap, cur, rfl, _⟩
  · exact ⟨none, 0, rfl⟩
  · exact ⟨some ⟨g, 0, none⟩, cap, rfl⟩
theorem row_block {w w1 : World} {base : Nat} {e : TypeId} {size : Nat} {v : Value} {n : Nat} {xs : List Value} (h : w.ownsRow base e size v n xs) (hb : ∀ g, v.ownBlock = some g → w1.heap[g]? = w.heap[g]?) : w1.ownsRow base e size v n xs := by
  refine ⟨h.1, ?_⟩
  rcases h.2 with h2 | ⟨g, cap, cur, rfl, hg, hh, r⟩
  · exact Or.inl h2
  · exact Or.inr ⟨g, cap, cur, rfl, hg, (hb g rfl).trans hh, r⟩
theorem cells7 {w : World} {g : Nat} {v0 v1 v2 v3 v4 v5 v6 : Value} {t : TypeId} (h : w.heap[g]? = some (.cells #[v0, v1, v2, v3, v4, v5, v6] t (0, 0))) :
    (w.cell? ⟨g, 0, none⟩ = some v0 ∧ w.cell? ⟨g, 1, none⟩ = some v1 ∧ w.cell? ⟨g, 2, none⟩ = some v2 ∧ w.cell? ⟨g, 3, none⟩ = some v3 ∧ w.cell? ⟨g, 4, none⟩ = some v4 ∧ w.cell? ⟨g, 5, none⟩ = some v5 ∧ w.cell? ⟨g, 6, none⟩ = some v6) ∧
    (w.frozen? ⟨g, 0, none⟩ = false ∧ w.frozen? ⟨g, 1, none⟩ = false ∧ w.frozen? ⟨g, 2, none⟩ = false ∧ w.frozen? ⟨g, 3, none⟩ = false ∧ w.frozen? ⟨g, 4, none⟩ = false ∧ w.frozen? ⟨g, 5, none⟩ = false ∧ w.frozen? ⟨g, 6, none⟩ = false) := by
  refine ⟨⟨?_, ?_, ?_, ?_, ?_, ?_, ?_⟩, frozen_of_row _ _ _ _ _ h, frozen_of_row _ _ _ _ _ h, frozen_of_row _ _ _ _ _ h, frozen_of_row _ _ _ _ _ h, frozen_of_row _ _ _ _ _ h, frozen_of_row _ _ _ _ _ h, frozen_of_row _ _ _ _ _ h⟩ <;> rw [cell_of_row _ _ _ _ _ _ h] <;> rfl

theorem cells2' {w : World} {g : Nat} {v0 v1 : Value} {t : TypeId} (h : w.heap[g]? = some (.cells #[v0, v1] t (0, 0))) : w.cell? ⟨g, 0, none⟩ = some v0 ∧ w.cell? ⟨g, 1, none⟩ = some v1 := by
  refine ⟨?_, ?_⟩ <;> rw [cell_of_row _ _ _ _ _ _ h] <;> rfl
/-- A slice of bools reads as l. -/
def SlO (w : World) (a : Option Addr) (l : List Bool) : Prop := ∀ k (h : k < l.length), ∃ b off, a = some ⟨b, off, none⟩ ∧ w.cell? ⟨b, off + k, none⟩ = some (.bool l[k])
theorem SlO.block {w w1 : World} {a : Option Addr} {l : List Bool} (h : SlO w a l) (hb : ∀ ad, a = some ad → w1.heap[ad.block]? = w.heap[ad.block]?) : SlO w1 a l := fun k hk => by
  obtain ⟨b, off, rfl, h1⟩ := h k hk
  exact ⟨b, off, rfl, (World.cell?_of_block (w := w) (a := ⟨b, off + k, none⟩) (hb ⟨b, off, none⟩ rfl)).trans h1⟩
theorem SlO.lt {w : World} {a : Option Addr} {l : List Bool} (h : SlO w a l) (hl : l ≠ []) : ∀ ad, a = some ad → ad.block < w.heap.size := fun ad e => by
  obtain ⟨b, off, e2, h1⟩ := h 0 (List.length_pos_iff.2 hl)
  rw [e] at e2
  cases e2
  exact World.block_lt_of_cell? w _ h1
theorem SlO.below {w w1 : World} {a : Option Addr} {l : List Bool} (h : SlO w a l) (hb : Below w.heap.size w w1) : SlO w1 a l := fun k hk => by
  obtain ⟨b, off, rfl, h1⟩ := h k hk
  exact ⟨b, off, rfl, (hb.cell (p := ⟨b, off + k, none⟩) (World.block_lt_of_cell? w _ h1)).trans h1⟩

/-! ### a disk in thought -/
/-- What is written to a sector. -/
structure Wr where
  sec : Int
  data : ByteArray
def wrV (l : List Wr) : List Value := l.flatMap fun x => [.int .i64 x.sec, .string x.data]
theorem wrV_length (l : List Wr) : (wrV l).length = l.length * 2 := by
  induction l with
  | nil => rfl
  | cons x l ih =>
    show (wrV l).length + 1 + 1 = _
    rw [ih, List.length_cons]
    omega
theorem wrV_snoc (l : List Wr) (x : Wr) : wrV (l ++ [x]) = wrV l ++ [.int .i64 x.sec, .string x.data] := by simp [wrV]
theorem wrV_get (l : List Wr) : ∀ (k : Nat) (h : k < l.length), (wrV l)[k * 2]? = some (.int .i64 l[k].sec) ∧ (wrV l)[k * 2 + 1]? = some (.string l[k].data) := by
  induction l with
  | nil => intro k h; simp at h
  | cons x l ih =>
    intro k h
    cases k with
    | zero => exact ⟨rfl, rfl⟩
    | succ k =>
      have := ih k (by simpa using h)
      rw [show (k + 1) * 2 = k * 2 + 2 by omega]
      simpa [wrV] using this

/-- A slice of writes reads as l. -/
def SlW (w : World) (a : Option Addr) (l : List Wr) : Prop := ∀ k (h : k < l.length), ∃ b off, a = some ⟨b, off, none⟩ ∧
  w.cell? ⟨b, off + k * 2, none⟩ = some (.int .i64 l[k].sec) ∧ w.cell? ⟨b, off + k * 2 + 1, none⟩ = some (.string l[k].data)
theorem SlW.block {w w1 : World} {a : Option Addr} {l : List Wr} (h : SlW w a l) (hb : ∀ ad, a = some ad → w1.heap[ad.block]? = w.heap[ad.block]?) : SlW w1 a l := fun k hk => by
  obtain ⟨b, off, rfl, h1, h2⟩ := h k hk
  exact ⟨b, off, rfl, (World.cell?_of_block (w := w) (a := ⟨b, off + k * 2, none⟩) (hb ⟨b, off, none⟩ rfl)).trans h1, (World.cell?_of_block (w := w) (a := ⟨b, off + k * 2 + 1, none⟩) (hb ⟨b, off, none⟩ rfl)).trans h2⟩
theorem SlW.below {w w1 : World} {a : Option Addr} {l : List Wr} (h : SlW w a l) (hb : Below w.heap.size w w1) : SlW w1 a l := fun k hk => by
  obtain ⟨b, off, rfl, h1, h2⟩ := h k hk
  exact ⟨b, off, rfl, (hb.cell (p := ⟨b, _, none⟩) (World.block_lt_of_cell? w _ h1)).trans h1, (hb.cell (p := ⟨b, _, none⟩) (World.block_lt_of_cell? w _ h2)).trans h2⟩
theorem slW_of_owns {w : World} {base : Nat} {a : Option Addr} {n c : Nat} {l : List Wr} (h : w.ownsRow base 59 2 (.slice a n c) n (wrV l)) : SlW w a l := by
  intro k hk
  have hl := h.1
  rw [wrV_length] at hl
  rcases h.2 with ⟨h1, h2⟩ | ⟨g, cap, cur, hv, hg, hh, r⟩
  · simp at h1; omega
  · simp only [Value.slice.injEq] at hv
    obtain ⟨rfl, -, rfl⟩ := hv
    have hc := h.cells (g := g) rfl
    have h3 := wrV_get l k hk
    refine ⟨g, 0, rfl, ?_, ?_⟩
    · have := hc _ _ h3.1; rwa [Go.WideShapes.add_plain] at this
    · have := hc _ _ h3.2; rwa [Go.WideShapes.add_plain] at this
structure Dk where
  sure : List ByteArray
  loose : List Wr
  down : Bool
  starts : Int
  fails : Bool
  left : Int
  keep : List Bool

namespace Dk
def settle (which : Nat → Bool) : Nat → List Wr → List ByteArray → List ByteArray
  | _, [], s => s
  | i, x :: l, s => settle which (i + 1) l (if which i then s.set x.sec.toNat x.data else s)
def settled (which : Nat → Bool) (D : Dk) : Dk := { D with sure := settle which 0 D.loose D.sure, loose := [] }
def errno (D : Dk) : Int := if D.down then 61 else 0
def crashed (keep : List Bool) (D : Dk) : Dk := { D.settled (fun i => keep.getD i false) with down := true, fails := false, keep := [] }
def crash (keep : List Bool) (D : Dk) : Dk × Int := if D.down then (D, 61) else (D.crashed keep, 0)
/-- Does the next change fail? -/
def dueNow (D : Dk) : Bool := D.fails && decide (D.left - 1 < 0)
def due (D : Dk) : Dk := if D.fails then { D with left := D.left - 1 } else D
def wrote (n : Int) (s : ByteArray) (D : Dk) : Dk := { D with loose := D.loose ++ [⟨n, s⟩] }
def write (n : Int) (s : ByteArray) (D : Dk) : Dk × Int :=
  if D.down then (D, 61)
  else if n < 0 ∨ (D.sure.length : Int) ≤ n ∨ s.size ≠ 512 then (D, 2)
  else if D.dueNow then ((D.due.wrote n s).crashed D.keep, 61) else (D.due.wrote n s, 0)
def flush (D : Dk) : Dk × Int :=
  if D.down then (D, 61)
  else if D.dueNow then (D.due.crashed D.keep, 61) else (D.due.settled (fun _ => true), 0)
/-- What a sector has. -/
def get (D : Dk) (n : Nat) : ByteArray := match D.loose.reverse.find? (fun x => x.sec == (n : Int)) with | some x => x.data | none => D.sure.getD n ⟨#[]⟩
def read (D : Dk) (n : Int) : ByteArray × Int :=
  if D.down then (⟨#[]⟩, 61) else if n < 0 ∨ (D.sure.length : Int) ≤ n then (⟨#[]⟩, 2) else (D.get n.toNat, 0)
def start (D : Dk) : Dk × Int := if D.down then ({ D with down := false, starts := D.starts + 1 }, 0) else (D, 2)
def fail (n : Int) (keep : List Bool) (D : Dk) : Dk × Int :=
  if D.down then (D, 61) else if n < 0 then (D, 2) else ({ D with fails := true, left := n, keep := keep }, 0)

/-- What each disk here is, also where a change is just failing. -/
structure Okw (D : Dk) : Prop where
  size : 8 ≤ D.sure.length ∧ D.sure.length ≤ 4096
  sure : ∀ s ∈ D.sure, s.size = 512
  loose : ∀ x ∈ D.loose, 0 ≤ x.sec ∧ x.sec < D.sure.length ∧ x.data.size = 512
  starts : 0 ≤ D.starts ∧ D.starts ≤ 4611686018427387904
  lefts : -9223372036854775808 ≤ D.left ∧ D.left ≤ 9223372036854775807
  keep : D.keep.length ≤ 1000000
  many : D.loose.length ≤ 1000000000000
/-- What each disk here is. -/
structure Ok (D : Dk) : Prop extends Okw D where
  left : D.fails = true → 0 ≤ D.left

theorem settle_length (which : Nat → Bool) : ∀ (l : List Wr) (i : Nat) (s : List ByteArray), (settle which i l s).length = s.length := by
  intro l
  induction l with
  | nil => intro i s; rfl
  | cons x l ih => intro i s; rw [settle, ih]; split <;> simp
theorem settle_sizes (which : Nat → Bool) : ∀ (l : List Wr) (i : Nat) (s : List ByteArray), (∀ t ∈ s, t.size = 512) → (∀ x ∈ l, x.data.size = 512) → ∀ t ∈ settle which i l s, t.size = 512 := by
  intro l
  induction l with
  | nil => intro i s hs hl; exact hs
  | cons x l ih =>
    intro i s hs hl
    rw [settle]
    refine ih _ _ ?_ fun y hy => hl y (List.mem_cons_of_mem _ hy)
    split
    · intro t ht
      rcases List.mem_or_eq_of_mem_set ht with h | h
      · exact hs t h
      · exact h ▸ hl x (by simp)
    · exact hs
theorem Okw.settled {D : Dk} (h : D.Okw) (which : Nat → Bool) : (D.settled which).Okw :=
  ⟨by rw [show (D.settled which).sure.length = D.sure.length from settle_length _ _ _ _]; exact h.size, settle_sizes _ _ _ _ h.sure fun x hx => (h.loose x hx).2.2, by simp [Dk.settled], h.starts, h.lefts, h.keep, by simp [Dk.settled]⟩
theorem Ok.settled {D : Dk} (h : D.Ok) (which : Nat → Bool) : (D.settled which).Ok := ⟨h.toOkw.settled which, h.left⟩
theorem Okw.crashed {D : Dk} (h : D.Okw) (keep : List Bool) : (D.crashed keep).Ok :=
  ⟨⟨(h.settled _).size, (h.settled _).sure, by simp [Dk.settled, Dk.crashed], h.starts, h.lefts, by simp [Dk.crashed], by simp [Dk.settled, Dk.crashed]⟩, by simp [Dk.crashed]⟩
theorem Ok.duew {D : Dk} (h : D.Ok) : D.due.Okw := by
  unfold Dk.due
  split
  · rename_i hf
    have h0 := h.left hf
    have h1 := h.lefts
    exact ⟨h.size, h.sure, h.loose, h.starts, by simp only; omega, h.keep, h.many⟩
  · exact h.toOkw
theorem Ok.due {D : Dk} (h : D.Ok) (hn : D.dueNow = false) : D.due.Ok := by
  refine ⟨h.duew, ?_⟩
  unfold Dk.due
  split
  · rename_i hf
    have h0 := h.left hf
    simp [Dk.dueNow, hf] at hn
    intro _
    simp only
    omega
  · exact h.left
theorem Okw.wrote {D : Dk} (h : D.Okw) {n : Int} {s : ByteArray} (h0 : 0 ≤ n) (h1 : n < D.sure.length) (hs : s.size = 512) (hm : D.loose.length < 1000000000000) : (D.wrote n s).Okw :=
  ⟨h.size, h.sure, fun x hx => by
    rcases List.mem_append.1 hx with h' | h'
    · exact h.loose x h'
    · simp at h'; subst h'; exact ⟨h0, h1, hs⟩, h.starts, h.lefts, h.keep, by simp [Dk.wrote]; omega⟩
theorem Ok.wrote {D : Dk} (h : D.Ok) {n : Int} {s : ByteArray} (h0 : 0 ≤ n) (h1 : n < D.sure.length) (hs : s.size = 512) (hm : D.loose.length < 1000000000000) : (D.wrote n s).Ok := ⟨h.toOkw.wrote h0 h1 hs hm, h.left⟩
end Dk

/-! ### a disk in memory -/
structure DiskRows (w : World) (K : Nat → Prop) (p gs cs : Nat) (vl : Value) (ak : Option Addr) (ck : Nat) (D : Dk) : Prop where
  old : ∀ b, K b → b < w.heap.size
  row : w.heap[p]? = some (.cells #[.slice (some ⟨gs, 0, none⟩) D.sure.length cs, vl, .bool D.down, .int .i64 D.starts, .bool D.fails, .int .i64 D.left, .slice ak D.keep.length ck] 103 (0, 0))
  sure : w.ownsRow 0 9 1 (.slice (some ⟨gs, 0, none⟩) D.sure.length cs) D.sure.length (D.sure.map .string)
  loose : w.ownsRow 0 59 2 vl D.loose.length (wrV D.loose)
  keep : SlO w ak D.keep
  kp : ¬ K p
  kg : ¬ K gs
  kl : ∀ g, vl.ownBlock = some g → ¬ K g ∧ g ≠ p ∧ g ≠ gs
  gp : gs ≠ p
  kk : ∀ a, ak = some a → a.block ≠ p ∧ a.block ≠ gs ∧ (∀ g, vl.ownBlock = some g → a.block ≠ g) ∧ a.block < w.heap.size

/-- A disk stands at block p; its blocks are none of K, and K's are there. -/
def DiskAt (w : World) (K : Nat → Prop) (p : Nat) (D : Dk) : Prop := D.Ok ∧ ∃ gs cs vl ak ck, DiskRows w K p gs cs vl ak ck D
/-- Also where a change is just failing. -/
def DiskW (w : World) (K : Nat → Prop) (p : Nat) (D : Dk) : Prop := D.Okw ∧ ∃ gs cs vl ak ck, DiskRows w K p gs cs vl ak ck D
theorem DiskAt.wide {w : World} {K : Nat → Prop} {p : Nat} {D : Dk} (h : DiskAt w K p D) : DiskW w K p D := ⟨h.1.toOkw, h.2⟩

theorem DiskRows.gs_lt {w : World} {K : Nat → Prop} {p gs cs : Nat} {vl : Value} {ak : Option Addr} {ck : Nat} {D : Dk} (h : DiskRows w K p gs cs vl ak ck D) : gs < w.heap.size := (h.sure.lt gs rfl).2
theorem DiskRows.p_lt {w : World} {K : Nat → Prop} {p gs cs : Nat} {vl : Value} {ak : Option Addr} {ck : Nat} {D : Dk} (h : DiskRows w K p gs cs vl ak ck D) : p < w.heap.size := (Array.getElem?_eq_some_iff.1 h.row).1

theorem DiskRows.blocks {w w' : World} {K K' : Nat → Prop} {p gs cs : Nat} {vl : Value} {ak : Option Addr} {ck : Nat} {D : Dk} (h : DiskRows w K p gs cs vl ak ck D)
    (hs : w.heap.size ≤ w'.heap.size) (hb : ∀ b, b < w.heap.size → ¬ K b → w'.heap[b]? = w.heap[b]?) (hk : ∀ a, ak = some a → w'.heap[a.block]? = w.heap[a.block]?) (hK : ∀ b, K' b → b < w'.heap.size ∧ (K b ∨ w.heap.size ≤ b)) :
    DiskRows w' K' p gs cs vl ak ck D := by
  have no : ∀ b, b < w.heap.size → ¬ K b → ¬ K' b := fun b h1 h2 h3 => by
    rcases (hK b h3).2 with h | h
    · exact h2 h
    · omega
  exact ⟨fun b hb => (hK b hb).1, (hb p h.p_lt h.kp).trans h.row, row_block h.sure fun g e => by cases e; exact hb gs h.gs_lt h.kg, row_block h.loose fun g e => hb g (h.loose.lt g e).2 (h.kl g e).1,
    h.keep.block hk, no p h.p_lt h.kp, no gs h.gs_lt h.kg, fun g e => ⟨no g (h.loose.lt g e).2 (h.kl g e).1, (h.kl g e).2⟩, h.gp, fun a e => ⟨(h.kk a e).1, (h.kk a e).2.1, (h.kk a e).2.2.1, by have := (h.kk a e).2.2.2; omega⟩⟩

theorem DiskRows.below {w w' : World} {K : Nat → Prop} {p gs cs : Nat} {vl : Value} {ak : Option Addr} {ck : Nat} {D : Dk} (h : DiskRows w K p gs cs vl ak ck D) (hb : Below w.heap.size w w') : DiskRows w' K p gs cs vl ak ck D :=
  h.blocks hb.size (fun b h1 _ => hb.block b h1) (fun a e => hb.block _ (h.kk a e).2.2.2) fun b hb' => ⟨by have := h.old b hb'; have := hb.size; omega, .inl hb'⟩
/-- Nothing that was there has turned: the disk stands; and what is new is none of its. -/
theorem DiskAt.fresh {w w' : World} {K : Nat → Prop} {p : Nat} {D : Dk} (h : DiskAt w K p D) (hb : Below w.heap.size w w') : DiskAt w' (fun b => K b ∨ (w.heap.size ≤ b ∧ b < w'.heap.size)) p D := by
  obtain ⟨ok, gs, cs, vl, ak, ck, h⟩ := h
  refine ⟨ok, gs, cs, vl, ak, ck, h.blocks hb.size (fun b h1 _ => hb.block b h1) (fun a e => hb.block _ (h.kk a e).2.2.2) fun b hb' => ?_⟩
  rcases hb' with h1 | h1
  · exact ⟨by have := h.old b h1; have := hb.size; omega, .inl h1⟩
  · exact ⟨h1.2, .inr h1.1⟩
theorem DiskAt.mono {w : World} {K K' : Nat → Prop} {p : Nat} {D : Dk} (h : DiskAt w K p D) (hK : ∀ b, K' b → K b) : DiskAt w K' p D := by
  obtain ⟨ok, gs, cs, vl, ak, ck, h⟩ := h
  exact ⟨ok, gs, cs, vl, ak, ck, h.blocks (Nat.le_refl _) (fun _ _ _ => rfl) (fun _ _ => rfl) fun b hb => ⟨h.old b (hK b hb), .inl (hK b hb)⟩⟩
theorem DiskAt.below {w w' : World} {K : Nat → Prop} {p : Nat} {D : Dk} (h : DiskAt w K p D) (hb : Below w.heap.size w w') : DiskAt w' K p D := (h.fresh hb).mono fun b h => .inl h

theorem DiskW.fresh {w w' : World} {K : Nat → Prop} {p : Nat} {D : Dk} (h : DiskW w K p D) (hb : Below w.heap.size w w') : DiskW w' (fun b => K b ∨ (w.heap.size ≤ b ∧ b < w'.heap.size)) p D := by
  obtain ⟨ok, gs, cs, vl, ak, ck, h⟩ := h
  refine ⟨ok, gs, cs, vl, ak, ck, h.blocks hb.size (fun b h1 _ => hb.block b h1) (fun a e => hb.block _ (h.kk a e).2.2.2) fun b hb' => ?_⟩
  rcases hb' with h1 | h1
  · exact ⟨by have := h.old b h1; have := hb.size; omega, .inl h1⟩
  · exact ⟨h1.2, .inr h1.1⟩
theorem DiskW.mono {w : World} {K K' : Nat → Prop} {p : Nat} {D : Dk} (h : DiskW w K p D) (hK : ∀ b, K' b → K b) : DiskW w K' p D := by
  obtain ⟨ok, gs, cs, vl, ak, ck, h⟩ := h
  exact ⟨ok, gs, cs, vl, ak, ck, h.blocks (Nat.le_refl _) (fun _ _ _ => rfl) (fun _ _ => rfl) fun b hb => ⟨h.old b (hK b hb), .inl (hK b hb)⟩⟩
theorem DiskAt.old {w : World} {K : Nat → Prop} {p : Nat} {D : Dk} (h : DiskAt w K p D) : ∀ b, K b → b < w.heap.size := by
  obtain ⟨ok, gs, cs, vl, ak, ck, h⟩ := h
  exact h.old
theorem DiskW.old {w : World} {K : Nat → Prop} {p : Nat} {D : Dk} (h : DiskW w K p D) : ∀ b, K b → b < w.heap.size := by
  obtain ⟨ok, gs, cs, vl, ak, ck, h⟩ := h
  exact h.old
/-- A store into the disk's own cells. -/
theorem DiskRows.store {w w' : World} {K : Nat → Prop} {p gs cs : Nat} {vl : Value} {ak : Option Addr} {ck : Nat} {D D' : Dk} (h : DiskRows w K p gs cs vl ak ck D)
    (hrow : w'.heap[p]? = some (.cells #[.slice (some ⟨gs, 0, none⟩) D.sure.length cs, vl, .bool D'.down, .int .i64 D'.starts, .bool D'.fails, .int .i64 D'.left, .slice ak D.keep.length ck] 103 (0, 0)))
    (hs : w'.heap.size = w.heap.size) (ho : ∀ b, b ≠ p → w'.heap[b]? = w.heap[b]?) (e1 : D'.sure = D.sure) (e2 : D'.loose = D.loose) (e3 : D'.keep = D.keep) : DiskRows w' K p gs cs vl ak ck D' := by
  refine ⟨fun b hb => by rw [hs]; exact h.old b hb, by rw [e1, e3]; exact hrow, ?_, ?_, ?_, h.kp, h.kg, h.kl, h.gp, fun a e => by rw [hs]; exact h.kk a e⟩
  · rw [e1]; exact row_block h.sure fun g e => by cases e; exact ho gs h.gp
  · rw [e2]; exact row_block h.loose fun g e => ho g (h.kl g e).2.1
  · rw [e3]; exact h.keep.block fun a e => ho _ (h.kk a e).1

/-- Another row of loose writes. -/
theorem DiskRows.loosed {w w' : World} {K : Nat → Prop} {p gs cs : Nat} {vl vl' : Value} {ak : Option Addr} {ck : Nat} {D D' : Dk} (h : DiskRows w K p gs cs vl ak ck D)
    (hrow : w'.heap[p]? = some (.cells #[.slice (some ⟨gs, 0, none⟩) D.sure.length cs, vl', .bool D'.down, .int .i64 D'.starts, .bool D'.fails, .int .i64 D'.left, .slice ak D.keep.length ck] 103 (0, 0)))
    (hs : w.heap.size ≤ w'.heap.size) (ho : ∀ b, b ≠ p → vl.ownBlock ≠ some b → b < w.heap.size → w'.heap[b]? = w.heap[b]?) (hl : w'.ownsRow 0 59 2 vl' D'.loose.length (wrV D'.loose))
    (hkl : ∀ g, vl'.ownBlock = some g → vl.ownBlock = some g ∨ w.heap.size ≤ g) (e1 : D'.sure = D.sure) (e3 : D'.keep = D.keep) : DiskRows w' K p gs cs vl' ak ck D' := by
  refine ⟨fun b hb => Nat.lt_of_lt_of_le (h.old b hb) hs, by rw [e1, e3]; exact hrow, ?_, hl, ?_, h.kp, h.kg, fun g e => ?_, h.gp, fun a e => ⟨(h.kk a e).1, (h.kk a e).2.1, fun g e2 => ?_, Nat.lt_of_lt_of_le (h.kk a e).2.2.2 hs⟩⟩
  · rw [e1]; exact row_block h.sure fun g e => by cases e; exact ho gs h.gp (fun e => (h.kl gs e).2.2 rfl) h.gs_lt
  · rw [e3]; exact h.keep.block fun a e => ho _ (h.kk a e).1 (fun e2 => (h.kk a e).2.2.1 _ e2 rfl) (h.kk a e).2.2.2
  · rcases hkl g e with e2 | e2
    · exact h.kl g e2
    · have h1 := h.p_lt
      have h2 := h.gs_lt
      exact ⟨fun hk => by have := h.old g hk; omega, by omega, by omega⟩
  · rcases hkl g e2 with e3 | e3
    · exact (h.kk a e).2.2.1 g e3
    · have := (h.kk a e).2.2.2
      omega
/-- Another row that says what is kept. -/
theorem DiskRows.kept {w w' : World} {K : Nat → Prop} {p gs cs : Nat} {vl : Value} {ak ak' : Option Addr} {ck ck' : Nat} {D D' : Dk} (h : DiskRows w K p gs cs vl ak ck D)
    (hrow : w'.heap[p]? = some (.cells #[.slice (some ⟨gs, 0, none⟩) D.sure.length cs, vl, .bool D'.down, .int .i64 D'.starts, .bool D'.fails, .int .i64 D'.left, .slice ak' D'.keep.length ck'] 103 (0, 0)))
    (hs : w.heap.size ≤ w'.heap.size) (ho : ∀ b, b ≠ p → b < w.heap.size → w'.heap[b]? = w.heap[b]?) (hk : SlO w' ak' D'.keep)
    (hkk : ∀ a, ak' = some a → w.heap.size ≤ a.block ∧ a.block < w'.heap.size) (e1 : D'.sure = D.sure) (e2 : D'.loose = D.loose) : DiskRows w' K p gs cs vl ak' ck' D' := by
  refine ⟨fun b hb => Nat.lt_of_lt_of_le (h.old b hb) hs, by rw [e1]; exact hrow, ?_, ?_, hk, h.kp, h.kg, h.kl, h.gp, fun a e => ?_⟩
  · rw [e1]; exact row_block h.sure fun g e => by cases e; exact ho gs h.gp h.gs_lt
  · rw [e2]; exact row_block h.loose fun g e => ho g (h.kl g e).2.1 (h.loose.lt g e).2
  · have h1 := h.p_lt
    have h2 := h.gs_lt
    have h3 := hkk a e
    exact ⟨by omega, by omega, fun g eg => by have := (h.loose.lt g eg).2; omega, h3.2⟩
/-- Another sector that is sure. -/
theorem DiskRows.sured {w : World} {K : Nat → Prop} {p gs cs : Nat} {vl : Value} {ak : Option Addr} {ck : Nat} {D : Dk} (h : DiskRows w K p gs cs vl ak ck D) (n : Nat) (s : ByteArray) :
    DiskRows (w.setCell ⟨gs, n, none⟩ (.string s)) K p gs cs vl ak ck { D with sure := D.sure.set n s } := by
  have ho : ∀ b, b ≠ gs → (w.setCell ⟨gs, n, none⟩ (.string s)).heap[b]? = w.heap[b]? := fun b hb => Below.heap_setCell _ _ _ _ hb
  have hl : (D.sure.set n s).length = D.sure.length := by simp
  refine ⟨fun b hb => by simpa using h.old b hb, ?_, ?_, row_block h.loose fun g e => ho g (h.kl g e).2.2, h.keep.block fun a e => ho _ (h.kk a e).2.1, h.kp, h.kg, h.kl, h.gp, fun a e => by simpa using h.kk a e⟩
  · rw [ho p (fun e => h.gp e.symm)]
    simp only [hl]
    exact h.row
  · have := (h.sure.stored n (.string s)).1
    simp only [hl]
    rwa [← List.map_set] at this

end Go.Proofs.Ytffgjjhopopgcaa
