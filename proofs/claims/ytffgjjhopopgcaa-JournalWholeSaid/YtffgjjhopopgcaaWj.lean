/-
  JournalWhole answers true for every row of acts, in every world: the walk.
-/
import Derived.Test.YtffgjjhopopgcaaWh
import Derived.Test.YtffgjjhopopgcaaWi
namespace Go.Proofs.Ytffgjjhopopgcaa
set_option linter.unusedVariables false
set_option linter.unusedSimpArgs false
open Go.RowKit
set_option maxRecDepth 100000
set_option maxHeartbeats 8000000
attribute [local go_sem high] eq8

/-! ### a row that the caller keeps turns -/
theorem JRows.turnK {w w' : World} {K : Nat → Prop} {jp p : Nat} {mv : Option Nat} {J : Jn} {D : Dk} (h : JRows w K jp p mv J D) {b : Nat} (hg : w.grownBy w' (some b)) (hb : K b) (hn : ∀ o v, w.cell? ⟨b, o, none⟩ = some (.bool v) → False) : JRows w' K jp p mv J D := by
  refine ⟨h.disk.turn hg (.inl hb) hn, (hg.block jp h.lt fun e => h.kj (by cases e; exact hb)).trans h.row, ?_, h.kj, h.ok⟩
  rcases h.since with h1 | ⟨m, n, e, h1, h2, h3, h4⟩
  · exact .inl h1
  · exact .inr ⟨m, n, e, h1.block (hg.block m h1.lt fun e2 => h3 (by cases e2; exact hb)), h2, h3, h4⟩
theorem JUp.turnK {w w' : World} {K : Nat → Prop} {jp p : Nat} {J : Jn} {D : Dk} (h : JUp w K jp p J D) {b : Nat} (hg : w.grownBy w' (some b)) (hb : K b) (hn : ∀ o v, w.cell? ⟨b, o, none⟩ = some (.bool v) → False) : JUp w' K jp p J D := by
  obtain ⟨m, h⟩ := h
  exact ⟨m, h.turnK hg hb hn⟩
theorem grownBy_setRow (w : World) (g : Nat) (cs : Array Value) : w.grownBy (w.setRow g cs) (some g) := ⟨rfl, rfl, rfl, by simp, fun k _ hk => setRow_other w g k _ (fun e => hk (by rw [e]))⟩
theorem row8_no_bool {w : World} {g : Nat} {l : List UInt8} {t : TypeId} {fr : Nat × Nat} (h : w.heap[g]? = some (.cells (row8 l) t fr)) : ∀ o v, w.cell? ⟨g, o, none⟩ = some (.bool v) → False := by
  intro o v hc
  rw [cell_of_row _ _ _ _ _ _ h] at hc
  unfold row8 at hc
  simp at hc
/-- A row of eight bytes turns. -/
theorem JUp.set8 {w : World} {K : Nat → Prop} {jp p : Nat} {J : Jn} {D : Dk} (h : JUp w K jp p J D) {g : Nat} (hb : K g) {l : List UInt8} {t : TypeId} {fr : Nat × Nat} (hr : w.heap[g]? = some (.cells (row8 l) t fr)) (r : Array Value) :
    JUp (w.setRow g r) K jp p J D ∧ (w.setRow g r).heap[g]? = some (.cells r t fr) ∧ ∀ k, k ≠ g → (w.setRow g r).heap[k]? = w.heap[k]? :=
  ⟨h.turnK (grownBy_setRow w g r) hb (row8_no_bool hr), setRow_heap _ _ _ _ _ _ hr, fun k hk => setRow_other w g k _ hk⟩
/-- What is done with a disk is done with the journal's. -/
theorem JUp.onDisk {f : FuncId} {args : Array Value} {w : World} {K : Nat → Prop} {jp p : Nat} {J : Jn} {D D' : Dk} {v : Value} (h : JUp w K jp p J D) (hc : ∀ K', (∀ b, K b → K' b) → DiskAt w K' p D → Calls Try.prog f args w (RetD w K' p v D')) :
    Calls Try.prog f args w (fun e w' => e = .returned v ∧ JUp w' K jp p J D' ∧ Kept K w w') := by
  obtain ⟨m, h⟩ := h
  exact (hc _ (fun b hb => .inl hb) h.disk).mono fun e w' ⟨he, hd, hk⟩ => ⟨he, ⟨m, h.kept hd hk⟩, JRows.keptK hk⟩

theorem i64_and31 (n : Int) : bits .and .i64 n 31 = n % 32 := by
  have h1 : (BitVec.ofInt 64 31).toNat = 2 ^ 5 - 1 := by decide
  have key : (BitVec.ofInt 64 n &&& BitVec.ofInt 64 31).toNat = (n % ((2 ^ 64 : Nat) : Int)).toNat % 2 ^ 5 := by
    rw [BitVec.toNat_and, BitVec.toNat_ofInt, h1, Nat.and_two_pow_sub_one_eq_mod]
  show IntKind.i64.wrap ((BitVec.ofInt 64 n &&& BitVec.ofInt 64 31).toNat : Nat) = n % 32
  rw [key, IntKind.wrap_i64]
  omega
theorem i64_and7 (n : Int) : bits .and .i64 n 7 = n % 8 := by
  have h1 : (BitVec.ofInt 64 7).toNat = 2 ^ 3 - 1 := by decide
  have key : (BitVec.ofInt 64 n &&& BitVec.ofInt 64 7).toNat = (n % ((2 ^ 64 : Nat) : Int)).toNat % 2 ^ 3 := by
    rw [BitVec.toNat_and, BitVec.toNat_ofInt, h1, Nat.and_two_pow_sub_one_eq_mod]
  show IntKind.i64.wrap ((BitVec.ofInt 64 n &&& BitVec.ofInt 64 7).toNat : Nat) = n % 8
  rw [key, IntKind.wrap_i64]
  omega
theorem set6 {w : World} {g : Nat} {v0 v1 v2 v3 v4 v5 u0 u1 u2 u3 u4 u5 : Value} {t : TypeId} (h : w.heap[g]? = some (.cells #[v0, v1, v2, v3, v4, v5] t (0, 0))) :
    ((((((w.setCell ⟨g, 0, none⟩ u0).setCell ⟨g, 1, none⟩ u1).setCell ⟨g, 2, none⟩ u2).setCell ⟨g, 3, none⟩ u3).setCell ⟨g, 4, none⟩ u4).setCell ⟨g, 5, none⟩ u5).heap[g]? = some (.cells #[u0, u1, u2, u3, u4, u5] t (0, 0)) := by
  have h0 := heap_setCell_same w g 0 _ t u0 h
  have h1 := heap_setCell_same _ g 1 _ t u1 h0
  have h2 := heap_setCell_same _ g 2 _ t u2 h1
  have h3 := heap_setCell_same _ g 3 _ t u3 h2
  have h4 := heap_setCell_same _ g 4 _ t u4 h3
  exact heap_setCell_same _ g 5 _ t u5 h4

/-- Where the acts of JournalWhole stand: the journal, its disk, and the two rows. -/
structure Wst (w : World) (K : Nat → Prop) (g6 : Nat) (jp p : Nat) (J : Jn) (D : Dk) (S : List UInt8) : Prop where
  up : JUp w K jp p J D
  row : w.heap[g6]? = some (.cells (row8 S) 79 (0, 0))
  k6 : K g6

theorem whole_walk (l : List ActL) (ys : List Lies) (a : Option Addr) (c : Nat) (w : World) (hl : l.length ≤ maxLen) (hx : SlA w a l ys) (hf : ∀ x ∈ l, x.Fine) :
    Calls Try.prog 11 #[.slice a l.length c] w (Ret w (.bool true)) := by
  have HLG := Lib.hid (fun w => logged_any w)
  have HO := Lib.hid (opened_any w 73 (by decide) (by decide))
  unfold maxLen at hl
  have hg := great_any l ys a c 14 (by omega) w hx hf
  cases hgr : greatA l 14 with
  | true =>
    rw [hgr] at hg
    clear hx hf hgr
    go_enter Try.func11, Try.ntmps11
    go_wp2_with fail
    refine hg.mono ?_
    rintro e w1 ⟨rfl, rfl⟩
    clear hg
    go_wp2_with fail
    refine (HLG.out _).mono ?_
    rintro e w2 ⟨rfl, hb2⟩
    go_wp2
    go_ret
    exact ⟨rfl, hb2⟩
  | false =>
    rw [hgr] at hg
    obtain ⟨hl14, hsm⟩ := great_false hgr
    have HX := Lib.hid hx
    have HSM := Lib.hid hsm
    have HF := Lib.hid hf
    have hz : ∀ w : World, (zeroValue 79).run Try.prog w = .ok (.agg (row8 (zeros 8))) w := fun w => by
      rw [row8_zero]
      exact (zero_of_info info79).1 w
    have hz0 : (row8 (zeros 8)).size = 8 := rfl
    obtain ⟨T0, hT0⟩ : ∃ T0, row8 (zeros 8) = T0 := ⟨_, rfl⟩
    rw [hT0] at hz hz0
    have HT0 := Lib.hid hT0
    have HZ := Lib.hid hz
    clear hx hf hgr hsm hz hT0
    go_enter Try.func11, Try.ntmps11
    go_wp2_with fail
    refine hg.mono ?_
    rintro e w1 ⟨rfl, rfl⟩
    clear hg
    go_wp2_with fail
    refine HO.out.mono ?_
    rintro e w1 ⟨p, jp, J, D, rfl, hj1, hN, hb1⟩
    have hz := HZ.out
    go_upto_region 7 with fail
    have hW0 : (w1.alloc (.cells T0 79)).heap[w1.heap.size]? = some (.cells (row8 (zeros 8)) 79 (0, 0)) := by
      rw [HT0.out]
      exact heap_alloc_last w1 (.cells T0 79)
    have hbW := (Below.refl w1.heap.size w1).alloc (Nat.le_refl _) (.cells T0 79)
    have hsW : (w1.alloc (.cells T0 79)).heap.size = w1.heap.size + 1 := by simp
    have hjW := hj1.fresh hbW
    have hg6 : w1.heap.size < (w1.alloc (.cells T0 79)).heap.size := by omega
    have hb1W := hb1.trans (hbW.mono hb1.size)
    have hwu := WUp.new hN
    have hlen8 : (zeros 8).length = 8 := rfl
    generalize zeros 8 = S0 at *
    generalize w1.alloc (.cells T0 79) = W at *
    have HK6 := Lib.hid (show (fun b => b < w.heap.size ∨ (w1.heap.size ≤ b ∧ b < W.heap.size)) w1.heap.size from .inr ⟨Nat.le_refl _, hg6⟩)
    have HKW := Lib.hid (show ∀ b, b < w.heap.size → (fun b => b < w.heap.size ∨ (w1.heap.size ≤ b ∧ b < W.heap.size)) b from fun b hb => .inl hb)
    have HWU := Lib.hid hwu
    have HJW := Lib.hid hjW
    have HW0 := Lib.hid hW0
    have HBW := Lib.hid hb1W
    have HKO := Lib.hid hjW.at.old
    generalize (fun b => b < w.heap.size ∨ (w1.heap.size ≤ b ∧ b < W.heap.size)) = KW at *
    have HG6 := Lib.hid hb1.size
    obtain ⟨g6, hg6e⟩ : ∃ g6, w1.heap.size = g6 := ⟨_, rfl⟩
    rw [hg6e] at HG6
    rw [hg6e] at HK6 HW0
    simp only [hg6e]
    clear hz hwu hjW hW0 hb1W hg6 hlen8 hb1 hN hj1 hbW hsW hg6e HO
    go_wp2
    go_loopw [4, 7] (fun v i wr => ∃ (k jp : Nat) (J : Jn) (D : Dk) (S : List UInt8), k ≤ l.length ∧ i = .int .i64 k ∧ v = .pointer (some ⟨jp, 0, none⟩) ∧ JUp wr KW jp p J D ∧ wr.heap[g6]? = some (.cells (row8 S) 79 (0, 0)) ∧ WUp J D S (2 + 100 * k) ∧ Below w.heap.size w wr) (fun _ i _ => l.length - (intOf i).toNat)
    case atStart => exact ⟨0, jp, J, D, S0, by omega, rfl, rfl, HJW.out, HW0.out, HWU.out, HBW.out⟩
    case round =>
      clear HJW HWU HW0 HBW
      clear J D
      obtain ⟨k, jq, J, D, S, hk, rfl, rfl, hj, hr6, hU, hb⟩ := hrel
      by_cases hlk : k < l.length
      · obtain ⟨b, off, y, hae, hat0, hbl, d0, d1, d2, d3, d4, d5⟩ := HX.out.cells k hlk
        have hkeepK := Lib.hid (fun (ad : Addr) (e : y.ak = some ad) (hne : l[k].keep ≠ []) => HKW.out ad.block (hat0.keep.lt hne ad e))
        have HKLT := Lib.hid (fun (ad : Addr) (e : y.ak = some ad) (hne : l[k].keep ≠ []) => hat0.keep.lt hne ad e)
        have hat := hat0.below hb
        have c0 := (hb.cell (p := ⟨b, off + k * 6, none⟩) hbl).trans d0
        have c1 := (hb.cell (p := ⟨b, off + k * 6 + 1, none⟩) hbl).trans d1
        have c2 := (hb.cell (p := ⟨b, off + k * 6 + 2, none⟩) hbl).trans d2
        have c3 := (hb.cell (p := ⟨b, off + k * 6 + 3, none⟩) hbl).trans d3
        have c4 := (hb.cell (p := ⟨b, off + k * 6 + 4, none⟩) hbl).trans d4
        have c5 := (hb.cell (p := ⟨b, off + k * 6 + 5, none⟩) hbl).trans d5
        clear hat0 d0 d1 d2 d3 d4 d5
        have hsm := HSM.out l[k] (List.getElem_mem hlk)
        have hfin := HF.out l[k] (List.getElem_mem hlk)
        subst hae
        generalize l[k] = x at *
        go_upto_region 11 with fail
        have hal := (Below.refl wr.heap.size wr).alloc (Nat.le_refl _) (.cells #[.int .u8 x.kind.toNat, .int .u8 x.c.toNat, .slice y.an x.n.length y.cn, .int .i64 x.pos, .slice y.ar x.raw.length y.cr, .slice y.ak x.keep.length y.ck] 55)
        have hla := heap_alloc_last wr (.cells #[.int .u8 x.kind.toNat, .int .u8 x.c.toNat, .slice y.an x.n.length y.cn, .int .i64 x.pos, .slice y.ar x.raw.length y.cr, .slice y.ak x.keep.length y.ck] 55)
        have hsa : (wr.alloc (.cells #[.int .u8 x.kind.toNat, .int .u8 x.c.toNat, .slice y.an x.n.length y.cn, .int .i64 x.pos, .slice y.ar x.raw.length y.cr, .slice y.ak x.keep.length y.ck] 55)).heap.size = wr.heap.size + 1 := by simp
        generalize wr.alloc (.cells #[.int .u8 x.kind.toNat, .int .u8 x.c.toNat, .slice y.an x.n.length y.cn, .int .i64 x.pos, .slice y.ar x.raw.length y.cr, .slice y.ak x.keep.length y.ck] 55) = w2 at *
        have HSA := Lib.hid hsa
        clear hsa
        have hr62 := (hal.block g6 (Array.getElem?_eq_some_iff.1 hr6).1).trans hr6
        have HR62 := Lib.hid hr62
        have hlenS := hU.len
        have Hsz := Lib.hid (size8 S hlenS)
        have Hone := Lib.hid (row8_one S)
        have HzT := Lib.hid (show T0.size = (row8 S).size by rw [hz0, row8_size, hlenS])
        have hz := HZ.out
        go_upto_region 12 with (first | (refine wpList_load_row rfl 79 _ rfl g6 rfl _ _ _ _ HR62.out Try.underlying79 rfl Hsz.out ?_) | (refine wpList_store_row rfl 79 _ _ rfl w2.heap.size _ rfl rfl _ _ (heap_alloc_last w2 _) Hsz.out HzT.out Hone.out ?_))
        have hp3 := put8 w2 T0 (row8 S) 79
        generalize (w2.alloc (.cells T0 79)).setRow w2.heap.size (row8 S) = w3 at *
        have hb3 := hal.trans (hp3.2.1.mono hal.size)
        have hr63 := (hp3.2.1.block g6 (Array.getElem?_eq_some_iff.1 hr62).1).trans hr62
        have hr83 := (hp3.2.1.block wr.heap.size (by have := HSA.out; omega)).trans hla
        have hj3 := hj.fresh hb3
        have hbe3 : Below w.heap.size w w3 := hb.trans (hb3.mono hb.size)
        have hat3 := hat.below hb3
        have hg69 : g6 ≠ w2.heap.size := by have := (Array.getElem?_eq_some_iff.1 hr62).1; omega
        have HG68 := Lib.hid (show g6 < wr.heap.size from (Array.getElem?_eq_some_iff.1 hr6).1)
        obtain ⟨g8, hg8⟩ : ∃ g8, wr.heap.size = g8 := ⟨_, rfl⟩
        obtain ⟨g9, hg9⟩ : ∃ g9, w2.heap.size = g9 := ⟨_, rfl⟩
        have hK9 : g8 < g9 ∧ g9 < w3.heap.size ∧ w.heap.size ≤ g8 := by have := hb.size; have := hp3.2.2; have := HSA.out; omega
        have hr93 := hp3.1
        rw [hg8] at hr83 HG68
        rw [hg9] at hr93 hg69
        simp only [hg8, hg9]
        have HK3 := Lib.hid (show ∀ b, KW b → (fun b => KW b ∨ (wr.heap.size ≤ b ∧ b < w3.heap.size)) b from fun b hb => .inl hb)
        have HK39 := Lib.hid (show (fun b => KW b ∨ (wr.heap.size ≤ b ∧ b < w3.heap.size)) g9 from .inr (by rw [hg8]; exact ⟨Nat.le_of_lt hK9.1, hK9.2.1⟩))
        have HK38 := Lib.hid (show (fun b => KW b ∨ (wr.heap.size ≤ b ∧ b < w3.heap.size)) g8 from .inr (by rw [hg8]; exact ⟨Nat.le_refl _, by omega⟩))
        generalize (fun b => KW b ∨ (wr.heap.size ≤ b ∧ b < w3.heap.size)) = K3 at *
        clear hp3 hal hla HSA hr62 HR62 hr6 hj hb hb3 hat c0 c1 c2 c3 c4 c5 hbl hz Hsz Hone HzT
        have HR6 := Lib.hid hr63
        have HR9 := Lib.hid hr93
        have HR8 := Lib.hid hr83
        have HJ3 := Lib.hid hj3
        have HU := Lib.hid hU
        have HB3 := Lib.hid hbe3
        have HAT := Lib.hid hat3
        have HSMX := Lib.hid hsm
        have HFIN := Lib.hid hfin
        have HK9 := Lib.hid hK9
        have HG69 := Lib.hid hg69
        have c0 := (cells6 hr83).1.1
        clear hr63 hr93 hr83 hj3 hU hbe3 hat3 hsm hfin hK9 hg69 hlenS
        go_upto_block 2 with fail
        clear c0
        go_cut [42] (fun t42 wx => ∃ (J : Jn) (D : Dk) (S S' : List UInt8), JUp wx K3 jq p J D ∧ wx.heap[g6]? = some (.cells (row8 S) 79 (0, 0)) ∧ wx.heap[g9]? = some (.cells (row8 S') 79 (0, 0)) ∧
          wx.heap[g8]? = some (.cells #[.int .u8 x.kind.toNat, .int .u8 x.c.toNat, .slice y.an x.n.length y.cn, .int .i64 x.pos, .slice y.ar x.raw.length y.cr, .slice y.ak x.keep.length y.ck] 55 (0, 0)) ∧
          Below w.heap.size w wx ∧ S.length = 8 ∧ S'.length = 8 ∧ (WUp J D S (2 + 100 * k + 1) ∨ WDn D S S' (2 + 100 * k + 1)))
        case first =>
          have commitCase : True := trivial
          obtain ⟨m, hm⟩ : ∃ m : Nat, x.kind.toNat % 14 = m := ⟨_, rfl⟩
          have hmI : ((x.kind.toNat : Nat) : Int) % 14 = (m : Int) := by omega
          have hm14 : m < 14 := by omega
          obtain ⟨e0, e1, e2, e3, e4, e5⟩ := (cells6 HR8.out).1
          rcases (by omega : m ≤ 6 ∨ m = 7 ∨ m = 8 ∨ m = 10 ∨ (m = 9 ∨ 11 ≤ m)) with h | h | h | h | h
          · have hwr := writes_any x y 8 (by decide) (by have := HSMX.out.1; omega) w3 HAT.out.n
            unfold actV at hwr
            have m1 := writesL_may x 8 (by decide) 8 (Int.le_refl _)
            have s1 := writesL_size x 8 (by decide)
            have i1 := writesL_in (x := x) (size := 8) (by decide) (by decide)
            have y1 := writesL_bytes x 8
            generalize writesL x 8 = L at *
            have HM := Lib.hid (And.intro m1 (And.intro s1 (And.intro i1 y1)))
            have HWR := Lib.hid hwr
            have hlenS := HU.out.len
            have hw := ((mayW_iff _ _).1 m1).1
            have HWI := Lib.hid (fun (a1 : Option Addr) (c1 : Nat) (wq : World) (q : SlW wq a1 L) => with_any S hlenS a1 c1 L (by omega) hw wq q)
            have hlS' : (withL S L).length = 8 := by rw [withL_length]; exact hlenS
            have Hsz := Lib.hid (size8 S hlenS)
            have Hone := Lib.hid (row8_one S)
            have Hsz' := Lib.hid (size8 _ hlS')
            have Hone' := Lib.hid (row8_one (withL S L))
            have HzS := Lib.hid (show (row8 S).size = (row8 (withL S L)).size by rw [row8_size, row8_size, hlenS, hlS'])
            have HCM := Lib.hid (HU.out.commit (by omega) m1 s1 y1)
            generalize withL S L = S' at *
            clear m1 s1 i1 y1 hwr hw hm hlenS
            go_upto_if 43 with fail
            go_cut [42, 43] (fun t42 t wx => t = .bool true ∧ wx = w3)
            case first =>
              rcases (by omega : m = 0 ∨ m = 1 ∨ m = 2 ∨ m = 3 ∨ m = 4 ∨ m = 5 ∨ m = 6) with h | h | h | h | h | h | h <;> subst h
              all_goals
                go_wp2_with fail
                go_meet
                case rel => exact ⟨rfl, rfl⟩
            case rest =>
              obtain ⟨rfl, rfl⟩ := hcut
              go_wp2_with fail
              refine HWR.out.mono ?_
              rintro e w4 ⟨a1, cc1, rfl, q1, f1, b4⟩
              have HR64 := Lib.hid ((b4.block g6 (Array.getElem?_eq_some_iff.1 HR6.out).1).trans HR6.out)
              go_wp2_with (refine wpList_load_row rfl 79 _ rfl g6 rfl _ _ _ _ HR64.out Try.underlying79 rfl Hsz.out ?_)
              refine (HWI.out a1 cc1 w4 q1).mono ?_
              rintro e w5 ⟨rfl, b5⟩
              have b35 := b4.trans (b5.mono b4.size)
              have HR95 := Lib.hid ((b35.block g9 HK9.out.2.1).trans HR9.out)
              go_upto_region 22 with (refine wpList_store_row rfl 79 _ _ rfl g9 _ rfl rfl _ _ HR95.out Hsz'.out HzS.out Hone'.out ?_)
              obtain ⟨hj6, hr96, ho6⟩ := (HJ3.out.fresh b35).set8 (.inl HK39.out) HR95.out (row8 S')
              have hbe6 := below_setRow (HB3.out.trans (b35.mono HB3.out.size)) (show w.heap.size ≤ g9 by have := HK9.out; omega) (row8 S')
              generalize w5.setRow g9 (row8 S') = w6 at *
              have q6 : SlW w6 a1 L := (q1.below b5).block fun ad e => ho6 ad.block (by have := (f1 ad e).1; have := HK9.out; omega)
              have hr66 := (ho6 g6 HG69.out).trans ((b5.block g6 (Array.getElem?_eq_some_iff.1 HR64.out).1).trans HR64.out)
              have hr86 := (ho6 g8 (by have := HK9.out; omega)).trans ((b35.block g8 (by have := HK9.out; omega)).trans HR8.out)
              have hcl := commit_any hj6 a1 cc1 L q6 (fun ad e => .inr ⟨(f1 ad e).1, Nat.lt_of_lt_of_le (f1 ad e).2 b5.size⟩) HM.out.2.2.1 (by have := HU.out.loose; omega) (by have := HU.out.number; omega)
              have HR66 := Lib.hid hr66
              have HR86 := Lib.hid hr86
              have HR96 := Lib.hid hr96
              have HBE6 := Lib.hid hbe6
              clear q1 f1 b4 b5 b35 hj6 hr96 ho6 hbe6 q6 hr66 hr86 HR64 HR95
              rcases HCM.out with ⟨J', D', hst, hU'⟩ | ⟨J', D', hst, hD'⟩
              · rw [hst] at hcl
                have HU' := Lib.hid hU'
                clear hst hU'
                go_wp2_with fail
                refine hcl.mono ?_
                rintro e w7 ⟨rfl, hj7, hk7⟩
                have HR67 := Lib.hid ((hk7.block g6 (.inl (HK3.out _ HK6.out))).trans HR66.out)
                have HR97 := Lib.hid ((hk7.block g9 (.inl HK39.out)).trans HR96.out)
                have HR87 := Lib.hid ((hk7.block g8 (.inl HK38.out)).trans HR86.out)
                have HBE7 := Lib.hid (HBE6.out.trans (hk7.mono fun b hb => .inl (HK3.out _ (HKW.out b hb))).below)
                have HJ7 := Lib.hid hj7
                clear hcl hj7 hk7
                go_upto_region 25 with (first | (refine wpList_load_row rfl 79 _ rfl g9 rfl _ _ _ _ HR97.out Try.underlying79 rfl Hsz'.out ?_) | (refine wpList_store_row rfl 79 _ _ rfl g6 _ rfl rfl _ _ HR67.out Hsz'.out HzS.out Hone'.out ?_))
                obtain ⟨hj8, hr68, ho8⟩ := HJ7.out.set8 (.inl (HK3.out _ HK6.out)) HR67.out (row8 S')
                have HBE8 := Lib.hid (below_setRow HBE7.out HG6.out (row8 S'))
                generalize w7.setRow g6 (row8 S') = w8 at *
                have HR98 := Lib.hid ((ho8 g9 (fun e => HG69.out e.symm)).trans HR97.out)
                have HR88 := Lib.hid ((ho8 g8 (by have := HR87.out; have := HG68.out; omega)).trans HR87.out)
                have HR68 := Lib.hid hr68
                have HJ8 := Lib.hid hj8
                clear hj8 hr68 ho8
                go_wp2_with fail
                go_meet
                case rel => exact ⟨J', D', S', S', HJ8.out.mono fun b hb => .inl hb, HR68.out, HR98.out, HR88.out, HBE8.out, hlS', hlS', .inl HU'.out⟩
              · rw [hst] at hcl
                have HD' := Lib.hid hD'
                clear hst hD'
                go_wp2_with fail
                refine hcl.mono ?_
                rintro e w7 ⟨rfl, hj7, hk7⟩
                have HR67 := Lib.hid ((hk7.block g6 (.inl (HK3.out _ HK6.out))).trans HR66.out)
                have HR97 := Lib.hid ((hk7.block g9 (.inl HK39.out)).trans HR96.out)
                have HR87 := Lib.hid ((hk7.block g8 (.inl HK38.out)).trans HR86.out)
                have HBE7 := Lib.hid (HBE6.out.trans (hk7.mono fun b hb => .inl (HK3.out _ (HKW.out b hb))).below)
                have HJ7 := Lib.hid hj7
                clear hcl hj7 hk7
                go_wp2_with fail
                go_meet
                case rel => exact ⟨J', D', S, S', HJ7.out.mono fun b hb => .inl hb, HR67.out, HR97.out, HR87.out, HBE7.out, HU.out.len, hlS', .inr HD'.out⟩
          · subst h
            rcases HU.out.checkpoint with ⟨J', D', hst, hU'⟩ | ⟨J', D', hst, hD'⟩
            · have hcl := checkpointed_any HJ3.out (by have := HU.out.loose; omega)
              rw [hst] at hcl
              have HU' := Lib.hid hU'
              clear hst hU'
              go_wp2_with fail
              refine hcl.mono ?_
              rintro e w7 ⟨rfl, hj7, hk7⟩
              have HR67 := Lib.hid ((hk7.block g6 (HK3.out _ HK6.out)).trans HR6.out)
              have HR97 := Lib.hid ((hk7.block g9 HK39.out).trans HR9.out)
              have HR87 := Lib.hid ((hk7.block g8 HK38.out).trans HR8.out)
              have HBE7 := Lib.hid (HB3.out.trans (hk7.mono fun b hb => HK3.out _ (HKW.out b hb)).below)
              have HJ7 := Lib.hid hj7
              clear hcl hj7 hk7
              go_wp2_with fail
              go_meet
              case rel => exact ⟨J', D', S, S, HJ7.out, HR67.out, HR97.out, HR87.out, HBE7.out, HU.out.len, HU.out.len, .inl (HU'.out.mono (by omega))⟩
            · have hcl := checkpointed_any HJ3.out (by have := HU.out.loose; omega)
              rw [hst] at hcl
              have HD' := Lib.hid hD'
              clear hst hD'
              go_wp2_with fail
              refine hcl.mono ?_
              rintro e w7 ⟨rfl, hj7, hk7⟩
              have HR67 := Lib.hid ((hk7.block g6 (HK3.out _ HK6.out)).trans HR6.out)
              have HR97 := Lib.hid ((hk7.block g9 HK39.out).trans HR9.out)
              have HR87 := Lib.hid ((hk7.block g8 HK38.out).trans HR8.out)
              have HBE7 := Lib.hid (HB3.out.trans (hk7.mono fun b hb => HK3.out _ (HKW.out b hb)).below)
              have HJ7 := Lib.hid hj7
              clear hcl hj7 hk7
              go_wp2_with fail
              go_meet
              case rel => exact ⟨J', D', S, S, HJ7.out, HR67.out, HR97.out, HR87.out, HBE7.out, HU.out.len, HU.out.len, .inr (HD'.out.mono (by omega))⟩
          · subst h
            obtain ⟨D', hst, hD'⟩ := HU.out.crash x.keep
            have hcl := HJ3.out.onDisk fun K' hK' hd => crash_any hd y.ak y.ck x.keep HAT.out.keep fun ad e hne => hK' _ (HK3.out _ (hkeepK.out ad e hne))
            rw [hst] at hcl
            have HD' := Lib.hid hD'
            clear hst hD'
            go_wp2_with fail
            refine hcl.mono ?_
            rintro e w7 ⟨rfl, hj7, hk7⟩
            have HR67 := Lib.hid ((hk7.block g6 (HK3.out _ HK6.out)).trans HR6.out)
            have HR97 := Lib.hid ((hk7.block g9 HK39.out).trans HR9.out)
            have HR87 := Lib.hid ((hk7.block g8 HK38.out).trans HR8.out)
            have HBE7 := Lib.hid (HB3.out.trans (hk7.mono fun b hb => HK3.out _ (HKW.out b hb)).below)
            have HJ7 := Lib.hid hj7
            clear hcl hj7 hk7
            go_wp2_with fail
            go_meet
            case rel => exact ⟨J, D', S, S, HJ7.out, HR67.out, HR97.out, HR87.out, HBE7.out, HU.out.len, HU.out.len, .inr (HD'.out.mono (by omega))⟩
          · subst h
            have hp := Int.emod_nonneg x.pos (show (32 : Int) ≠ 0 by decide)
            have hp2 := Int.emod_lt_of_pos x.pos (show (0 : Int) < 32 by decide)
            obtain ⟨D', hst, hU'⟩ := HU.out.fail (x.pos % 32) hp (by omega) x.keep HSMX.out.2.2.1
            have hcl := HJ3.out.onDisk fun K' hK' hd => fail_any hd (x.pos % 32) (by omega) y.ak y.ck x.keep (by have := HSMX.out.2.2.1; omega) HAT.out.keep
            rw [hst, ← i64_and31] at hcl
            have HU' := Lib.hid hU'
            clear hst hU' hp hp2
            go_wp2_with fail
            refine hcl.mono ?_
            rintro e w7 ⟨rfl, hj7, hk7⟩
            have HR67 := Lib.hid ((hk7.block g6 (HK3.out _ HK6.out)).trans HR6.out)
            have HR97 := Lib.hid ((hk7.block g9 HK39.out).trans HR9.out)
            have HR87 := Lib.hid ((hk7.block g8 HK38.out).trans HR8.out)
            have HBE7 := Lib.hid (HB3.out.trans (hk7.mono fun b hb => HK3.out _ (HKW.out b hb)).below)
            have HJ7 := Lib.hid hj7
            clear hcl hj7 hk7
            go_wp2_with fail
            go_meet
            case rel => exact ⟨J, D', S, S, HJ7.out, HR67.out, HR97.out, HR87.out, HBE7.out, HU.out.len, HU.out.len, .inl (HU'.out.mono (by omega))⟩
          · have n7 : ((m : Int) == 7) = false := by simp; omega
            have n8 : ((m : Int) == 8) = false := by simp; omega
            have n10 : ((m : Int) == 10) = false := by simp; omega
            have n0 : ((m : Int) == 0) = false := by simp; omega
            have n1 : ((m : Int) == 1) = false := by simp; omega
            have n2 : ((m : Int) == 2) = false := by simp; omega
            have n3 : ((m : Int) == 3) = false := by simp; omega
            have n4 : ((m : Int) == 4) = false := by simp; omega
            have n5 : ((m : Int) == 5) = false := by simp; omega
            have n6 : ((m : Int) == 6) = false := by simp; omega
            go_wp2_with fail
            go_meet
            case rel => exact ⟨J, D, S, S, HJ3.out, HR6.out, HR9.out, HR8.out, HB3.out, HU.out.len, HU.out.len, .inl (HU.out.mono (by omega))⟩
        case rest =>
          clear HR6 HR9 HR8 HJ3 HU
          clear J D S
          obtain ⟨J, D, S, S', hj, h6, h9, h8, hbe, hlS, hlS', hph⟩ := hcut
          have HWC := Lib.hid hbe
          have HJC := Lib.hid hj
          have HPH := Lib.hid hph
          have H6C := Lib.hid h6
          have H9C := Lib.hid h9
          have H8C := Lib.hid h8
          have HLS := Lib.hid hlS
          have HLS' := Lib.hid hlS'
          clear hj h6 h9 h8 hbe hlS hlS' hph
          go_wp2
          go_loopw [4, 12] (fun v t wr => ∃ (tn jz : Nat) (J : Jn) (D : Dk) (S : List UInt8), tn ≤ 4 ∧ t = .int .i64 tn ∧ v = .pointer (some ⟨jz, 0, none⟩) ∧ wr.heap[g6]? = some (.cells (row8 S) 79 (0, 0)) ∧ wr.heap[g9]? = some (.cells (row8 S') 79 (0, 0)) ∧
            wr.heap[g8]? = some (.cells #[.int .u8 x.kind.toNat, .int .u8 x.c.toNat, .slice y.an x.n.length y.cn, .int .i64 x.pos, .slice y.ar x.raw.length y.cr, .slice y.ak x.keep.length y.ck] 55 (0, 0)) ∧
            Below w.heap.size w wr ∧ S.length = 8 ∧ ((WUp J D S (2 + 100 * k + 1 + 10 * tn) ∧ JUp wr K3 jz p J D) ∨ (WDn D S S' (2 + 100 * k + 1 + 10 * tn) ∧ tn ≤ 3 ∧ DiskAt wr K3 p D))) (fun _ t _ => 20 - (intOf t).toNat)
          case atStart => exact ⟨0, jq, J, D, S, by omega, rfl, rfl, H6C.out, H9C.out, H8C.out, HWC.out, HLS.out, HPH.out.imp (fun h => ⟨h, HJC.out⟩) (fun h => ⟨h, by omega, HJC.out.at.disk⟩)⟩
          case round =>
            clear HJC H6C H9C H8C HWC HLS HPH
            clear J D S
            obtain ⟨tn, jz, J, D, S, htn, rfl, rfl, h6, h9, h8, hbe, hlS, hph⟩ := hrel
            have hd20 : decide ((tn : Int) < 20) = true := by simp; omega
            have hlS' := HLS'.out
            have Hsz := Lib.hid (size8 S hlS)
            have Hone := Lib.hid (row8_one S)
            have HzT := Lib.hid (show T0.size = (row8 S).size by rw [hz0, row8_size, hlS])
            have Hsz' := Lib.hid (size8 S' hlS')
            have Hone' := Lib.hid (row8_one S')
            have HzT' := Lib.hid (show T0.size = (row8 S').size by rw [hz0, row8_size, hlS'])
            have HzS := Lib.hid (show (row8 S).size = (row8 S').size by rw [row8_size, row8_size, hlS, hlS'])
            have H6 := Lib.hid h6
            have H9 := Lib.hid h9
            have H8 := Lib.hid h8
            have HBE := Lib.hid hbe
            clear h6 h9 h8 hbe
            rcases hph with ⟨hU, hj⟩ | ⟨hD, ht3, hd⟩
            · have hupc := up_any hj.at.disk
              rw [hU.up] at hupc
              have hse := seen_any hj.at
              rw [hU.seen] at hse
              have HU := Lib.hid hU
              have HJ := Lib.hid hj
              have hdec : decide (S = S) = true := by simp
              clear hU hj
              go_wp2_with fail
              refine hupc.mono ?_
              rintro e w4 ⟨rfl, rfl⟩
              clear hupc
              go_wp2_with fail
              refine hse.mono ?_
              rintro e w5 ⟨rfl, hb5⟩
              clear hse
              have hz := HZ.out
              go_upto_region 47 with (refine wpList_store_row rfl 79 _ _ rfl w5.heap.size _ rfl rfl _ _ (heap_alloc_last w5 _) Hsz.out HzT.out Hone.out ?_)
              have hp6 := put8 w5 T0 (row8 S) 79
              generalize (w5.alloc (.cells T0 79)).setRow w5.heap.size (row8 S) = w6 at *
              have hb6 := hb5.trans (hp6.2.1.mono hb5.size)
              have HR17 := Lib.hid hp6.1
              have HR66 := Lib.hid ((hb6.block g6 (Array.getElem?_eq_some_iff.1 H6.out).1).trans H6.out)
              have hj6 := HJ.out.below hb6
              have HB6 := Lib.hid (HBE.out.trans (hb6.mono HBE.out.size))
              have hupc := up_any hj6.at.disk
              rw [HU.out.up] at hupc
              have HJ6 := Lib.hid hj6
              clear hp6 hb5 hb6 hj6 hz HJ
              go_wp2_with fail
              refine hupc.mono ?_
              rintro e w7 ⟨rfl, rfl⟩
              clear hupc
              go_wp2_with (first | (refine wpList_load_row_g rfl 79 _ rfl w5.heap.size rfl _ _ _ _ HR17.out Try.underlying79 rfl Hsz.out ?_) | (refine wpList_load_row_g rfl 79 _ rfl g6 rfl _ _ _ _ HR66.out Try.underlying79 rfl Hsz.out ?_))
              go_roundw
              case rel => exact ⟨k + 1, jz, J, D, S, by omega, by go_num, rfl, HJ6.out.mono fun b hb => HK3.out b hb, HR66.out, HU.out.mono (by omega), HB6.out⟩
              case measure => simp [intOf]; omega
            · have hupc := up_any hd
              rw [hD.down] at hupc
              obtain ⟨D1, hst, hS1, hf1⟩ := hD.start (by omega)
              have hsta := start_any hd (by have := hD.starts; omega)
              rw [hst] at hsta
              have HS1 := Lib.hid hS1
              have HF1 := Lib.hid hf1
              clear hD hd hst hS1 hf1
              go_wp2_with fail
              refine hupc.mono ?_
              rintro e w4 ⟨rfl, rfl⟩
              clear hupc
              go_wp2_with fail
              refine hsta.mono ?_
              rintro e w5 ⟨rfl, hd5, hk5⟩
              clear hsta
              have HR65 := Lib.hid ((hk5.block g6 (HK3.out _ HK6.out)).trans H6.out)
              have HR95 := Lib.hid ((hk5.block g9 HK39.out).trans H9.out)
              have HR85 := Lib.hid ((hk5.block g8 HK38.out).trans H8.out)
              have HB5 := Lib.hid (HBE.out.trans (hk5.mono fun b hb => HK3.out _ (HKW.out b hb)).below)
              have HD5 := Lib.hid hd5
              clear hd5 hk5
              go_upto_if 100 with fail
              go_cut [] (fun wx => ∃ D2 : Dk, DiskAt wx K3 p D2 ∧ WSt D2 S S' (2 + 100 * k + 1 + 10 * tn + 1) ∧ (D2.fails = true → tn < 3) ∧ wx.heap[g6]? = some (.cells (row8 S) 79 (0, 0)) ∧ wx.heap[g9]? = some (.cells (row8 S') 79 (0, 0)) ∧
                wx.heap[g8]? = some (.cells #[.int .u8 x.kind.toNat, .int .u8 x.c.toNat, .slice y.an x.n.length y.cn, .int .i64 x.pos, .slice y.ar x.raw.length y.cr, .slice y.ak x.keep.length y.ck] 55 (0, 0)) ∧ Below w.heap.size w wx)
              case first =>
                obtain ⟨-, -, -, e3, -, e5⟩ := (cells6 HR85.out).1
                by_cases h3 : tn < 3
                · have hd3 : decide ((tn : Int) < 3) = true := by simp; omega
                  have hfl := Lib.hid (fun q : Int => fail_any HD5.out (q % 8) (by have := Int.emod_nonneg q (show (8 : Int) ≠ 0 by decide); have := Int.emod_lt_of_pos q (show (0 : Int) < 8 by decide); omega) y.ak y.ck x.keep (by have := HSMX.out.2.2.1; omega) (HAT.out.keep.block2 fun ad e hne => (HB5.out.block _ (HKLT.out ad e hne)).trans (HB3.out.block _ (HKLT.out ad e hne)).symm))
                  simp only [← i64_and7] at hfl
                  go_wp2_with fail
                  refine (hfl.out _).mono ?_
                  obtain ⟨q, hq⟩ : ∃ q, wrap64 (x.pos + (tn : Int)) = q := ⟨_, rfl⟩
                  rw [hq, i64_and7]
                  have hq0 := Int.emod_nonneg q (show (8 : Int) ≠ 0 by decide)
                  have hq1 := Int.emod_lt_of_pos q (show (0 : Int) < 8 by decide)
                  obtain ⟨D2, ef, hS2⟩ := HS1.out.fail (q % 8) hq0 (by omega) x.keep HSMX.out.2.2.1
                  rw [ef]
                  rintro e w6 ⟨rfl, hd6, hk6⟩
                  have HR66 := Lib.hid ((hk6.block g6 (HK3.out _ HK6.out)).trans HR65.out)
                  have HR96 := Lib.hid ((hk6.block g9 HK39.out).trans HR95.out)
                  have HR86 := Lib.hid ((hk6.block g8 HK38.out).trans HR85.out)
                  have HB6 := Lib.hid (HB5.out.trans (hk6.mono fun b hb => HK3.out _ (HKW.out b hb)).below)
                  have HD6 := Lib.hid hd6
                  have HS2 := Lib.hid hS2
                  clear hd6 hk6 hq hq0 hq1 hS2 ef hfl
                  go_wp2_with fail
                  go_meet
                  case rel => exact ⟨D2, HD6.out, HS2.out, (fun _ => h3), HR66.out, HR96.out, HR86.out, HB6.out⟩
                · have hd3 : decide ((tn : Int) < 3) = false := by simp; omega
                  go_wp2_with fail
                  go_meet
                  case rel => exact ⟨D1, HD5.out, HS1.out, (fun h => by rw [HF1.out] at h; cases h), HR65.out, HR95.out, HR85.out, HB5.out⟩
              case rest =>
                clear HR65 HR95 HR85 HB5 HD5 HS1 HF1
                clear D1
                obtain ⟨D2, hd, hS, h3, h6, h9, h8, hbe⟩ := hcut
                have hop := open_any hd (by rw [hS.loose]; decide) (hS.small (by omega))
                rcases hS.open (by omega) with ⟨J3, D3, ho, hU3⟩ | ⟨hff, D3, ho, hD3⟩
                · rw [ho] at hop
                  have H6 := Lib.hid h6
                  have H9 := Lib.hid h9
                  have H8 := Lib.hid h8
                  have HBE := Lib.hid hbe
                  have HU3 := Lib.hid hU3
                  clear hd hS h3 h6 h9 h8 hbe ho hU3
                  go_wp2_with fail
                  refine hop.mono ?_
                  rintro e w6 ⟨⟨jp2, rfl, hj6, -⟩, hk6⟩
                  have HR66 := Lib.hid ((hk6.block g6 (HK3.out _ HK6.out)).trans H6.out)
                  have HR96 := Lib.hid ((hk6.block g9 HK39.out).trans H9.out)
                  have HR86 := Lib.hid ((hk6.block g8 HK38.out).trans H8.out)
                  have HB6 := Lib.hid (HBE.out.trans (hk6.mono fun b hb => HK3.out _ (HKW.out b hb)).below)
                  have hse := seen_any hj6.at
                  have HJ6 := Lib.hid hj6
                  clear hop hj6 hk6
                  obtain ⟨S2, hS2, hU2⟩ : ∃ S2, (S2 = S ∨ S2 = S') ∧ WUp J3 D3 S2 (2 + 100 * k + 1 + 10 * tn + 1 + 1) := by
                    rcases HU3.out with h | h
                    · exact ⟨S, .inl rfl, h⟩
                    · exact ⟨S', .inr rfl, h⟩
                  rw [hU2.seen] at hse
                  have hl2 := hU2.len
                  have HU2 := Lib.hid hU2
                  have HS2 := Lib.hid hS2
                  have Hsz2 := Lib.hid (size8 S2 hl2)
                  have Hone2 := Lib.hid (row8_one S2)
                  have HzT2 := Lib.hid (show T0.size = (row8 S2).size by rw [hz0, row8_size, hl2])
                  have HzS2 := Lib.hid (show (row8 S).size = (row8 S2).size by rw [row8_size, row8_size, hlS, hl2])
                  clear hU2 hS2 HU3
                  go_wp2_with fail
                  refine hse.mono ?_
                  rintro e w7 ⟨rfl, hb7⟩
                  clear hse
                  have hz := HZ.out
                  go_upto_region 43 with (refine wpList_store_row rfl 79 _ _ rfl w7.heap.size _ rfl rfl _ _ (heap_alloc_last w7 _) Hsz2.out HzT2.out Hone2.out ?_)
                  have hp8 := put8 w7 T0 (row8 S2) 79
                  generalize (w7.alloc (.cells T0 79)).setRow w7.heap.size (row8 S2) = w8 at *
                  have hb8 := hb7.trans (hp8.2.1.mono hb7.size)
                  have HR15 := Lib.hid hp8.1
                  have HR68 := Lib.hid ((hb8.block g6 (Array.getElem?_eq_some_iff.1 HR66.out).1).trans HR66.out)
                  have HR98 := Lib.hid ((hb8.block g9 (Array.getElem?_eq_some_iff.1 HR96.out).1).trans HR96.out)
                  have HR88 := Lib.hid ((hb8.block g8 (Array.getElem?_eq_some_iff.1 HR86.out).1).trans HR86.out)
                  have HJ8 := Lib.hid (HJ6.out.fresh hb8)
                  have HB8 := Lib.hid (HB6.out.trans (hb8.mono HB6.out.size))
                  have HG15 := Lib.hid (show g6 < w7.heap.size by have := (Array.getElem?_eq_some_iff.1 HR66.out).1; have := hb7.size; omega)
                  clear hp8 hb7 hb8 hz HJ6 HR66 HR96 HR86
                  go_cut [137] (fun t137 wx => t137 = .bool false ∧ wx = w8)
                  case first =>
                    have hq2 : decide (S2 = S2) = true := by simp
                    by_cases hq : S2 = S
                    · have hq1 : decide (S2 = S) = true := by simpa using hq
                      go_wp2_with (first | (refine wpList_load_row_g rfl 79 _ rfl w7.heap.size rfl _ _ _ _ HR15.out Try.underlying79 rfl Hsz2.out ?_) | (refine wpList_load_row_g rfl 79 _ rfl g6 rfl _ _ _ _ HR68.out Try.underlying79 rfl Hsz.out ?_) | (refine wpList_load_row_g rfl 79 _ rfl g9 rfl _ _ _ _ HR98.out Try.underlying79 rfl Hsz'.out ?_))
                      go_meet
                      case rel => exact ⟨rfl, rfl⟩
                    · have hq1 : decide (S2 = S) = false := by simpa using hq
                      have hq3 : decide (S2 = S') = true := by simpa using HS2.out.resolve_left hq
                      go_wp2_with (first | (refine wpList_load_row_g rfl 79 _ rfl w7.heap.size rfl _ _ _ _ HR15.out Try.underlying79 rfl Hsz2.out ?_) | (refine wpList_load_row_g rfl 79 _ rfl g6 rfl _ _ _ _ HR68.out Try.underlying79 rfl Hsz.out ?_) | (refine wpList_load_row_g rfl 79 _ rfl g9 rfl _ _ _ _ HR98.out Try.underlying79 rfl Hsz'.out ?_))
                      go_meet
                      case rel => exact ⟨rfl, rfl⟩
                  case rest =>
                    obtain ⟨rfl, rfl⟩ := hcut
                    go_wp2
                    refine wp_region_rr 3 (fun w' => Below wc.heap.size wc w') (by kernel_rfl) (by kernel_rfl) (Below.refl _ _).drew ?_
                    iterate 3
                      (apply RR_run
                       focus rfl
                       focus
                         intro w9 hS
                         have HR15' := Lib.hid ((hS.block w7.heap.size (Array.getElem?_eq_some_iff.1 HR15.out).1).trans HR15.out)
                         go_wp2_with (refine wpList_load_row rfl 79 _ rfl w7.heap.size rfl _ _ _ _ HR15'.out Try.underlying79 rfl Hsz2.out ?_)
                         exact ⟨rfl, hS⟩
                       focus exact ⟨_, rfl⟩)
                    refine RR_end fun w9 hS => ?_
                    have HR69 := Lib.hid ((hS.block g6 (Array.getElem?_eq_some_iff.1 HR68.out).1).trans HR68.out)
                    have HR99 := Lib.hid ((hS.block g9 (Array.getElem?_eq_some_iff.1 HR98.out).1).trans HR98.out)
                    have HR89 := Lib.hid ((hS.block g8 (Array.getElem?_eq_some_iff.1 HR88.out).1).trans HR88.out)
                    have HJ9 := Lib.hid (HJ8.out.below hS)
                    have HB9 := Lib.hid (HB8.out.trans (hS.mono HB8.out.size))
                    clear hS
                    go_upto_region 35 with (refine wpList_store_row rfl 79 _ _ rfl g6 _ rfl rfl _ _ HR69.out Hsz2.out HzS2.out Hone2.out ?_)
                    obtain ⟨hj10, hr610, ho10⟩ := HJ9.out.set8 (.inl (HK3.out _ HK6.out)) HR69.out (row8 S2)
                    have HB10 := Lib.hid (below_setRow HB9.out HG6.out (row8 S2))
                    generalize w9.setRow g6 (row8 S2) = w10 at *
                    have HR910 := Lib.hid ((ho10 g9 (fun e => HG69.out e.symm)).trans HR99.out)
                    have HR810 := Lib.hid ((ho10 g8 (by have := HG68.out; omega)).trans HR89.out)
                    have HR610 := Lib.hid hr610
                    have HJ10 := Lib.hid (hj10.mono fun b hb => .inl hb)
                    clear hj10 hr610 ho10
                    go_wp2
                    go_roundw
                    case rel => exact ⟨tn + 1, jp2, J3, D3, S2, by omega, by go_num, rfl, HR610.out, HR910.out, HR810.out, HB10.out, hl2, .inl ⟨HU2.out.mono (by omega), HJ10.out⟩⟩
                    case measure => simp [intOf]; omega
                · rw [ho] at hop
                  have HD3 := Lib.hid hD3
                  have HT3 := Lib.hid (h3 hff)
                  have H6 := Lib.hid h6
                  have H9 := Lib.hid h9
                  have H8 := Lib.hid h8
                  have HBE := Lib.hid hbe
                  clear hd hS h3 h6 h9 h8 hbe ho hff hD3
                  go_wp2_with fail
                  refine hop.mono ?_
                  rintro e w6 ⟨⟨rfl, hd6⟩, hk6⟩
                  have HR66 := Lib.hid ((hk6.block g6 (HK3.out _ HK6.out)).trans H6.out)
                  have HR96 := Lib.hid ((hk6.block g9 HK39.out).trans H9.out)
                  have HR86 := Lib.hid ((hk6.block g8 HK38.out).trans H8.out)
                  have HB6 := Lib.hid (HBE.out.trans (hk6.mono fun b hb => HK3.out _ (HKW.out b hb)).below)
                  have HD6 := Lib.hid hd6
                  clear hop hd6 hk6
                  go_wp2
                  go_roundw
                  case rel => exact ⟨tn + 1, jz, J, D3, S, by omega, by go_num, rfl, HR66.out, HR96.out, HR86.out, HB6.out, hlS, .inr ⟨HD3.out.mono (by omega), by have := HT3.out; omega, HD6.out⟩⟩
                  case measure => simp [intOf]; omega
      · obtain rfl : k = l.length := by omega
        go_wp2_with fail
        refine (HLG.out _).mono ?_
        rintro e w20 ⟨rfl, hb20⟩
        have HB := Lib.hid (hb.trans (hb20.mono hb.size))
        clear hb20 hb
        go_wp2
        go_ret
        exact ⟨rfl, HB.out⟩
end Go.Proofs.Ytffgjjhopopgcaa
