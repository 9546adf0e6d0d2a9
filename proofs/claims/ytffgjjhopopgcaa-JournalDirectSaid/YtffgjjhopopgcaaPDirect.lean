/-
  PROVED: for every two rows of bytes and every row of bools, JournalDirect returns true and does not panic, and its arguments read as they did. Conditions: none.
-/
import Derived.Test.YtffgjjhopopgcaaPAct
import Derived.Test.YtffgjjhopopgcaaWf
namespace Go.Proofs.Ytffgjjhopopgcaa
set_option linter.unusedVariables false
set_option linter.unusedSimpArgs false
open Go.ChangeShapes Go.WideShapes Go.ChangeAt Go.RowKit

theorem direct_law_all (la lb : List UInt8) (lk : List Bool) (aa ab ak : Option Addr) (ca cb ck : Nat) (w : World) (h1 : la.length ≤ maxLen) (h2 : lb.length ≤ maxLen) (h3 : lk.length ≤ maxLen) (ha : SlU w aa la) (hb : SlU w ab lb) (hk : SlO w ak lk) :
    Calls Try.prog 8 #[.slice aa la.length ca, .slice ab lb.length cb, .slice ak lk.length ck] w (Ret w (.bool true)) := by
  by_cases h : 15 < la.length ∨ 15 < lb.length ∨ 200 < lk.length
  · exact direct_great la lb lk aa ab ak ca cb ck w h1 h2 h3 h
  · exact direct_walk la lb lk aa ab ak ca cb ck w (by omega) (by omega) (by omega) ha hb hk fun ad e hne => hk.lt hne ad e

set_option maxRecDepth 100000 in
theorem journalDirect_lifted (os : Os) (started : os.Started) (H : Type) (enc : TypeId × Value → H) :
    ReturnsInHanded {} Try.checked os 8 .any (Rows.journalDirectSpec.pre6 enc Try.prog Try.f8 Rows.journalDirectRow.domain false) (Rows.journalDirectSpec.post enc Try.prog Try.f8 false true false false) := by
  refine returnsInHanded_of_change (C := Try.checked) Try.own started (by kernel_rfl) Try.func8
    (ChangeSpec.witness6 (enc := enc) (C := Try.checked) false ⟨#[], #[.slice none 0 0, .slice none 0 0, .slice none 0 0], []⟩ 8 (by kernel_rfl) (by kernel_rfl) (by kernel_rfl) (by kernel_rfl)) ?_
  intro W base args ds gs before hval0 hW hcnd _
  have hval : ∀ (j : Nat) t v, Try.f8.params[j]? = some t → args[j]? = some v → Value.okWide Try.prog W .any base t v := hval0
  have hW' := hW
  obtain ⟨p, q, hA0, hV, rfl, hfz, hnd⟩ := hW
  have hA : DataW.TrodAll enc Try.prog W 0 (fun _ => true) true Try.f8.params.toList args.toList ds p := hA0
  rw [Try.params8] at hA hval
  obtain ⟨v0, v1, v2, d0, d1, d2, p0, p1, p2, rfl, rfl, rfl, h0, h1, h2⟩ := trodAll_three hA
  obtain ⟨rfl, rfl⟩ := trodVars_none hV
  obtain ⟨la, aa, ca, rfl, wa, sa⟩ := open_bytes1 (hval 0 23 v0 rfl rfl) h0
  obtain ⟨lb, ab, cb, rfl, wb, sb⟩ := open_bytes1 (hval 1 23 v1 rfl rfl) h1
  obtain ⟨lk, ak, ck, rfl, wk, sk⟩ := open_flags1 (hval 2 48 v2 rfl rfl) h2
  clear hA0 hval0
  simp only [List.append_nil] at hW'
  have hlt0 : ∀ z ∈ p0, z.block < W.heap.size := fun z hz => by simpa using hW'.lt z (by simp [hz])
  have hlt1 : ∀ z ∈ p1, z.block < W.heap.size := fun z hz => by simpa using hW'.lt z (by simp [hz])
  have hlt2 : ∀ z ∈ p2, z.block < W.heap.size := fun z hz => by simpa using hW'.lt z (by simp [hz])
  refine (direct_law_all la lb lk aa ab ak ca cb ck W wa wb wk sa sb sk).mono fun e W' ⟨he, hb⟩ => ?_
  subst he
  exact ⟨_, rfl, ⟨_, _, _, [], _, [], hW', trodAll_mk1 (shut_bool Try.underlying4 true),
    trodAll_mk3 (Below.trod Try.laidOut (by kernel_rfl) (of_decide_eq_true (by kernel_rfl)) h0 hb hlt0) (Below.trod Try.laidOut (by kernel_rfl) (of_decide_eq_true (by kernel_rfl)) h1 hb hlt1) (Below.trod Try.laidOut (by kernel_rfl) (of_decide_eq_true (by kernel_rfl)) h2 hb hlt2), rfl, hb.frame _, fun h => by cases h⟩⟩

theorem journalDirect_holds : Rows.JournalDirectSaid :=
  OpenClaim.holds_of_wide 8 Try.f8 rfl rfl rfl rfl rfl rfl rfl ⟨rfl, rfl, rfl, rfl, rfl⟩ rfl rfl rfl rfl rfl (by kernel_rfl) Try.func8 (by kernel_rfl)
    (of_decide_eq_true (by kernel_rfl)) (by unfold Func.isWrapper; first | (rw [if_pos (by decide +kernel)]; kernel_rfl) | (rw [if_neg (by decide +kernel)]; exact ⟨rfl, rfl⟩))
    (fun os started H enc _ => journalDirect_lifted os started H enc)

end Go.Proofs.Ytffgjjhopopgcaa
