/- The law FnExactOwnerOf returns true at every input, and leaves its arguments as they were. Conditions: none beyond the row. -/
import Derived.Test.YtkelhmgdajiocaaGreatDoorLOwnerOf
import Derived.Test.YtkelhmgdajiocaaGreatDoorGA
import Derived.Test.YtkelhmgdajiocaaGreatDoorCards
import Derived.Test.YtkelhmgdajiocaaGreatDoorTie
import Derived.SevenTiedAt
import Derived.Test.YtkelhmgdajiocaaGreatDoorJOwnerOf
namespace Go.Proofs.YtkelhmgdajiocaaGreatDoor.fnExactOwnerOf
set_option linter.unusedVariables false
set_option linter.unusedSimpArgs false
open Go.ChangeShapes Go.WideShapes Go.ChangeAt Go.RowKit
open Go.ChangeMaps (open_string)

theorem own : ownKnob Tryz.prog.godebug = none := by kernel_rfl
theorem laidOut : laidOutB Tryz.prog = true := by kernel_rfl
theorem readable : ∀ t ∈ Tryz.f4.params.toList, Tryz.prog.readableRec t = true ∧ t < Tryz.prog.types.size := by
  rw [Tryz.params4]
  intro t ht
  simp only [List.mem_cons, List.not_mem_nil, or_false] at ht
  rcases ht with rfl | rfl | rfl <;> exact ⟨by kernel_rfl, of_decide_eq_true (by kernel_rfl)⟩

set_option maxRecDepth 100000 in
theorem lifted (os : Os) (started : os.Started) (H : Type) (enc : TypeId × Value → H) :
    ReturnsInHanded {} Tryz.checked os 4 .any (fun w args => (Rows.fnExactOwnerOfSpec.pre enc Tryz.prog Tryz.f4 Rows.fnExactOwnerOfRow.domain false w args ∧ laidMetH Tryz.prog Rows.fnExactOwnerOfRow.laid w) ∧ sizedMet enc Tryz.prog Tryz.f4 (OpenSpec.ofChange Rows.fnExactOwnerOfSpec) false w args) (Rows.fnExactOwnerOfSpec.post enc Tryz.prog Tryz.f4 false true false false) := by
  refine returnsInHanded_of_laid (C := Tryz.checked) own started (by kernel_rfl) Tryz.func4
    (ChangeSpec.witness_shaped (enc := enc) (C := Tryz.checked) (os := os) (X := fun w _ => laidMetH Tryz.prog Rows.fnExactOwnerOfRow.laid w) false (World.laidAll Tryz.prog os Rows.fnExactOwnerOfRow.laid) #[.slice none 0 0, .agg #[.int .i64 0, .bool false, .bool false, .bool false, .bool false], .int .i64 0] 8 (World.laidAll_os _ _ _)
      (World.shaped_of_ZipB (by kernel_rfl) (by kernel_rfl)) (by kernel_rfl) (by kernel_rfl) (by kernel_rfl)
      (by rw [MakeChecks.laidMetH_plain _ _ _ (by kernel_rfl)]; exact laidMet_laidAll _ (by kernel_rfl) (by kernel_rfl))) ?_
  intro W base args ds gs before hval0 hW hL hsh
  have hval : ∀ (j : Nat) t v, Tryz.f4.params[j]? = some t → args[j]? = some v → Value.okWide Tryz.prog W .any base t v := hval0
  have hW' := hW
  obtain ⟨p, q, hA0, hV, rfl, hfz, hnd⟩ := hW
  have hA : DataW.TrodAll enc Tryz.prog W 0 (fun _ => true) true Tryz.f4.params.toList args.toList ds p := hA0
  have hA1 := hA
  obtain ⟨g0, g1, g2, rfl⟩ := list3 (trodVars_len hV)
  rw [Tryz.params4] at hA hval
  obtain ⟨v0, vs0, d0, ds0, p0, q0, hargs, rfl, rfl, h0, r0⟩ := trodAll_cons hA
  obtain ⟨v1, vs1, d1, ds1, p1, q1, rfl, rfl, rfl, h1, r1⟩ := trodAll_cons r0
  obtain ⟨v2, vs2, d2, ds2, p2, q2, rfl, rfl, rfl, h2, r2⟩ := trodAll_cons r1
  obtain ⟨rfl, rfl, rfl⟩ := trodAll_nil r2
  obtain rfl : args = #[v0, v1, v2] := by cases args; simp_all
  obtain ⟨l0, s0, w0⟩ := open_Nodes (okWide_slice Tryz.underlying22 (hval 0 22 v0 rfl rfl)) h0
  obtain ⟨a1, rfl, w1⟩ := open_Pos (hval 1 34 v1 rfl rfl) h1
  obtain ⟨a2, rfl, _, _, w2⟩ := open_int Tryz.underlying3 (hval 2 3 v2 rfl rfl) h2
  clear hA0 hval0
  simp only [List.append_nil] at hW' hA1
  refine (lawOwnerOf l0 v0 w0 s0 a1 w1 a2 (I64.of_wf w2) (wordEnv_of (r := []) (by rw [MakeChecks.laidMetH_plain _ _ _ (by kernel_rfl)] at hL; exact hL))).mono fun e W' ⟨he, hg⟩ => ?_
  subst he
  exact ⟨_, rfl, law_post_vars (ds := [d0, d1, d2]) hW' hA1 hV (by kernel_rfl) rfl rfl Tryz.underlying4 laidOut readable hg⟩

theorem closed : joinedFacts Tryz.prog 4 Tryz.f4 Rows.fnExactOwnerOfSpec Rows.fnExactOwnerOfRow = true := by
  unfold joinedFacts
  refine (and2 (and2 (and2 (and2 (and2 (and2 (and2 (and2 (and2 (and2 (and2 (and2 (and2 (and2 (and2 (and2 (and2 (and2 (and2 (and2 (and2 (and2 (and2 (and2 (and2 (and2 (and2 (and2 (and2 (and2 (and2 jf0 jf1) jf2) jf3) jf4) jf5) jf6) jf7) jf8) jf9) jf10) jf11) jf12) jf13) jf14) jf15) jf16) jf17) jf18) jf19) jf20) jf21) jf22) jf23) jf24) jf25) jf26) jf27) ?_) jf29) jf30) jf31)
  kernel_rfl
theorem over : Rows.fnExactOwnerOfRow.holds Tryz.pinned (OpenSpec.ofChange Rows.fnExactOwnerOfSpec) :=
  OpenClaim.holds_of_wide 4 Tryz.f4 rfl rfl rfl rfl rfl rfl rfl ⟨rfl, rfl, rfl, rfl, rfl⟩ rfl rfl rfl rfl rfl pf Tryz.func4 closed
    (of_decide_eq_true (by kernel_rfl)) (by unfold Func.isWrapper; first | (rw [if_pos (by decide +kernel)]; kernel_rfl) | (rw [if_neg (by decide +kernel)]; exact ⟨rfl, rfl⟩))
    (fun os started H enc _ => lifted os started H enc)
theorem looks : ∀ (f : FuncId) (fn : Func), Tryz.prog.funcNamed Rows.fnExactOwnerOfRow.func = some f → Tryz.prog.funcs[f]? = some fn → Rows.fnExactOwnerOfCard.stood.looks = Tryz.prog.looks [] ∧ ∀ (j : Nat) t, fn.params[j]? = some t → Tryz.prog.wantsStandIn t = false := by
  intro f fn hf hfn
  obtain rfl : f = 4 := (Option.some.inj (pf.symm.trans hf)).symm
  obtain rfl : fn = Tryz.f4 := (Option.some.inj (Tryz.func4.symm.trans hfn)).symm
  refine ⟨pl, fun j t ht => ?_⟩
  have hm : t ∈ Tryz.f4.params.toList := by simpa using Array.mem_of_getElem? ht
  simpa using List.all_eq_true.1 ps t hm

/-- The statement: the card. -/
theorem proved : Rows.FnExactOwnerOfCardSaid :=
  Claim7.holds_tied_plain_at .later [] Rows.fnExactOwnerOfCard.laidKinds true Rows.fnExactOwnerOfCard.stood.harness Rows.fnExactOwnerOfCard.stood.looks over (fun _ h => by cases h) pw (fun _ h => by cases h) fnExactOwnerOf_row_tie rfl ⟨rfl, rfl⟩ pm ph looks pg
#print axioms proved
end Go.Proofs.YtkelhmgdajiocaaGreatDoor.fnExactOwnerOf
