/- RenderTells: for every input the law is true, and its arguments read as before. No condition. -/
import Derived.Test.YtacccimihgailaaRows
import Derived.Test.YtacccimihgailaaMath41
import Derived.ProofKit
import Derived.SizedLaws
set_option linter.unusedVariables false
set_option maxRecDepth 1000000
namespace Go.Proofs.Ytacccimihgailaa
namespace Pm
namespace Tp
open Go.ChangeShapes Go.WideShapes Go.ChangeAt Go.RowKit
theorem own : ownKnob Try.prog.godebug = none := by kernel_rfl
theorem laidOut : laidOutB Try.prog = true := by kernel_rfl
set_option maxRecDepth 100000 in
theorem lifted (os : Os) (started : os.Started) (H : Type) (enc : TypeId × Value → H) :
    ReturnsInHanded {} Try.checked os 3 .any (Rows.renderTellsSpec.pre6 enc Try.prog Try.f3 Rows.renderTellsRow.domain false) (Rows.renderTellsSpec.post enc Try.prog Try.f3 false true false false) := by
  refine returnsInHanded_of_change_sized (C := Try.checked) own started (by kernel_rfl) Try.func3
    (ChangeSpec.witness6 (enc := enc) (C := Try.checked) false ⟨#[], #[.int .i64 0, .agg #[.bool false, .bool false, .bool false, .bool false, .bool false, .bool false, .int .i64 0], .int .i64 0, .agg #[.int .i64 0, .slice none 0 0, .int .i64 0, .int .i64 0, .int .i64 0, .int .i64 0, .int .i64 0], .bool false, .agg #[.int .i64 0, .bool false, .slice none 0 0], .agg #[.slice none 0 0, .slice none 0 0], .int .i64 0, .slice none 0 0], []⟩ 8 (by kernel_rfl) (by kernel_rfl) (by kernel_rfl) (by kernel_rfl)) ?_
  intro W base args ds gs before hval0 hW _ _ _
  have hval : ∀ (j : Nat) t v, Try.f3.params[j]? = some t → args[j]? = some v → Value.okWide Try.prog W .any base t v := hval0
  have hW' := hW
  obtain ⟨p, q, hA0, hV, rfl, hfz, hnd⟩ := hW
  have hA : DataW.TrodAll enc Try.prog W 0 (fun _ => true) true Try.f3.params.toList args.toList ds p := hA0
  rw [Try.params3] at hA hval
  obtain ⟨v0, vs0, d0, ds0, p0, q0, hargs, rfl, rfl, h0, r0⟩ := trodAll_cons hA
  obtain ⟨v1, vs1, d1, ds1, p1, q1, rfl, rfl, rfl, h1, r1⟩ := trodAll_cons r0
  obtain ⟨v2, vs2, d2, ds2, p2, q2, rfl, rfl, rfl, h2, r2⟩ := trodAll_cons r1
  obtain ⟨v3, vs3, d3, ds3, p3, q3, rfl, rfl, rfl, h3, r3⟩ := trodAll_cons r2
  obtain ⟨v4, vs4, d4, ds4, p4, q4, rfl, rfl, rfl, h4, r4⟩ := trodAll_cons r3
  obtain ⟨v5, vs5, d5, ds5, p5, q5, rfl, rfl, rfl, h5, r5⟩ := trodAll_cons r4
  obtain ⟨v6, vs6, d6, ds6, p6, q6, rfl, rfl, rfl, h6, r6⟩ := trodAll_cons r5
  obtain ⟨v7, vs7, d7, ds7, p7, q7, rfl, rfl, rfl, h7, r7⟩ := trodAll_cons r6
  obtain ⟨v8, vs8, d8, ds8, p8, q8, rfl, rfl, rfl, h8, r8⟩ := trodAll_cons r7
  obtain ⟨rfl, rfl, rfl⟩ := trodAll_nil r8
  obtain rfl : args = #[v0, v1, v2, v3, v4, v5, v6, v7, v8] := by cases args; simp_all
  obtain ⟨rfl, rfl⟩ := trodVars_none hV
  obtain ⟨w0_0, rfl⟩ := okWide_int uT22 (hval 0 22 v0 rfl rfl)
  obtain ⟨x0, y0, z0⟩ := opn_arg1 (opn_i64 uT22) (fun _ => rfl) rfl h0
  obtain ⟨cs1, rfl⟩ := okWide_any_agg (tys := [(23, 0), (3, 6)]) (by kernel_rfl) (hval 1 25 v1 rfl rfl)
  obtain ⟨x1, y1, z1⟩ := opn_argA opn_api_Verdict (fun _ => rfl) h1
  obtain ⟨w2_0, rfl⟩ := okWide_int uT3 (hval 2 3 v2 rfl rfl)
  obtain ⟨x2, y2, z2⟩ := opn_arg1 (opn_i64 uT3) (fun _ => rfl) rfl h2
  obtain ⟨cs3, rfl⟩ := okWide_any_agg (tys := [(3, 0), (26, 1), (30, 2)]) (by kernel_rfl) (hval 3 32 v3 rfl rfl)
  obtain ⟨x3, y3, z3⟩ := opn_argA opn_api_Witness (fun _ => rfl) h3
  obtain ⟨w4_0, rfl⟩ := okWide_bool uT4 (hval 4 4 v4 rfl rfl)
  obtain ⟨x4, y4, z4⟩ := opn_arg1 (opn_bool uT4) (fun _ => rfl) rfl h4
  obtain ⟨cs5, rfl⟩ := okWide_any_agg (tys := [(3, 0), (4, 1), (33, 2)]) (by kernel_rfl) (hval 5 35 v5 rfl rfl)
  obtain ⟨x5, y5, z5⟩ := opn_argA opn_api_Tx (fun _ => rfl) h5
  obtain ⟨cs6, rfl⟩ := okWide_any_agg (tys := [(36, 0), (37, 1)]) (by kernel_rfl) (hval 6 39 v6 rfl rfl)
  obtain ⟨x6, y6, z6⟩ := opn_argA opn_api_History (fun _ => rfl) h6
  obtain ⟨w7_0, rfl⟩ := okWide_int uT3 (hval 7 3 v7 rfl rfl)
  obtain ⟨x7, y7, z7⟩ := opn_arg1 (opn_i64 uT3) (fun _ => rfl) rfl h7
  obtain ⟨w8_0, w8_1, w8_2, rfl⟩ := okWide_slice uT40 (hval 8 40 v8 rfl rfl)
  obtain ⟨x8, y8, z8⟩ := opn_arg1 (opn_slice (z := 1) uT40 (by kernel_rfl) (by decide) (opn_str uT9) (fun _ => rfl)) (fun _ => rfl) rfl h8
  clear hA0 hval0
  simp only [List.append_nil] at hW'
  have hlt : ∀ x ∈ p0 ++ (p1 ++ (p2 ++ (p3 ++ (p4 ++ (p5 ++ (p6 ++ (p7 ++ (p8 ++ [])))))))), x.block < W.heap.size := fun x hx => by simpa using hW'.lt x (by simpa using hx)
  refine (pure_call (tenterlaw41_RenderTells_ok (renderTells_true y0 y1 y2 y3 y4 y5 y6 y7 y8)) (.cons z0 (.cons z1 (.cons z2 (.cons z3 (.cons z4 (.cons z5 (.cons z6 (.cons z7 (.cons z8 .nil)))))))))).mono fun e W' ⟨he, hb⟩ => ?_
  subst he
  refine ⟨_, rfl, _, _, _, [] ++ [], (p0 ++ (p1 ++ (p2 ++ (p3 ++ (p4 ++ (p5 ++ (p6 ++ (p7 ++ (p8 ++ []))))))))), [], hW', ?_, ?_, rfl, hb.frame _, fun h => by cases h⟩
  · exact trodAll_mk1 (shut_bool uT4 true)
  · exact (trodAll_cons_mk (Below.trod laidOut (by kernel_rfl) (of_decide_eq_true (by kernel_rfl)) h0 hb (fun x hx => hlt x (by simp [hx]))) (trodAll_cons_mk (Below.trod laidOut (by kernel_rfl) (of_decide_eq_true (by kernel_rfl)) h1 hb (fun x hx => hlt x (by simp [hx]))) (trodAll_cons_mk (Below.trod laidOut (by kernel_rfl) (of_decide_eq_true (by kernel_rfl)) h2 hb (fun x hx => hlt x (by simp [hx]))) (trodAll_cons_mk (Below.trod laidOut (by kernel_rfl) (of_decide_eq_true (by kernel_rfl)) h3 hb (fun x hx => hlt x (by simp [hx]))) (trodAll_cons_mk (Below.trod laidOut (by kernel_rfl) (of_decide_eq_true (by kernel_rfl)) h4 hb (fun x hx => hlt x (by simp [hx]))) (trodAll_cons_mk (Below.trod laidOut (by kernel_rfl) (of_decide_eq_true (by kernel_rfl)) h5 hb (fun x hx => hlt x (by simp [hx]))) (trodAll_cons_mk (Below.trod laidOut (by kernel_rfl) (of_decide_eq_true (by kernel_rfl)) h6 hb (fun x hx => hlt x (by simp [hx]))) (trodAll_cons_mk (Below.trod laidOut (by kernel_rfl) (of_decide_eq_true (by kernel_rfl)) h7 hb (fun x hx => hlt x (by simp [hx]))) (trodAll_cons_mk (Below.trod laidOut (by kernel_rfl) (of_decide_eq_true (by kernel_rfl)) h8 hb (fun x hx => hlt x (by simp [hx]))) trodAll_mk0)))))))))
theorem holds : Rows.RenderTellsSaid :=
  OpenClaim.holds_of_wide 3 Try.f3 rfl rfl rfl rfl rfl rfl rfl ⟨rfl, rfl, rfl, rfl, rfl⟩ rfl rfl rfl rfl rfl (by kernel_rfl) Try.func3 (by kernel_rfl)
    (of_decide_eq_true (by kernel_rfl)) (by unfold Func.isWrapper; first | (rw [if_pos (by decide +kernel)]; kernel_rfl) | (rw [if_neg (by decide +kernel)]; exact ⟨rfl, rfl⟩))
    (fun os started H enc _ => lifted os started H enc)
#print axioms holds

end Tp
end Pm
theorem renderTells_holds : Rows.RenderTellsSaid := Pm.Tp.holds
#print axioms renderTells_holds
end Go.Proofs.Ytacccimihgailaa
