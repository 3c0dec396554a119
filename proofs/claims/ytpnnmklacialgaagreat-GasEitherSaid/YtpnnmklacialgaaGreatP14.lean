/- GasEither returns true for every net, period and list of numbers, and each argument reads as before: the row GasEitherSaid, in full. No condition. -/
import Derived.Test.YtpnnmklacialgaaGreatP13
import Derived.Test.YtpnnmklacialgaaGreatRows
set_option linter.unusedVariables false
namespace Go.Proofs.YtpnnmklacialgaaGreat
open Go.Conc

set_option maxRecDepth 100000 in
theorem either_run {H : Type} {enc : TypeId × Value → H} (W : World) (v1 v2 v3 : Value) (h1 : Arg enc Tryz.prog W 28 v1) (h2 : Arg enc Tryz.prog W 30 v2) (h3 : Arg enc Tryz.prog W 33 v3) :
    ∃ c, Tryz.f5.body = some c ∧ ∀ ro, WP Tryz.prog ⟨true, XM Tryz.prog, ⟨ro, .plain⟩, false⟩ 5 Tryz.f5.ntmps c (retQ Tryz.prog ⟨ro, .plain⟩ Tryz.f5.results fun r S' => r = .bool true ∧ List.Sublist (allE W) S') (den (dens [v1, v2, v3] 0) fun _ => undef) [] (allE W) := by
  obtain ⟨a, b, c, d, e, n, e1, hn⟩ := arg_net h1
  obtain ⟨f, e2⟩ := arg_struct (n := 5) (sz := 2) Tryz.underlying30 (by kernel_rfl) (by kernel_rfl) h2
  obtain ⟨xs, hs, hl⟩ := arg_nums h3
  subst e1
  subst e2
  exact c5 (allE W) n a b c d e v3 (f 0) (f 1) xs hn hs hl

set_option maxRecDepth 100000 in
theorem either_lifted (os : Os) (started : os.Started) (H : Type) (enc : TypeId × Value → H) :
    ReturnsInLeavingWide {} Tryz.checked os 5 .any (Rows.gasEitherSpec.pre6 enc Tryz.prog Tryz.f5 [] false) (Rows.gasEitherSpec.post enc Tryz.prog Tryz.f5 false true false false) :=
  law_liftedC (C := Tryz.checked) (t1 := 28) (t2 := 30) (t3 := 33) (t4 := 4) started own' laid' Tryz.func5 Tryz.params5 (by kernel_rfl) (by kernel_rfl) (by kernel_rfl) rfl (fun _ _ _ => rfl)
    (by kernel_rfl) (by kernel_rfl) (by kernel_rfl) (of_decide_eq_true (by kernel_rfl)) (of_decide_eq_true (by kernel_rfl)) (of_decide_eq_true (by kernel_rfl)) Tryz.underlying4
    (ChangeSpec.witness6 (enc := enc) (C := Tryz.checked) false ⟨#[], #[.agg #[.slice none 0 0, .slice none 0 0, .slice none 0 0, .slice none 0 0, .slice none 0 0], .agg #[iv 0, iv 0], .slice none 0 0], []⟩ 8 (by kernel_rfl) (by kernel_rfl) (by kernel_rfl) (by kernel_rfl))
    fun W v1 v2 v3 h1 h2 h3 => either_run W v1 v2 v3 h1 h2 h3

set_option maxRecDepth 100000 in
theorem gasEither_holds : Rows.GasEitherSaid :=
  OpenClaim.holds_of_wide_leaving 5 Tryz.f5 rfl rfl rfl rfl rfl rfl rfl ⟨rfl, rfl, rfl, rfl, rfl⟩ rfl rfl rfl rfl rfl (by kernel_rfl) Tryz.func5 (by kernel_rfl)
    (of_decide_eq_true (by kernel_rfl)) (by unfold Func.isWrapper; first | (rw [if_pos (by decide +kernel)]; kernel_rfl) | (rw [if_neg (by decide +kernel)]; exact ⟨rfl, rfl⟩))
    (fun os started H enc _ => either_lifted os started H enc)
#print axioms gasEither_holds
end Go.Proofs.YtpnnmklacialgaaGreat
