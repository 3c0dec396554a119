/- GasBills returns true for every net, point, period and list of postings, and each argument reads as before: the row GasBillsSaid, in full. No condition. -/
import Derived.Test.YtpnnmklacialgaaGreatP12
import Derived.Test.YtpnnmklacialgaaGreatRows
set_option linter.unusedVariables false
namespace Go.Proofs.YtpnnmklacialgaaGreat
open Go.Conc
theorem allE_ro {W : World} : ∀ x ∈ allE W, x.mine = false := by
  intro x hx
  unfold allE at hx
  obtain ⟨y, _, rfl⟩ := List.mem_map.1 hx
  rfl
set_option maxRecDepth 100000 in
theorem arg_posts {H : Type} {enc : TypeId × Value → H} {W : World} {v : Value} (h : Arg enc Tryz.prog W 45 v) : ∃ xs : List PostG, SlV (allE W) v xs := by
  obtain ⟨⟨base, hv⟩, d, p, hr, hw⟩ := h
  exact (rd_listP (α := PostG) (n := 5) Tryz.underlying45 intsT66 cellsT66 hv hr hw).imp fun _ h => h.1
set_option maxRecDepth 100000 in
theorem bills_run {H : Type} {enc : TypeId × Value → H} (W : World) (v1 v2 v3 : Value) (h1 : Arg enc Tryz.prog W 28 v1) (h2 : Arg enc Tryz.prog W 32 v2) (h3 : Arg enc Tryz.prog W 45 v3) :
    ∃ c, Tryz.f4.body = some c ∧ ∀ ro, WP Tryz.prog ⟨true, XM Tryz.prog, ⟨ro, .plain⟩, false⟩ 4 Tryz.f4.ntmps c (retQ Tryz.prog ⟨ro, .plain⟩ Tryz.f4.results fun r S' => r = .bool true ∧ List.Sublist (allE W) S') (den (dens [v1, v2, v3] 0) fun _ => undef) [] (allE W) := by
  obtain ⟨a, b, c, d, e, n, e1, hn⟩ := arg_net h1
  obtain ⟨f, e2⟩ := arg_struct (n := 5) (sz := 3) Tryz.underlying32 (by kernel_rfl) (by kernel_rfl) h2
  obtain ⟨xs, hs⟩ := arg_posts h3
  subst e1
  subst e2
  exact c4 (allE W) allE_ro n a b c d e v3 (f 0) (f 1) (f 2) xs hn hs
set_option maxRecDepth 100000 in
theorem bills_lifted (os : Os) (started : os.Started) (H : Type) (enc : TypeId × Value → H) :
    ReturnsInLeavingWide {} Tryz.checked os 4 .any (Rows.gasBillsSpec.pre6 enc Tryz.prog Tryz.f4 [] false) (Rows.gasBillsSpec.post enc Tryz.prog Tryz.f4 false true false false) :=
  law_liftedC (C := Tryz.checked) (t1 := 28) (t2 := 32) (t3 := 45) (t4 := 4) started own' laid' Tryz.func4 Tryz.params4 (by kernel_rfl) (by kernel_rfl) (by kernel_rfl) rfl (fun _ _ _ => rfl)
    (by kernel_rfl) (by kernel_rfl) (by kernel_rfl) (of_decide_eq_true (by kernel_rfl)) (of_decide_eq_true (by kernel_rfl)) (of_decide_eq_true (by kernel_rfl)) Tryz.underlying4
    (ChangeSpec.witness6 (enc := enc) (C := Tryz.checked) false ⟨#[], #[.agg #[.slice none 0 0, .slice none 0 0, .slice none 0 0, .slice none 0 0, .slice none 0 0], .agg #[iv 0, iv 0, iv 0], .slice none 0 0], []⟩ 8 (by kernel_rfl) (by kernel_rfl) (by kernel_rfl) (by kernel_rfl))
    fun W v1 v2 v3 h1 h2 h3 => bills_run W v1 v2 v3 h1 h2 h3
set_option maxRecDepth 100000 in
theorem gasBills_holds : Rows.GasBillsSaid :=
  OpenClaim.holds_of_wide_leaving 4 Tryz.f4 rfl rfl rfl rfl rfl rfl rfl ⟨rfl, rfl, rfl, rfl, rfl⟩ rfl rfl rfl rfl rfl (by kernel_rfl) Tryz.func4 (by kernel_rfl)
    (of_decide_eq_true (by kernel_rfl)) (by unfold Func.isWrapper; first | (rw [if_pos (by decide +kernel)]; kernel_rfl) | (rw [if_neg (by decide +kernel)]; exact ⟨rfl, rfl⟩))
    (fun os started H enc _ => bills_lifted os started H enc)
#print axioms gasBills_holds
end Go.Proofs.YtpnnmklacialgaaGreat
