/- Nights of entries (printed by genc37.py).
   More rules: conversions and shifts of numbers, a byte of a text, room made by append, slices of slices.
   Sorting a list of numbers: what is short is sorted by insertion.
   Lists made one, and without repeats; sorted numbers, each once.
   The nights on which something becomes known, or ends; the periods told of.
   Traces of a caller and one helper at a time: what is ordered, and that nothing races. -/
import Derived.Test.YtpnnmklacialgaaGreatP09
import Derived.Conc.Fork
set_option linter.unusedVariables false
set_option linter.unusedSimpArgs false
namespace Go.Proofs.YtpnnmklacialgaaGreat
open Go.Conc
attribute [local irreducible] WP OpF OpX CallW SemH retQ AnyF RoundW

theorem flatMap_snoc {α : Type} {f : α → List Int} {l : List α} {j : Nat} (h : j < l.length) : (l.take (j + 1)).flatMap f = (l.take j).flatMap f ++ f l[j] := by
  rw [List.take_succ_eq_append_getElem h, List.flatMap_append]
  simp
def nightsUse (x : UseG) : List Int := if x.til = 0 then [x.known] else [x.known, x.til]
theorem c157 (E : Env) (S : Ents) (xs : List UseG) (v : Value) (hv : SlV S v xs) (hm : xs.length ≤ 1048576) : CallW Tryz.prog E 157 #[v] S fun r S' => ∃ Δ, Own r (xs.flatMap nightsUse) Δ ∧ S' = Δ ++ S := by
  obtain ⟨a, cp, rfl, _, hr⟩ := hv
  have i1 := SlI.mk hr
  refine call_in (args := [.slice a xs.length cp]) Tryz.func157 (by decide) rfl rfl ?_
  repeat' first|(refine gX ?_;first|refine o_v rfl rfl ?_|(refine o_splitD rfl rfl rfl ?_ ?_<;>intro h)|(refine o_split rfl rfl rfl ?_ ?_<;>intro h<;>fail_if_success exact Bool.noConfusion h)|(refine gL ?_;first|refine o_load rfl rfl rfl rfl ?_|refine o_loadR rfl rfl rfl (by omega) rfl rfl ?_|refine o_loadW rfl rfl rfl rfl ?_|refine o_loadK rfl rfl rfl ?_)|(refine gF ?_;first|refine o_fieldI rfl rfl rfl rfl ?_|refine o_field rfl rfl rfl rfl ?_)|(refine gB ?_;first|refine o_add rfl rfl rfl rfl (by omega) ?_|refine o_sub rfl rfl rfl rfl (by omega) ?_|refine o_eqNil rfl rfl rfl rfl rfl ?_)|(refine gI ?_;first|refine o_indexS rfl rfl rfl rfl rfl rfl (by omega) ?_|refine o_index rfl rfl rfl rfl rfl (by omega) ?_)|(refine gS ?_;first|refine o_store rfl rfl rfl rfl rfl rfl ?_|refine o_storeW rfl rfl rfl rfl rfl rfl ?_)|(refine o_allocZ rfl rfl ?_;intro _)|(refine o_box rfl rfl rfl ?_;intro _)|refine o_skip rfl rfl ?_|refine o_skipN rfl rfl ?_|refine o_iface rfl rfl rfl ?_|refine o_build rfl rfl rfl rfl rfl ?_|(refine o_bslice rfl rfl rfl rfl rfl rfl rfl ?_;intro _)|(refine o_splitP rfl ?_ ?_<;>intro h<;>fail_if_success exact Bool.noConfusion h))|refine o_head0 rfl ?_|refine o_end ?_|refine o_head1 rfl ?_|refine wp_seq ?_|refine o_region ?_|refine wp_block ?_|refine wp_skip ?_|refine wp_exit ?_|(refine w_condD rfl ?_ ?_<;>intro h)|(refine w_cond rfl ?_ ?_<;>intro h<;>try exact Bool.noConfusion h)|refine w_ret (S) (vs:=[_]) rfl (Res.tmp rfl Res.nil) ?_
  refine wp_loop (fun i t ds S' => ∃ (j : Nat) (t0 : Tm) (w : Value) (Δ : Ents), i = xs.length - j ∧ j ≤ xs.length ∧ [] = ds ∧ Δ ++ S = S' ∧ t = den [(13, iv j), (12, iv xs.length), (11, .slice a xs.length cp), (3, w)] t0 ∧ Own w ((xs.take j).flatMap nightsUse) Δ ∧ ((xs.take j).flatMap nightsUse).length ≤ 2 * j)
    xs.length ⟨0, _, _, [], rfl, Nat.zero_le _, rfl, rfl, keep ⟨rfl, rfl, rfl, rfl, trivial⟩, .nil, by simp⟩ ?_
  rintro i t ds S' ⟨j, t0, w, Δ, rfl, hj, rfl, rfl, rfl, ho, hl⟩
  obtain ⟨wa, wc, rfl, _, _⟩ := ho.slv
  repeat' first|(refine gX ?_;first|refine o_v rfl rfl ?_|(refine o_splitD rfl rfl rfl ?_ ?_<;>intro h)|(refine o_split rfl rfl rfl ?_ ?_<;>intro h<;>fail_if_success exact Bool.noConfusion h)|(refine gL ?_;first|refine o_load rfl rfl rfl rfl ?_|refine o_loadR rfl rfl rfl (by omega) rfl rfl ?_|refine o_loadW rfl rfl rfl rfl ?_|refine o_loadK rfl rfl rfl ?_)|(refine gF ?_;first|refine o_fieldI rfl rfl rfl rfl ?_|refine o_field rfl rfl rfl rfl ?_)|(refine gB ?_;first|refine o_add rfl rfl rfl rfl (by omega) ?_|refine o_sub rfl rfl rfl rfl (by omega) ?_|refine o_eqNil rfl rfl rfl rfl rfl ?_)|(refine gC ?_;first|refine o_inv rfl rfl rfl rfl (c228 _ _ (xs[j]'(by first|done|omega))) ?_|(refine o_append1 (xs[j]'(by first|done|omega)).til rfl rfl rfl rfl ho2 rfl (by rw [List.length_append, List.length_singleton]; omega) rfl rfl rfl rfl ?_;intro w3 Δ3 ho3;refine ⟨inferInstance, ?_⟩)|(refine o_append1 (xs[j]'(by first|done|omega)).known rfl rfl rfl rfl ho rfl (by omega) rfl rfl rfl rfl ?_;intro w2 Δ2 ho2;refine ⟨inferInstance, ?_⟩))|(refine gI ?_;first|refine o_indexS rfl rfl rfl rfl rfl rfl (by omega) ?_|refine o_index rfl rfl rfl rfl rfl (by omega) ?_)|(refine gS ?_;first|refine o_store rfl rfl rfl rfl rfl rfl ?_|refine o_storeW rfl rfl rfl rfl rfl rfl ?_)|(refine o_allocZ rfl rfl ?_;intro _)|(refine o_box rfl rfl rfl ?_;intro _)|refine o_skip rfl rfl ?_|refine o_skipN rfl rfl ?_|refine o_iface rfl rfl rfl ?_|refine o_build rfl rfl rfl rfl rfl ?_|(refine o_bslice rfl rfl rfl rfl rfl rfl rfl ?_;intro _)|(refine o_splitP rfl ?_ ?_<;>intro h<;>fail_if_success exact Bool.noConfusion h))|refine o_head0 rfl ?_|refine o_end ?_|refine o_head1 rfl ?_|refine wp_seq ?_|refine o_region ?_|refine wp_block ?_|refine wp_skip ?_|refine wp_exit ?_|(refine w_condD rfl ?_ ?_<;>intro h)|(refine w_cond rfl ?_ ?_<;>intro h<;>try exact Bool.noConfusion h)|refine w_ret (Δ ++ S) (vs:=[_]) rfl (Res.tmp rfl Res.nil) ?_|refine w_ret (S) (vs:=[_]) rfl (Res.tmp rfl Res.nil) ?_
  · refine ⟨xs.length - (j + 1), by omega, _, .append_left (.cons _ (.cons _ (.cons _ (List.Sublist.refl _)))) _, j + 1, _, _, Δ3, rfl, by omega, rfl, rfl, keep ⟨rfl, rfl, rfl, rfl, trivial⟩, ?_, ?_⟩
    · rw [flatMap_snoc (by omega)]
      unfold nightsUse at *
      rw [if_neg h]
      simpa using ho3
    · rw [flatMap_snoc (by omega), List.length_append]
      unfold nightsUse at *
      rw [if_neg h]
      simp only [List.length_cons, List.length_nil]
      omega
  · refine ⟨xs.length - (j + 1), by omega, _, .append_left (.cons _ (.cons _ (List.Sublist.refl _))) _, j + 1, _, _, Δ2, rfl, by omega, rfl, rfl, keep ⟨rfl, rfl, rfl, rfl, trivial⟩, ?_, ?_⟩
    · rw [flatMap_snoc (by omega)]
      unfold nightsUse at *
      rw [if_pos (by simpa using h)]
      exact ho2
    · rw [flatMap_snoc (by omega), List.length_append]
      unfold nightsUse at *
      rw [if_pos (by simpa using h)]
      simp only [List.length_cons, List.length_nil]
      omega
  · have : j = xs.length := by omega
    subst this
    refine ⟨Δ, ?_, rfl⟩
    rw [List.take_length] at ho ⊢
    exact ho
def nightsRead (x : ReadG) : List Int := if x.til = 0 then [x.known] else [x.known, x.til]
theorem c158 (E : Env) (S : Ents) (xs : List ReadG) (v : Value) (hv : SlV S v xs) (hm : xs.length ≤ 1048576) : CallW Tryz.prog E 158 #[v] S fun r S' => ∃ Δ, Own r (xs.flatMap nightsRead) Δ ∧ S' = Δ ++ S := by
  obtain ⟨a, cp, rfl, _, hr⟩ := hv
  have i1 := SlI.mk hr
  refine call_in (args := [.slice a xs.length cp]) Tryz.func158 (by decide) rfl rfl ?_
  repeat' first|(refine gX ?_;first|refine o_v rfl rfl ?_|(refine o_splitD rfl rfl rfl ?_ ?_<;>intro h)|(refine o_split rfl rfl rfl ?_ ?_<;>intro h<;>fail_if_success exact Bool.noConfusion h)|(refine gL ?_;first|refine o_load rfl rfl rfl rfl ?_|refine o_loadR rfl rfl rfl (by omega) rfl rfl ?_|refine o_loadW rfl rfl rfl rfl ?_|refine o_loadK rfl rfl rfl ?_)|(refine gF ?_;first|refine o_fieldI rfl rfl rfl rfl ?_|refine o_field rfl rfl rfl rfl ?_)|(refine gB ?_;first|refine o_add rfl rfl rfl rfl (by omega) ?_|refine o_sub rfl rfl rfl rfl (by omega) ?_|refine o_eqNil rfl rfl rfl rfl rfl ?_)|(refine gI ?_;first|refine o_indexS rfl rfl rfl rfl rfl rfl (by omega) ?_|refine o_index rfl rfl rfl rfl rfl (by omega) ?_)|(refine gS ?_;first|refine o_store rfl rfl rfl rfl rfl rfl ?_|refine o_storeW rfl rfl rfl rfl rfl rfl ?_)|(refine o_allocZ rfl rfl ?_;intro _)|(refine o_box rfl rfl rfl ?_;intro _)|refine o_skip rfl rfl ?_|refine o_skipN rfl rfl ?_|refine o_iface rfl rfl rfl ?_|refine o_build rfl rfl rfl rfl rfl ?_|(refine o_bslice rfl rfl rfl rfl rfl rfl rfl ?_;intro _)|(refine o_splitP rfl ?_ ?_<;>intro h<;>fail_if_success exact Bool.noConfusion h))|refine o_head0 rfl ?_|refine o_end ?_|refine o_head1 rfl ?_|refine wp_seq ?_|refine o_region ?_|refine wp_block ?_|refine wp_skip ?_|refine wp_exit ?_|(refine w_condD rfl ?_ ?_<;>intro h)|(refine w_cond rfl ?_ ?_<;>intro h<;>try exact Bool.noConfusion h)|refine w_ret (S) (vs:=[_]) rfl (Res.tmp rfl Res.nil) ?_
  refine wp_loop (fun i t ds S' => ∃ (j : Nat) (t0 : Tm) (w : Value) (Δ : Ents), i = xs.length - j ∧ j ≤ xs.length ∧ [] = ds ∧ Δ ++ S = S' ∧ t = den [(13, iv j), (12, iv xs.length), (11, .slice a xs.length cp), (3, w)] t0 ∧ Own w ((xs.take j).flatMap nightsRead) Δ ∧ ((xs.take j).flatMap nightsRead).length ≤ 2 * j)
    xs.length ⟨0, _, _, [], rfl, Nat.zero_le _, rfl, rfl, keep ⟨rfl, rfl, rfl, rfl, trivial⟩, .nil, by simp⟩ ?_
  rintro i t ds S' ⟨j, t0, w, Δ, rfl, hj, rfl, rfl, rfl, ho, hl⟩
  obtain ⟨wa, wc, rfl, _, _⟩ := ho.slv
  repeat' first|(refine gX ?_;first|refine o_v rfl rfl ?_|(refine o_splitD rfl rfl rfl ?_ ?_<;>intro h)|(refine o_split rfl rfl rfl ?_ ?_<;>intro h<;>fail_if_success exact Bool.noConfusion h)|(refine gL ?_;first|refine o_load rfl rfl rfl rfl ?_|refine o_loadR rfl rfl rfl (by omega) rfl rfl ?_|refine o_loadW rfl rfl rfl rfl ?_|refine o_loadK rfl rfl rfl ?_)|(refine gF ?_;first|refine o_fieldI rfl rfl rfl rfl ?_|refine o_field rfl rfl rfl rfl ?_)|(refine gB ?_;first|refine o_add rfl rfl rfl rfl (by omega) ?_|refine o_sub rfl rfl rfl rfl (by omega) ?_|refine o_eqNil rfl rfl rfl rfl rfl ?_)|(refine gC ?_;first|refine o_inv rfl rfl rfl rfl (c227 _ _ (xs[j]'(by first|done|omega))) ?_|(refine o_append1 (xs[j]'(by first|done|omega)).til rfl rfl rfl rfl ho2 rfl (by rw [List.length_append, List.length_singleton]; omega) rfl rfl rfl rfl ?_;intro w3 Δ3 ho3;refine ⟨inferInstance, ?_⟩)|(refine o_append1 (xs[j]'(by first|done|omega)).known rfl rfl rfl rfl ho rfl (by omega) rfl rfl rfl rfl ?_;intro w2 Δ2 ho2;refine ⟨inferInstance, ?_⟩))|(refine gI ?_;first|refine o_indexS rfl rfl rfl rfl rfl rfl (by omega) ?_|refine o_index rfl rfl rfl rfl rfl (by omega) ?_)|(refine gS ?_;first|refine o_store rfl rfl rfl rfl rfl rfl ?_|refine o_storeW rfl rfl rfl rfl rfl rfl ?_)|(refine o_allocZ rfl rfl ?_;intro _)|(refine o_box rfl rfl rfl ?_;intro _)|refine o_skip rfl rfl ?_|refine o_skipN rfl rfl ?_|refine o_iface rfl rfl rfl ?_|refine o_build rfl rfl rfl rfl rfl ?_|(refine o_bslice rfl rfl rfl rfl rfl rfl rfl ?_;intro _)|(refine o_splitP rfl ?_ ?_<;>intro h<;>fail_if_success exact Bool.noConfusion h))|refine o_head0 rfl ?_|refine o_end ?_|refine o_head1 rfl ?_|refine wp_seq ?_|refine o_region ?_|refine wp_block ?_|refine wp_skip ?_|refine wp_exit ?_|(refine w_condD rfl ?_ ?_<;>intro h)|(refine w_cond rfl ?_ ?_<;>intro h<;>try exact Bool.noConfusion h)|refine w_ret (Δ ++ S) (vs:=[_]) rfl (Res.tmp rfl Res.nil) ?_|refine w_ret (S) (vs:=[_]) rfl (Res.tmp rfl Res.nil) ?_
  · refine ⟨xs.length - (j + 1), by omega, _, .append_left (.cons _ (.cons _ (.cons _ (List.Sublist.refl _)))) _, j + 1, _, _, Δ3, rfl, by omega, rfl, rfl, keep ⟨rfl, rfl, rfl, rfl, trivial⟩, ?_, ?_⟩
    · rw [flatMap_snoc (by omega)]
      unfold nightsRead at *
      rw [if_neg h]
      simpa using ho3
    · rw [flatMap_snoc (by omega), List.length_append]
      unfold nightsRead at *
      rw [if_neg h]
      simp only [List.length_cons, List.length_nil]
      omega
  · refine ⟨xs.length - (j + 1), by omega, _, .append_left (.cons _ (.cons _ (List.Sublist.refl _))) _, j + 1, _, _, Δ2, rfl, by omega, rfl, rfl, keep ⟨rfl, rfl, rfl, rfl, trivial⟩, ?_, ?_⟩
    · rw [flatMap_snoc (by omega)]
      unfold nightsRead at *
      rw [if_pos (by simpa using h)]
      exact ho2
    · rw [flatMap_snoc (by omega), List.length_append]
      unfold nightsRead at *
      rw [if_pos (by simpa using h)]
      simp only [List.length_cons, List.length_nil]
      omega
  · have : j = xs.length := by omega
    subst this
    refine ⟨Δ, ?_, rfl⟩
    rw [List.take_length] at ho ⊢
    exact ho
def nightsFault (x : FaultG) : List Int := if x.til = 0 then [x.known] else [x.known, x.til]
theorem c159 (E : Env) (S : Ents) (xs : List FaultG) (v : Value) (hv : SlV S v xs) (hm : xs.length ≤ 1048576) : CallW Tryz.prog E 159 #[v] S fun r S' => ∃ Δ, Own r (xs.flatMap nightsFault) Δ ∧ S' = Δ ++ S := by
  obtain ⟨a, cp, rfl, _, hr⟩ := hv
  have i1 := SlI.mk hr
  refine call_in (args := [.slice a xs.length cp]) Tryz.func159 (by decide) rfl rfl ?_
  repeat' first|(refine gX ?_;first|refine o_v rfl rfl ?_|(refine o_splitD rfl rfl rfl ?_ ?_<;>intro h)|(refine o_split rfl rfl rfl ?_ ?_<;>intro h<;>fail_if_success exact Bool.noConfusion h)|(refine gL ?_;first|refine o_load rfl rfl rfl rfl ?_|refine o_loadR rfl rfl rfl (by omega) rfl rfl ?_|refine o_loadW rfl rfl rfl rfl ?_|refine o_loadK rfl rfl rfl ?_)|(refine gF ?_;first|refine o_fieldI rfl rfl rfl rfl ?_|refine o_field rfl rfl rfl rfl ?_)|(refine gB ?_;first|refine o_add rfl rfl rfl rfl (by omega) ?_|refine o_sub rfl rfl rfl rfl (by omega) ?_|refine o_eqNil rfl rfl rfl rfl rfl ?_)|(refine gI ?_;first|refine o_indexS rfl rfl rfl rfl rfl rfl (by omega) ?_|refine o_index rfl rfl rfl rfl rfl (by omega) ?_)|(refine gS ?_;first|refine o_store rfl rfl rfl rfl rfl rfl ?_|refine o_storeW rfl rfl rfl rfl rfl rfl ?_)|(refine o_allocZ rfl rfl ?_;intro _)|(refine o_box rfl rfl rfl ?_;intro _)|refine o_skip rfl rfl ?_|refine o_skipN rfl rfl ?_|refine o_iface rfl rfl rfl ?_|refine o_build rfl rfl rfl rfl rfl ?_|(refine o_bslice rfl rfl rfl rfl rfl rfl rfl ?_;intro _)|(refine o_splitP rfl ?_ ?_<;>intro h<;>fail_if_success exact Bool.noConfusion h))|refine o_head0 rfl ?_|refine o_end ?_|refine o_head1 rfl ?_|refine wp_seq ?_|refine o_region ?_|refine wp_block ?_|refine wp_skip ?_|refine wp_exit ?_|(refine w_condD rfl ?_ ?_<;>intro h)|(refine w_cond rfl ?_ ?_<;>intro h<;>try exact Bool.noConfusion h)|refine w_ret (S) (vs:=[_]) rfl (Res.tmp rfl Res.nil) ?_
  refine wp_loop (fun i t ds S' => ∃ (j : Nat) (t0 : Tm) (w : Value) (Δ : Ents), i = xs.length - j ∧ j ≤ xs.length ∧ [] = ds ∧ Δ ++ S = S' ∧ t = den [(13, iv j), (12, iv xs.length), (11, .slice a xs.length cp), (3, w)] t0 ∧ Own w ((xs.take j).flatMap nightsFault) Δ ∧ ((xs.take j).flatMap nightsFault).length ≤ 2 * j)
    xs.length ⟨0, _, _, [], rfl, Nat.zero_le _, rfl, rfl, keep ⟨rfl, rfl, rfl, rfl, trivial⟩, .nil, by simp⟩ ?_
  rintro i t ds S' ⟨j, t0, w, Δ, rfl, hj, rfl, rfl, rfl, ho, hl⟩
  obtain ⟨wa, wc, rfl, _, _⟩ := ho.slv
  repeat' first|(refine gX ?_;first|refine o_v rfl rfl ?_|(refine o_splitD rfl rfl rfl ?_ ?_<;>intro h)|(refine o_split rfl rfl rfl ?_ ?_<;>intro h<;>fail_if_success exact Bool.noConfusion h)|(refine gL ?_;first|refine o_load rfl rfl rfl rfl ?_|refine o_loadR rfl rfl rfl (by omega) rfl rfl ?_|refine o_loadW rfl rfl rfl rfl ?_|refine o_loadK rfl rfl rfl ?_)|(refine gF ?_;first|refine o_fieldI rfl rfl rfl rfl ?_|refine o_field rfl rfl rfl rfl ?_)|(refine gB ?_;first|refine o_add rfl rfl rfl rfl (by omega) ?_|refine o_sub rfl rfl rfl rfl (by omega) ?_|refine o_eqNil rfl rfl rfl rfl rfl ?_)|(refine gC ?_;first|refine o_inv rfl rfl rfl rfl (c229 _ _ (xs[j]'(by first|done|omega))) ?_|(refine o_append1 (xs[j]'(by first|done|omega)).til rfl rfl rfl rfl ho2 rfl (by rw [List.length_append, List.length_singleton]; omega) rfl rfl rfl rfl ?_;intro w3 Δ3 ho3;refine ⟨inferInstance, ?_⟩)|(refine o_append1 (xs[j]'(by first|done|omega)).known rfl rfl rfl rfl ho rfl (by omega) rfl rfl rfl rfl ?_;intro w2 Δ2 ho2;refine ⟨inferInstance, ?_⟩))|(refine gI ?_;first|refine o_indexS rfl rfl rfl rfl rfl rfl (by omega) ?_|refine o_index rfl rfl rfl rfl rfl (by omega) ?_)|(refine gS ?_;first|refine o_store rfl rfl rfl rfl rfl rfl ?_|refine o_storeW rfl rfl rfl rfl rfl rfl ?_)|(refine o_allocZ rfl rfl ?_;intro _)|(refine o_box rfl rfl rfl ?_;intro _)|refine o_skip rfl rfl ?_|refine o_skipN rfl rfl ?_|refine o_iface rfl rfl rfl ?_|refine o_build rfl rfl rfl rfl rfl ?_|(refine o_bslice rfl rfl rfl rfl rfl rfl rfl ?_;intro _)|(refine o_splitP rfl ?_ ?_<;>intro h<;>fail_if_success exact Bool.noConfusion h))|refine o_head0 rfl ?_|refine o_end ?_|refine o_head1 rfl ?_|refine wp_seq ?_|refine o_region ?_|refine wp_block ?_|refine wp_skip ?_|refine wp_exit ?_|(refine w_condD rfl ?_ ?_<;>intro h)|(refine w_cond rfl ?_ ?_<;>intro h<;>try exact Bool.noConfusion h)|refine w_ret (Δ ++ S) (vs:=[_]) rfl (Res.tmp rfl Res.nil) ?_|refine w_ret (S) (vs:=[_]) rfl (Res.tmp rfl Res.nil) ?_
  · refine ⟨xs.length - (j + 1), by omega, _, .append_left (.cons _ (.cons _ (.cons _ (List.Sublist.refl _)))) _, j + 1, _, _, Δ3, rfl, by omega, rfl, rfl, keep ⟨rfl, rfl, rfl, rfl, trivial⟩, ?_, ?_⟩
    · rw [flatMap_snoc (by omega)]
      unfold nightsFault at *
      rw [if_neg h]
      simpa using ho3
    · rw [flatMap_snoc (by omega), List.length_append]
      unfold nightsFault at *
      rw [if_neg h]
      simp only [List.length_cons, List.length_nil]
      omega
  · refine ⟨xs.length - (j + 1), by omega, _, .append_left (.cons _ (.cons _ (List.Sublist.refl _))) _, j + 1, _, _, Δ2, rfl, by omega, rfl, rfl, keep ⟨rfl, rfl, rfl, rfl, trivial⟩, ?_, ?_⟩
    · rw [flatMap_snoc (by omega)]
      unfold nightsFault at *
      rw [if_pos (by simpa using h)]
      exact ho2
    · rw [flatMap_snoc (by omega), List.length_append]
      unfold nightsFault at *
      rw [if_pos (by simpa using h)]
      simp only [List.length_cons, List.length_nil]
      omega
  · have : j = xs.length := by omega
    subst this
    refine ⟨Δ, ?_, rfl⟩
    rw [List.take_length] at ho ⊢
    exact ho
end Go.Proofs.YtpnnmklacialgaaGreat
namespace Go.Proofs.YtpnnmklacialgaaGreat
open Go.Conc

/-- A slice as an element. -/
structure SlG where
  a : Option Addr
  len : Nat
  cap : Nat
def SlG.v (x : SlG) : Value := .slice x.a x.len x.cap
def slC (x : SlG) : Array Value := #[.slice x.a x.len x.cap]
instance encSl : Enc SlG := ⟨1, slC, by decide, fun _ => rfl, fun x => one_of rfl⟩

section
variable {E : Env} {fn n : Nat} {Q : Post} {K : Tm → List Deferred → Ents → Prop} {l : TL} {t : Tm} {ds : List Deferred} {S Z Zi : Ents} {ops : Array Oper} {i : Nat} {z : Bool} {rest : List (Nat × Bool)} {sq : Bool}
variable {d : Nat} {ty : TypeId} {pos : String} {af : Array Edge} {g : Option (Nat × Bool)}

theorem o_conv {src dst : TypeId} {k1 k2 k3 : IntKind} {x : Operand} {a m : Int} (hw : wantL ops l t g = some true) (hd : Nat.blt d n = true) (h1 : lk1 itT src = some k1) (h2 : lk1 itT dst = some k2) (hx : evL l t x = some (.int k3 a)) (hm : k2.wrap a = m)
    (h : OpF Tryz.prog E fn n ops sq rest K (den ((d, .int k2 m) :: l) t) ds Z S) : OpX Tryz.prog E fn n ops sq i z rest ⟨some d, .convert src dst x, ty, pos, af, g⟩ K (den l t) ds Zi Z S := by
  subst hm
  refine o_V rfl (vop_of hw hd rfl rfl fun S hS => ?_) h
  unfold OpH execOp
  refine semH_bind (?_ : SemH Tryz.prog E.m (convert src dst (ev (den l t) x)) S _)
  rw [evL_eq hx]
  unfold convert
  refine semH_bind (semH_underlying (itT_ok h1) (semH_bind (semH_underlying (itT_ok h2) ?_)))
  exact semH_pure (semH_pure ⟨_, .inl rfl, rfl, rfl⟩)

theorem o_shr {t1 t2 : TypeId} {k yk : IntKind} {x y : Operand} {a b : Int} (hw : wantL ops l t g = some true) (hd : Nat.blt d n = true) (hx : evL l t x = some (.int k a)) (hy : evL l t y = some (.int yk b)) (hb : 0 ≤ b)
    (h : OpF Tryz.prog E fn n ops sq rest K (den ((d, .int k (a.fdiv (2 ^ (min b.toNat k.bits)))) :: l) t) ds Z S) : OpX Tryz.prog E fn n ops sq i z rest ⟨some d, .binOp .shr t1 x y t2, ty, pos, af, g⟩ K (den l t) ds Zi Z S := by
  refine o_V rfl (vop_of hw hd rfl rfl fun S hS => ?_) h
  unfold OpH execOp
  refine semH_bind (?_ : SemH Tryz.prog E.m (do eqGuard .shr t1 x y (ev (den l t) x) (ev (den l t) y); binOp .shr t1 (ev (den l t) x) (ev (den l t) y)) S _)
  rw [evL_eq hx, evL_eq hy]
  unfold eqGuard
  refine semH_bind (semH_pure ?_)
  simp only [binOp, Op.shift]
  rw [if_neg (by omega)]
  exact semH_pure (semH_pure ⟨_, .inl rfl, rfl, rfl⟩)

def strT (P : Program) (t : Nat) : Bool := match P.underlying t with | some .string => true | _ => false
class StrT (t : Nat) : Prop where h : strT Tryz.prog t = true
theorem strT_ok {P : Program} {t : Nat} (h : strT P t = true) : P.underlying t = some .string := by
  unfold strT at h
  split at h
  · assumption
  · cases h
theorem o_idxStr {xt : TypeId} {x y : Operand} {s : ByteArray} {k : IntKind} {q : Int} (hw : wantL ops l t g = some true) (hd : Nat.blt d n = true) [hs : StrT xt] (hx : evL l t x = some (.string s)) (hy : evL l t y = some (.int k q)) (h0 : 0 ≤ q ∧ q ≤ 255) (h1 : Nat.blt 255 s.size = true)
    (h : ∀ b : Nat, b ≤ 255 → OpF Tryz.prog E fn n ops sq rest K (den ((d, .int .u8 (b : Int)) :: l) t) ds Z S) : OpX Tryz.prog E fn n ops sq i z rest ⟨some d, .index xt x y, ty, pos, af, g⟩ K (den l t) ds Zi Z S := by
  have hlt : q.toNat < s.size := by simp [Nat.blt] at h1; omega
  have hle : s[q.toNat].toNat ≤ 255 := by have := UInt8.toNat_lt s[q.toNat]; omega
  have hu := strT_ok hs.h
  refine o_V rfl (vop_of hw hd rfl rfl fun S hS => ?_) (h s[q.toNat].toNat hle)
  unfold OpH execOp
  refine semH_bind (?_ : SemH Tryz.prog E.m (Instr.index xt (ev (den l t) x) (ev (den l t) y)) S _)
  rw [evL_eq hx, evL_eq hy]
  unfold Instr.index
  refine semH_bind (semH_pure ?_)
  refine semH_bind (semH_underlying hu ?_)
  simp only
  rw [if_pos h0.1, getElem?_pos s q.toNat hlt]
  exact semH_pure (semH_pure ⟨_, .inl rfl, rfl, rfl⟩)

/-- Room for k elements, by append to the nil slice. -/
theorem o_appendM {α : Type} [En : Enc α] (u : α) {sT xT e sz by' k : Nat} {x y : Operand} (hw : wantL ops l t g = some true) (hd : Nat.blt d n = true) (hx : evL l t x = some (.slice none 0 0)) (hy : evL l t y = some (.int .i64 (k : Int))) (hk0 : 0 < k) (hk : k ≤ 4000000)
    (hs : lk1 slT sT = some e) (hi : lk1 itT xT = some .i64) [he : Eb e sz by'] {cs : Array Value} [hz : Zo e cs] (hcs : cs = En.enc u) (hsz : En.sz = sz)
    (h : ∀ v' Δ', Own v' (List.replicate k u) Δ' → OpF Tryz.prog E fn n ops sq rest K (den ((d, v') :: l) t) ds Z (Δ' ++ S)) :
    OpX Tryz.prog E fn n ops sq i z rest ⟨some d, .call { callee := .builtin .append, args := #[x, y], argTypes := #[sT, xT] }, ty, pos, af, g⟩ K (den l t) ds Zi Z S := by
  subst hsz
  obtain ⟨heb, hb1, hb2⟩ := he.h
  have hpos := En.pos
  refine o_A rfl (R := fun v S' => ∃ Δ, Own v (List.replicate k u) Δ ∧ S' = Δ ++ S) (exec_of hw hd rfl rfl ?_) ?_
  · unfold OpH execOp
    simp only [resolve]
    refine semH_bind (semH_pure ?_)
    simp only [invoke, builtin]
    refine semH_bind ?_
    unfold Builtin.append_
    simp only [List.map_toArray, List.map_cons, List.map_nil, evL_eq hx, evL_eq hy, List.getElem?_toArray, List.getElem?_cons_zero, List.getElem?_cons_succ]
    refine semH_bind (semH_underlying (slT_ok hs) ?_)
    simp only
    refine semH_bind (semH_sizeOf' heb ?_)
    refine semH_bind (semH_underlying (itT_ok hi) ?_)
    refine semH_bind (semH_pure ?_)
    have hwr : IntKind.i64.wrap (k : Int) = (k : Int) := wrap_in (by omega) (by omega)
    simp only [if_true]
    refine semH_bind (semH_pure ?_)
    simp only [hwr]
    rw [if_neg (by omega)]
    refine semH_bytes heb fun i0 hi0 => ?_
    have hkb : (k : Int) * (by' : Int) ≤ 4000000000 := by
      have h1 : k * by' ≤ 4000000000 := Nat.le_trans (Nat.mul_le_mul hk hb2) (by decide)
      have := Int.ofNat_le.2 h1
      rw [Int.natCast_mul] at this
      omega
    have e48 : (2 : Int) ^ 48 = 281474976710656 := by decide
    rw [if_neg (by rw [hi0, e48]; omega)]
    refine semH_bind (semH_pure ?_)
    simp only [Int.toNat_natCast, Nat.zero_add]
    rw [if_neg (by omega)]
    refine semH_bytes heb fun i hi => ?_
    rw [if_neg (by rintro ⟨hh, _⟩; revert hh; simp only [IntKind.max]; intro hh; revert hh; simp [IntKind.signed, IntKind.bits]; omega)]
    have hbig : Builtin.nextslicecap k 0 * by' ≤ 2 ^ 48 := by
      have h1 := nextslicecap_le (need := k) (cap := 0) (by omega)
      calc _ ≤ 9000000 * 1000 := Nat.mul_le_mul (by omega) hb2
        _ ≤ _ := by decide
    refine semH_bytes heb fun i2 hi2 => ?_
    rw [if_neg (by rw [hi2]; omega)]
    refine semH_bind (semH_choose fun n => ?_)
    obtain ⟨newCap, hnc, hge⟩ : ∃ nc, (if (Question.appendCap k 0 e).forced = true then 0 else (Question.appendCap k 0 e).cut n) = nc ∧ k ≤ nc := ⟨_, rfl, by
      simp only [Question.forced, Bool.false_eq_true, if_false, Question.cut]; omega⟩
    rw [hnc]
    refine semH_bytes heb fun i3 hi3 => ?_
    refine semH_bind (semH_askRoom ?_)
    refine semH_bind (semH_pure ?_)
    have hne : ¬ k * En.sz = 0 := by
      intro h0
      rcases Nat.mul_eq_zero.1 h0 with h | h <;> omega
    simp only [Bool.not_true, Bool.false_eq_true, if_false]
    rw [if_neg hne]
    refine semH_bind (semH_bind (semH_zero hz.h fun z0 hz0 => semH_pure ?_))
    refine semH_bind (semH_zero hz.h fun z' hz2 => ?_)
    unfold newRow
    refine semH_bind (semH_bind (semH_new fun b => semH_pure (semH_pure ?_)))
    have hes : (En.enc u).size = En.sz := En.size u
    have hzr : ∀ q, (Builtin.zeroCells (En.enc u) q).toList = rowL (List.replicate q u) := fun q => by
      have h1 := (isRow_zero (En := En) (zs := En.enc u) (u := u) rfl q).rowL
      have h2 : ((Array.range (q * En.sz)).map ((En.enc u)[· % (En.enc u).size]!)).extract 0 (0 + (List.replicate q u).length * En.sz) = (Array.range (q * En.sz)).map ((En.enc u)[· % (En.enc u).size]!) := by
        rw [List.length_replicate, Nat.zero_add]
        apply Array.extract_eq_self_of_le
        simp
      rw [h2] at h1
      unfold Builtin.zeroCells
      rw [hes] at *
      rw [h1]
    generalize hcells : (#[] ++ Builtin.zeroCells z0.cells k ++ Builtin.zeroCells z'.cells (newCap - k) : Array Value) = c
    rw [hz0, hz2, hcs] at hcells
    have hl : c.toList = rowL (List.replicate k u) ++ rowL (List.replicate (newCap - k) u) := by
      rw [← hcells]
      simp [hzr]
    have hcsz : c.size = newCap * En.sz := by
      rw [← Array.length_toList, hl, List.length_append, rowL_length, rowL_length, List.length_replicate, List.length_replicate, ← Nat.add_mul, Nat.add_sub_cancel' hge]
    have hrow : IsRow c 0 (List.replicate k u) := isRow_of (l := []) (r := rowL (List.replicate (newCap - k) u)) (by simpa using hl)
    have := Own.some (b := b) (cap := newCap) (ty := e) hrow hcsz (by simpa using hge)
    rw [List.length_replicate] at this
    exact semH_pure ⟨_, .inl rfl, _, this, rfl⟩
  · rintro v _ ⟨Δ, ho, rfl⟩
    exact ⟨Z, fun _ hz => ⟨fun _ => List.Sublist.refl _, hz.trans (List.sublist_append_right _ _)⟩, h v Δ ho⟩
end
instance : StrT 9 := ⟨by kernel_rfl⟩
end Go.Proofs.YtpnnmklacialgaaGreat
namespace Go.Proofs.YtpnnmklacialgaaGreat
open Go.Conc
attribute [local irreducible] WP OpF OpX CallW SemH retQ AnyF RoundW

/-! numbers of a list -/
def at0 (l : List Int) (i : Nat) : Int := l.getD i 0
theorem at0_get {l : List Int} {i : Nat} (h : i < l.length) : l[i] = at0 l i := by
  unfold at0
  rw [List.getD_eq_getElem?_getD, List.getElem?_eq_getElem h]
  rfl
theorem at0_set {l : List Int} {i j : Nat} {v : Int} (h : j < l.length) : at0 (l.set j v) i = if i = j then v else at0 l i := by
  unfold at0
  rw [List.getD_eq_getElem?_getD, List.getD_eq_getElem?_getD, List.getElem?_set]
  by_cases e : j = i
  · subst e
    rw [if_pos rfl, if_pos h, if_pos rfl]
    rfl
  · rw [if_neg e, if_neg (Ne.symm e)]
theorem swap_perm (l : List Int) (i j : Nat) (hi : i < l.length) (hj : j < l.length) : ((l.set i l[j]).set j l[i]).Perm l := by
  have h := Array.swap_perm (xs := l.toArray) (i := i) (j := j) (by simpa using hi) (by simpa using hj)
  rw [Array.perm_iff_toList_perm] at h
  simpa [Array.swap] using h
/-- Two numbers change places. -/
def sw (l : List Int) (i j : Nat) : List Int := (l.set i (at0 l j)).set j (at0 l i)
theorem sw_len {l : List Int} {i j : Nat} : (sw l i j).length = l.length := by simp [sw]
theorem sw_perm {l : List Int} {i j : Nat} (hi : i < l.length) (hj : j < l.length) : (sw l i j).Perm l := by
  unfold sw
  rw [← at0_get hi, ← at0_get hj]
  exact swap_perm l i j hi hj
theorem at0_sw {l : List Int} {i j x : Nat} (hi : i < l.length) (hj : j < l.length) : at0 (sw l i j) x = if x = j then at0 l i else if x = i then at0 l j else at0 l x := by
  unfold sw
  rw [at0_set (by simpa using hj), at0_set hi]
/-- ys is xs with the numbers from lo up to hi in another order. -/
structure Seg (lo hi : Nat) (xs ys : List Int) : Prop where
  len : ys.length = xs.length
  perm : ys.Perm xs
  out : ∀ i, i < lo ∨ hi ≤ i → at0 ys i = at0 xs i
theorem Seg.refl (lo hi : Nat) (xs : List Int) : Seg lo hi xs xs := ⟨rfl, List.Perm.refl _, fun _ _ => rfl⟩
theorem Seg.trans {lo hi : Nat} {a b c : List Int} (h : Seg lo hi a b) (k : Seg lo hi b c) : Seg lo hi a c := ⟨k.len.trans h.len, k.perm.trans h.perm, fun i hi => (k.out i hi).trans (h.out i hi)⟩
theorem Seg.mono {lo hi lo' hi' : Nat} {a b : List Int} (h : Seg lo hi a b) (h1 : lo' ≤ lo) (h2 : hi ≤ hi') : Seg lo' hi' a b := ⟨h.len, h.perm, fun i hi => h.out i (by omega)⟩
theorem Seg.sw {lo hi i j : Nat} {l : List Int} (hi1 : lo ≤ i) (hi2 : i < hi) (hj1 : lo ≤ j) (hj2 : j < hi) (hl : hi ≤ l.length) : Seg lo hi l (sw l i j) :=
  ⟨sw_len, sw_perm (by omega) (by omega), fun x hx => by rw [at0_sw (by omega) (by omega), if_neg (by omega), if_neg (by omega)]⟩
def SrtOn (lo hi : Nat) (l : List Int) : Prop := ∀ p q, lo ≤ p → p < q → q < hi → at0 l p ≤ at0 l q
/-- Sorted from lo up to i, but for the number at j, which goes down. -/
structure Alm (lo i j : Nat) (l : List Int) : Prop where
  a : ∀ p q, lo ≤ p → p < q → q ≤ i → p ≠ j → q ≠ j → at0 l p ≤ at0 l q
  b : ∀ q, j < q → q ≤ i → at0 l j ≤ at0 l q
theorem Alm.start {lo i : Nat} {l : List Int} (h : SrtOn lo i l) : Alm lo i i l := ⟨fun p q h1 h2 h3 h4 h5 => h p q h1 h2 (by omega), fun q h1 h2 => absurd h1 (by omega)⟩
theorem Alm.step {lo i j : Nat} {l : List Int} (h : Alm lo i j l) (hj : lo < j) (hji : j ≤ i) (hl : i < l.length) (hlt : at0 l j < at0 l (j - 1)) : Alm lo i (j - 1) (sw l j (j - 1)) := by
  have hs : ∀ x, at0 (sw l j (j - 1)) x = if x = j - 1 then at0 l j else if x = j then at0 l (j - 1) else at0 l x := fun x => at0_sw (by omega) (by omega)
  refine ⟨fun p q h1 h2 h3 h4 h5 => ?_, fun q h1 h2 => ?_⟩
  · rw [hs, hs, if_neg h4, if_neg h5]
    by_cases e1 : p = j
    · subst e1
      rw [if_pos rfl, if_neg (by omega)]
      have := h.a (p - 1) q (by omega) (by omega) h3 (by omega) (by omega)
      exact this
    · rw [if_neg e1]
      by_cases e2 : q = j
      · subst e2
        rw [if_pos rfl]
        by_cases e3 : p = q - 1
        · exact absurd e3 h4
        · exact h.a p (q - 1) h1 (by omega) (by omega) (by omega) (by omega)
      · rw [if_neg e2]
        exact h.a p q h1 h2 h3 e1 e2
  · rw [hs, hs, if_pos rfl, if_neg (by omega)]
    by_cases e2 : q = j
    · rw [if_pos e2]; omega
    · rw [if_neg e2]
      exact h.b q (by omega) h2
theorem Alm.done {lo i j : Nat} {l : List Int} (h : Alm lo i j l) (hj : lo ≤ j) (hji : j ≤ i) (he : j = lo ∨ at0 l (j - 1) ≤ at0 l j) : SrtOn lo (i + 1) l := by
  intro p q h1 h2 h3
  by_cases e1 : p = j
  · subst e1; exact h.b q h2 (by omega)
  · by_cases e2 : q = j
    · subst e2
      rcases he with he | he
      · omega
      · by_cases e3 : p = q - 1
        · subst e3; exact he
        · have := h.a p (q - 1) h1 (by omega) (by omega) e1 (by omega)
          omega
    · exact h.a p q h1 h2 (by omega) e1 e2

theorem c161 (E : Env) (S : Ents) (a : Int) : CallW Tryz.prog E 161 #[iv a] S fun r S' => r = .bool false ∧ S' = S := by
  refine call_in (args := [iv a]) Tryz.func161 (by decide) rfl rfl ?_
  repeat' first|(refine gX ?_;first|refine o_v rfl rfl ?_|(refine o_splitD rfl rfl rfl ?_ ?_<;>intro h)|(refine o_split rfl rfl rfl ?_ ?_<;>intro h<;>fail_if_success exact Bool.noConfusion h)|(refine gL ?_;first|refine o_load rfl rfl rfl rfl ?_|refine o_loadR rfl rfl rfl (by omega) rfl rfl ?_|refine o_loadW rfl rfl rfl rfl ?_|refine o_loadK rfl rfl rfl ?_)|(refine gF ?_;first|refine o_fieldI rfl rfl rfl rfl ?_|refine o_field rfl rfl rfl rfl ?_)|(refine gB ?_;first|refine o_add rfl rfl rfl rfl (by omega) ?_|refine o_sub rfl rfl rfl rfl (by omega) ?_|refine o_eqNil rfl rfl rfl rfl rfl ?_)|(refine gI ?_;first|refine o_indexS rfl rfl rfl rfl rfl rfl (by omega) ?_|refine o_index rfl rfl rfl rfl rfl (by omega) ?_)|(refine gS ?_;first|refine o_store rfl rfl rfl rfl rfl rfl ?_|refine o_storeW rfl rfl rfl rfl rfl rfl ?_)|(refine o_allocZ rfl rfl ?_;intro _)|(refine o_box rfl rfl rfl ?_;intro _)|refine o_skip rfl rfl ?_|refine o_skipN rfl rfl ?_|refine o_iface rfl rfl rfl ?_|refine o_build rfl rfl rfl rfl rfl ?_|(refine o_bslice rfl rfl rfl rfl rfl rfl rfl ?_;intro _)|(refine o_splitP rfl ?_ ?_<;>intro h<;>fail_if_success exact Bool.noConfusion h))|refine o_head0 rfl ?_|refine o_end ?_|refine o_head1 rfl ?_|refine wp_seq ?_|refine o_region ?_|refine wp_block ?_|refine wp_skip ?_|refine wp_exit ?_|(refine w_condD rfl ?_ ?_<;>intro h)|(refine w_cond rfl ?_ ?_<;>intro h<;>try exact Bool.noConfusion h)|refine w_ret (S) (vs:=[_]) rfl (Res.tmp rfl Res.nil) ?_
  all_goals(simp_all [pack]<;>(try omega))
theorem c201 (E : Env) (S : Ents) (a b : Int) : CallW Tryz.prog E 201 #[iv a, iv b] S fun r S' => r = .bool (decide (a < b)) ∧ S' = S := by
  refine call_in (args := [iv a, iv b]) Tryz.func201 (by decide) rfl rfl ?_
  repeat' first|(refine gX ?_;first|refine o_v rfl rfl ?_|(refine o_splitD rfl rfl rfl ?_ ?_<;>intro h)|(refine o_split rfl rfl rfl ?_ ?_<;>intro h<;>fail_if_success exact Bool.noConfusion h)|(refine gL ?_;first|refine o_load rfl rfl rfl rfl ?_|refine o_loadR rfl rfl rfl (by omega) rfl rfl ?_|refine o_loadW rfl rfl rfl rfl ?_|refine o_loadK rfl rfl rfl ?_)|(refine gF ?_;first|refine o_fieldI rfl rfl rfl rfl ?_|refine o_field rfl rfl rfl rfl ?_)|(refine gB ?_;first|refine o_add rfl rfl rfl rfl (by omega) ?_|refine o_sub rfl rfl rfl rfl (by omega) ?_|refine o_eqNil rfl rfl rfl rfl rfl ?_)|(refine gC ?_;first|refine o_callF rfl rfl rfl (c161 _ _ _) ?_)|(refine gI ?_;first|refine o_indexS rfl rfl rfl rfl rfl rfl (by omega) ?_|refine o_index rfl rfl rfl rfl rfl (by omega) ?_)|(refine gS ?_;first|refine o_store rfl rfl rfl rfl rfl rfl ?_|refine o_storeW rfl rfl rfl rfl rfl rfl ?_)|(refine o_allocZ rfl rfl ?_;intro _)|(refine o_box rfl rfl rfl ?_;intro _)|refine o_skip rfl rfl ?_|refine o_skipN rfl rfl ?_|refine o_iface rfl rfl rfl ?_|refine o_build rfl rfl rfl rfl rfl ?_|(refine o_bslice rfl rfl rfl rfl rfl rfl rfl ?_;intro _)|(refine o_splitP rfl ?_ ?_<;>intro h<;>fail_if_success exact Bool.noConfusion h))|refine o_head0 rfl ?_|refine o_end ?_|refine o_head1 rfl ?_|refine wp_seq ?_|refine o_region ?_|refine wp_block ?_|refine wp_skip ?_|refine wp_exit ?_|(refine w_condD rfl ?_ ?_<;>intro h)|(refine w_cond rfl ?_ ?_<;>intro h<;>try exact Bool.noConfusion h)|refine w_ret (S) (vs:=[_]) rfl (Res.tmp rfl Res.nil) ?_
  all_goals(simp_all [pack]<;>(try omega))
theorem c205 (E : Env) (S : Ents) (a : Int) : CallW Tryz.prog E 205 #[.int .u64 a] S fun r S' => (∃ k : Nat, k ≤ 400 ∧ r = iv k) ∧ S' = S := by
  refine call_in (args := [.int .u64 a]) Tryz.func205 (by decide) rfl rfl ?_
  have hw : ∀ q : Int, 0 ≤ IntKind.u8.wrap q ∧ IntKind.u8.wrap q ≤ 255 := fun q => by
    unfold IntKind.wrap
    simp [IntKind.signed, IntKind.bits]
    omega
  repeat' first|(refine gX ?_;first|refine o_v rfl rfl ?_|(refine o_splitD rfl rfl rfl ?_ ?_<;>intro h)|(refine o_split rfl rfl rfl ?_ ?_<;>intro h<;>fail_if_success exact Bool.noConfusion h)|(refine gL ?_;first|refine o_load rfl rfl rfl rfl ?_|refine o_loadR rfl rfl rfl (by omega) rfl rfl ?_|refine o_loadW rfl rfl rfl rfl ?_|refine o_loadK rfl rfl rfl ?_)|(refine gF ?_;first|refine o_fieldI rfl rfl rfl rfl ?_|refine o_field rfl rfl rfl rfl ?_)|(refine gB ?_;first|refine o_add rfl rfl rfl rfl (by omega) ?_|refine o_sub rfl rfl rfl rfl (by omega) ?_|refine o_eqNil rfl rfl rfl rfl rfl ?_)|(refine gI ?_;first|refine o_indexS rfl rfl rfl rfl rfl rfl (by omega) ?_|refine o_index rfl rfl rfl rfl rfl (by omega) ?_)|(refine gS ?_;first|refine o_store rfl rfl rfl rfl rfl rfl ?_|refine o_storeW rfl rfl rfl rfl rfl rfl ?_)|refine o_shr rfl rfl rfl rfl (by decide +kernel) ?_|(refine o_idxStr rfl rfl rfl rfl (hw _) (by decide +kernel) ?_;intro bb hbb)|refine o_conv rfl rfl rfl rfl rfl (wrap_in (by omega) (by omega)) ?_|refine o_conv rfl rfl rfl rfl rfl rfl ?_|(refine o_allocZ rfl rfl ?_;intro _)|(refine o_box rfl rfl rfl ?_;intro _)|refine o_skip rfl rfl ?_|refine o_skipN rfl rfl ?_|refine o_iface rfl rfl rfl ?_|refine o_build rfl rfl rfl rfl rfl ?_|(refine o_bslice rfl rfl rfl rfl rfl rfl rfl ?_;intro _)|(refine o_splitP rfl ?_ ?_<;>intro h<;>fail_if_success exact Bool.noConfusion h))|refine o_head0 rfl ?_|refine o_end ?_|refine o_head1 rfl ?_|refine wp_seq ?_|refine o_region ?_|refine wp_block ?_|refine wp_skip ?_|refine wp_exit ?_|(refine w_condD rfl ?_ ?_<;>intro h)|(refine w_cond rfl ?_ ?_<;>intro h<;>try exact Bool.noConfusion h)|refine w_ret (S) (vs:=[_]) rfl (Res.tmp rfl Res.nil) ?_
  all_goals refine ⟨⟨_, ?_, rfl⟩, rfl⟩
  all_goals exact Nat.le_trans (Nat.add_le_add_left hbb _) (by decide)
theorem c189 (E : Env) (S : Ents) (a : Int) : CallW Tryz.prog E 189 #[.int .u64 a] S fun r S' => (∃ k : Nat, k ≤ 400 ∧ r = iv k) ∧ S' = S := by
  refine call_in (args := [.int .u64 a]) Tryz.func189 (by decide) rfl rfl ?_
  repeat' first|(refine gX ?_;first|refine o_v rfl rfl ?_|(refine o_splitD rfl rfl rfl ?_ ?_<;>intro h)|(refine o_split rfl rfl rfl ?_ ?_<;>intro h<;>fail_if_success exact Bool.noConfusion h)|(refine gL ?_;first|refine o_load rfl rfl rfl rfl ?_|refine o_loadR rfl rfl rfl (by omega) rfl rfl ?_|refine o_loadW rfl rfl rfl rfl ?_|refine o_loadK rfl rfl rfl ?_)|(refine gF ?_;first|refine o_fieldI rfl rfl rfl rfl ?_|refine o_field rfl rfl rfl rfl ?_)|(refine gB ?_;first|refine o_add rfl rfl rfl rfl (by omega) ?_|refine o_sub rfl rfl rfl rfl (by omega) ?_|refine o_eqNil rfl rfl rfl rfl rfl ?_)|(refine gC ?_;first|(refine o_callZ rfl rfl rfl (c205 _ _ _) ?_;rintro r S1 ⟨⟨k, hk, rfl⟩, rfl⟩;refine ⟨inferInstance, ?_⟩))|(refine gI ?_;first|refine o_indexS rfl rfl rfl rfl rfl rfl (by omega) ?_|refine o_index rfl rfl rfl rfl rfl (by omega) ?_)|(refine gS ?_;first|refine o_store rfl rfl rfl rfl rfl rfl ?_|refine o_storeW rfl rfl rfl rfl rfl rfl ?_)|(refine o_allocZ rfl rfl ?_;intro _)|(refine o_box rfl rfl rfl ?_;intro _)|refine o_skip rfl rfl ?_|refine o_skipN rfl rfl ?_|refine o_iface rfl rfl rfl ?_|refine o_build rfl rfl rfl rfl rfl ?_|(refine o_bslice rfl rfl rfl rfl rfl rfl rfl ?_;intro _)|(refine o_splitP rfl ?_ ?_<;>intro h<;>fail_if_success exact Bool.noConfusion h))|refine o_head0 rfl ?_|refine o_end ?_|refine o_head1 rfl ?_|refine wp_seq ?_|refine o_region ?_|refine wp_block ?_|refine wp_skip ?_|refine wp_exit ?_|(refine w_condD rfl ?_ ?_<;>intro h)|(refine w_cond rfl ?_ ?_<;>intro h<;>try exact Bool.noConfusion h)|refine w_retA (vs:=[_]) rfl (Res.tmp rfl Res.nil) ?_|refine w_ret (S) (vs:=[_]) rfl (Res.tmp rfl Res.nil) ?_
  exact ⟨⟨k, hk, rfl⟩, rfl⟩
theorem c195 (E : Env) (S0 Δ : Ents) (xs : List Int) (a : Option Addr) (len cap lo hi : Nat) (ho : Own (.slice a len cap) xs Δ) (hlh : lo ≤ hi) (hh : hi ≤ xs.length) (hm : xs.length ≤ 4000000) :
    CallW Tryz.prog E 195 #[.slice a len cap, iv lo, iv hi] (Δ ++ S0) fun r S' => ∃ ys Δ', Own (.slice a len cap) ys Δ' ∧ Seg lo hi xs ys ∧ SrtOn lo hi ys ∧ S' = Δ' ++ S0 := by
  have hlen : len = xs.length := by obtain ⟨_, _, h, _⟩ := ho.slv; cases h; rfl
  refine call_in (args := [.slice a len cap, iv lo, iv hi]) Tryz.func195 (by decide) rfl rfl ?_
  repeat' first|(refine gX ?_;first|refine o_v rfl rfl ?_|(refine o_splitD rfl rfl rfl ?_ ?_<;>intro h)|(refine o_split rfl rfl rfl ?_ ?_<;>intro h<;>fail_if_success exact Bool.noConfusion h)|(refine gL ?_;first|refine o_load rfl rfl rfl rfl ?_|refine o_loadR rfl rfl rfl (by omega) rfl rfl ?_|refine o_loadW rfl rfl rfl rfl ?_|refine o_loadK rfl rfl rfl ?_)|(refine gF ?_;first|refine o_fieldI rfl rfl rfl rfl ?_|refine o_field rfl rfl rfl rfl ?_)|(refine gB ?_;first|refine o_add rfl rfl rfl rfl (by omega) ?_|refine o_sub rfl rfl rfl rfl (by omega) ?_|refine o_eqNil rfl rfl rfl rfl rfl ?_)|(refine gI ?_;first|refine o_indexS rfl rfl rfl rfl rfl rfl (by omega) ?_|refine o_index rfl rfl rfl rfl rfl (by omega) ?_)|(refine gS ?_;first|refine o_store rfl rfl rfl rfl rfl rfl ?_|refine o_storeW rfl rfl rfl rfl rfl rfl ?_)|(refine o_allocZ rfl rfl ?_;intro _)|(refine o_box rfl rfl rfl ?_;intro _)|refine o_skip rfl rfl ?_|refine o_skipN rfl rfl ?_|refine o_iface rfl rfl rfl ?_|refine o_build rfl rfl rfl rfl rfl ?_|(refine o_bslice rfl rfl rfl rfl rfl rfl rfl ?_;intro _)|(refine o_splitP rfl ?_ ?_<;>intro h<;>fail_if_success exact Bool.noConfusion h))|refine o_head0 rfl ?_|refine o_end ?_|refine o_head1 rfl ?_|refine wp_seq ?_|refine o_region ?_|refine wp_block ?_|refine wp_skip ?_|refine wp_exit ?_|(refine w_condD rfl ?_ ?_<;>intro h)|(refine w_cond rfl ?_ ?_<;>intro h<;>try exact Bool.noConfusion h)|refine w_ret (S) (vs:=[]) rfl Res.nil ?_|(show WP _ _ _ _ (.region 4 _ true) _ _ _ _;refine o_drawnZ [(0, false), (1, false), (2, false), (3, false), (4, false), (5, false), (6, false), (7, false), (8, false), (9, false), (10, false), (11, false), (12, false), (13, true), (14, false)] [] mixed (by kernel_rfl) (List.nil_sublist _) ?_)|(show WP _ _ _ _ (.region 6 _ true) _ _ _ _;refine o_drawnZ [(0, false), (1, false), (2, true), (3, true), (4, true), (5, false), (6, false), (7, false), (8, false), (9, false), (10, false), (11, false), (12, false), (13, false), (14, false), (15, false), (16, false), (17, true)] [] mixed (by kernel_rfl) (List.nil_sublist _) ?_)
  refine wp_loop (fun m t ds S' => ∃ (i : Nat) (t0 : Tm) (ys : List Int) (Δ : Ents), m = hi + 1 - i ∧ lo < i ∧ (i ≤ hi ∨ i = lo + 1) ∧ [] = ds ∧ Δ ++ S0 = S' ∧ t = den [(6, iv i), (0, .slice a len cap), (1, iv lo), (2, iv hi)] t0 ∧ Own (.slice a len cap) ys Δ ∧ Seg lo hi xs ys ∧ SrtOn lo i ys)
    _ ⟨lo + 1, _, xs, Δ, rfl, by omega, .inr rfl, rfl, rfl, keep ⟨rfl, rfl, rfl, rfl, trivial⟩, ho, Seg.refl _ _ _, fun p q h1 h2 h3 => absurd h1 (by omega)⟩ ?_
  clear ho
  rintro m t ds S' ⟨i, t0, ys, Δ, rfl, hi1, hi2, rfl, rfl, rfl, ho, hsg, hst⟩
  repeat' first|(refine gX ?_;first|refine o_v rfl rfl ?_|(refine o_splitD rfl rfl rfl ?_ ?_<;>intro h)|(refine o_split rfl rfl rfl ?_ ?_<;>intro h<;>fail_if_success exact Bool.noConfusion h)|(refine gL ?_;first|refine o_load rfl rfl rfl rfl ?_|refine o_loadR rfl rfl rfl (by omega) rfl rfl ?_|refine o_loadW rfl rfl rfl rfl ?_|refine o_loadK rfl rfl rfl ?_)|(refine gF ?_;first|refine o_fieldI rfl rfl rfl rfl ?_|refine o_field rfl rfl rfl rfl ?_)|(refine gB ?_;first|refine o_add rfl rfl rfl rfl (by omega) ?_|refine o_sub rfl rfl rfl rfl (by omega) ?_|refine o_eqNil rfl rfl rfl rfl rfl ?_)|(refine gI ?_;first|refine o_indexS rfl rfl rfl rfl rfl rfl (by omega) ?_|refine o_index rfl rfl rfl rfl rfl (by omega) ?_)|(refine gS ?_;first|refine o_store rfl rfl rfl rfl rfl rfl ?_|refine o_storeW rfl rfl rfl rfl rfl rfl ?_)|(refine o_allocZ rfl rfl ?_;intro _)|(refine o_box rfl rfl rfl ?_;intro _)|refine o_skip rfl rfl ?_|refine o_skipN rfl rfl ?_|refine o_iface rfl rfl rfl ?_|refine o_build rfl rfl rfl rfl rfl ?_|(refine o_bslice rfl rfl rfl rfl rfl rfl rfl ?_;intro _)|(refine o_splitP rfl ?_ ?_<;>intro h<;>fail_if_success exact Bool.noConfusion h))|refine o_head0 rfl ?_|refine o_end ?_|refine o_head1 rfl ?_|refine wp_seq ?_|refine o_region ?_|refine wp_block ?_|refine wp_skip ?_|refine wp_exit ?_|(refine w_condD rfl ?_ ?_<;>intro h)|(refine w_cond rfl ?_ ?_<;>intro h<;>try exact Bool.noConfusion h)|refine w_retA (vs:=[]) rfl Res.nil ?_|refine w_ret (S) (vs:=[]) rfl Res.nil ?_|(show WP _ _ _ _ (.region 4 _ true) _ _ _ _;refine o_drawnZ [(0, false), (1, false), (2, false), (3, false), (4, false), (5, false), (6, false), (7, false), (8, false), (9, false), (10, false), (11, false), (12, false), (13, true), (14, false)] [] mixed (by kernel_rfl) (List.nil_sublist _) ?_)|(show WP _ _ _ _ (.region 6 _ true) _ _ _ _;refine o_drawnZ [(0, false), (1, false), (2, true), (3, true), (4, true), (5, false), (6, false), (7, false), (8, false), (9, false), (10, false), (11, false), (12, false), (13, false), (14, false), (15, false), (16, false), (17, true)] [] mixed (by kernel_rfl) (List.nil_sublist _) ?_)
  · refine wp_loop (fun m t ds S' => ∃ (j : Nat) (t0 : Tm) (ys : List Int) (Δ : Ents), m = j - lo ∧ lo ≤ j ∧ j ≤ i ∧ [] = ds ∧ Δ ++ S0 = S' ∧ t = den [(7, iv j), (6, iv i), (0, .slice a len cap), (1, iv lo), (2, iv hi)] t0 ∧ Own (.slice a len cap) ys Δ ∧ Seg lo hi xs ys ∧ Alm lo i j ys)
      _ ⟨i, _, ys, Δ, rfl, by omega, Nat.le_refl _, rfl, rfl, keep ⟨rfl, rfl, rfl, rfl, rfl, trivial⟩, ho, hsg, Alm.start hst⟩ ?_
    clear ho hsg hst
    rintro m t ds S' ⟨j, t0, ys, Δ, rfl, hj1, hj2, rfl, rfl, rfl, ho, hsg, hst⟩
    obtain ⟨_, hrt⟩ := ho.sla
    have i6 := SlI.mk hrt
    have hyl := hsg.len
    repeat' first|(refine gX ?_;first|refine o_v rfl rfl ?_|(refine o_splitD rfl rfl rfl ?_ ?_<;>intro h)|(refine o_split rfl rfl rfl ?_ ?_<;>intro h<;>fail_if_success exact Bool.noConfusion h)|(refine gL ?_;first|refine o_load rfl rfl rfl rfl ?_|refine o_loadR rfl rfl rfl (by omega) rfl rfl ?_|refine o_loadW rfl rfl rfl rfl ?_|refine o_loadK rfl rfl rfl ?_)|(refine gF ?_;first|refine o_fieldI rfl rfl rfl rfl ?_|refine o_field rfl rfl rfl rfl ?_)|(refine gB ?_;first|refine o_add rfl rfl rfl rfl (by omega) ?_|refine o_sub rfl rfl rfl rfl (by omega) ?_|refine o_eqNil rfl rfl rfl rfl rfl ?_)|(refine gC ?_;first|refine o_callF rfl rfl rfl (c201 _ _ _ _) ?_)|(refine gI ?_;first|refine o_indexZ (j - 1) rfl rfl rfl rfl rfl (hlen.trans hyl.symm) (by omega) (by omega) ?_|refine o_indexS rfl rfl rfl rfl rfl (hlen.trans hyl.symm) (by omega) ?_|refine o_indexZ (j - 1) rfl rfl rfl rfl rfl ((hlen.trans hyl.symm).trans List.length_set.symm) (by omega) (by rw [List.length_set]; omega) ?_|refine o_indexS rfl rfl rfl rfl rfl rfl (by omega) ?_|refine o_index rfl rfl rfl rfl rfl (by omega) ?_)|(refine gS ?_;first|(refine o_storeO (ys[j - 1]'(by first|done|omega)) rfl rfl rfl ho (by omega) rfl rfl rfl rfl ?_;intro Δ2 ho2;refine ⟨_, inferInstance, ?_⟩;obtain ⟨_, hrt2⟩ := ho2.sla;have i7 := SlI.mk hrt2)|(refine o_storeO (ys[j]'(by first|done|omega)) rfl rfl rfl ho2 (by rw [List.length_set]; omega) rfl rfl rfl rfl ?_;intro Δ3 ho3;refine ⟨_, inferInstance, ?_⟩)|refine o_store rfl rfl rfl rfl rfl rfl ?_|refine o_storeW rfl rfl rfl rfl rfl rfl ?_)|(refine o_allocZ rfl rfl ?_;intro _)|(refine o_box rfl rfl rfl ?_;intro _)|refine o_skip rfl rfl ?_|refine o_skipN rfl rfl ?_|refine o_iface rfl rfl rfl ?_|refine o_build rfl rfl rfl rfl rfl ?_|(refine o_bslice rfl rfl rfl rfl rfl rfl rfl ?_;intro _)|(refine o_splitP rfl ?_ ?_<;>intro h<;>fail_if_success exact Bool.noConfusion h))|refine o_head0 rfl ?_|refine o_end ?_|refine o_head1 rfl ?_|refine wp_seq ?_|refine o_region ?_|refine wp_block ?_|refine wp_skip ?_|refine wp_exit ?_|(refine w_condD rfl ?_ ?_<;>intro h)|(refine w_cond rfl ?_ ?_<;>intro h<;>try exact Bool.noConfusion h)|refine w_ret (S) (vs:=[]) rfl Res.nil ?_|(show WP _ _ _ _ (.region 4 _ true) _ _ _ _;refine o_drawnZ [(0, false), (1, false), (2, false), (3, false), (4, false), (5, false), (6, false), (7, false), (8, false), (9, false), (10, false), (11, false), (12, false), (13, true), (14, false)] [] mixed (by kernel_rfl) (List.nil_sublist _) ?_)|(show WP _ _ _ _ (.region 6 _ true) _ _ _ _;refine o_drawnZ [(0, false), (1, false), (2, true), (3, true), (4, true), (5, false), (6, false), (7, false), (8, false), (9, false), (10, false), (11, false), (12, false), (13, false), (14, false), (15, false), (16, false), (17, true)] [] mixed (by kernel_rfl) (List.nil_sublist _) ?_)
    · simp only [at0_get] at ho3 h
      exact ⟨j - 1 - lo, by omega, _, List.Sublist.refl _, j - 1, _, _, Δ3, rfl, by omega, by omega, rfl, rfl, keep ⟨congrArg (fun q : Int => some (iv q)) (show (j : Int) - 1 = ((j - 1 : Nat) : Int) by omega), rfl, rfl, rfl, rfl, trivial⟩, ho3, hsg.trans (Seg.sw (by omega) (by omega) (by omega) (by omega) (by omega)), hst.step (by omega) hj2 (by omega) h⟩
    · simp only [at0_get] at h
      exact ⟨hi + 1 - (i + 1), by omega, _, List.Sublist.refl _, i + 1, _, _, Δ, rfl, by omega, .inl (by omega), rfl, rfl, keep ⟨rfl, rfl, rfl, rfl, trivial⟩, ho, hsg, hst.done hj1 hj2 (.inr (by omega))⟩
    · exact ⟨hi + 1 - (i + 1), by omega, _, List.Sublist.refl _, i + 1, _, _, Δ, rfl, by omega, .inl (by omega), rfl, rfl, keep ⟨rfl, rfl, rfl, rfl, trivial⟩, ho, hsg, hst.done hj1 hj2 (.inl (by omega))⟩
  · refine w_fall (res_sem Res.nil ?_)
    exact ⟨ys, Δ, ho, hsg, fun p q h1 h2 h3 => hst p q h1 h2 (by omega), rfl⟩
/-- What is short is sorted by insertion. -/
theorem c188s (E : Env) (S0 Δ : Ents) (xs : List Int) (a : Option Addr) (len cap lo hi lim : Nat) (ho : Own (.slice a len cap) xs Δ) (hlh : lo ≤ hi) (hh : hi ≤ xs.length) (hm : xs.length ≤ 4000000) (h12 : hi ≤ lo + 12) :
    CallW Tryz.prog E 188 #[.slice a len cap, iv lo, iv hi, iv lim] (Δ ++ S0) fun r S' => ∃ ys Δ', Own (.slice a len cap) ys Δ' ∧ Seg lo hi xs ys ∧ SrtOn lo hi ys ∧ S' = Δ' ++ S0 := by
  refine call_in (args := [.slice a len cap, iv lo, iv hi, iv lim]) Tryz.func188 (by decide) rfl rfl ?_
  repeat' first|(refine gX ?_;first|refine o_v rfl rfl ?_|(refine o_splitD rfl rfl rfl ?_ ?_<;>intro h)|(refine o_split rfl rfl rfl ?_ ?_<;>intro h<;>fail_if_success exact Bool.noConfusion h)|(refine gL ?_;first|refine o_load rfl rfl rfl rfl ?_|refine o_loadR rfl rfl rfl (by omega) rfl rfl ?_|refine o_loadW rfl rfl rfl rfl ?_|refine o_loadK rfl rfl rfl ?_)|(refine gF ?_;first|refine o_fieldI rfl rfl rfl rfl ?_|refine o_field rfl rfl rfl rfl ?_)|(refine gB ?_;first|refine o_add rfl rfl rfl rfl (by omega) ?_|refine o_sub rfl rfl rfl rfl (by omega) ?_|refine o_eqNil rfl rfl rfl rfl rfl ?_)|(refine gI ?_;first|refine o_indexS rfl rfl rfl rfl rfl rfl (by omega) ?_|refine o_index rfl rfl rfl rfl rfl (by omega) ?_)|(refine gS ?_;first|refine o_store rfl rfl rfl rfl rfl rfl ?_|refine o_storeW rfl rfl rfl rfl rfl rfl ?_)|(refine o_allocZ rfl rfl ?_;intro _)|(refine o_box rfl rfl rfl ?_;intro _)|refine o_skip rfl rfl ?_|refine o_skipN rfl rfl ?_|refine o_iface rfl rfl rfl ?_|refine o_build rfl rfl rfl rfl rfl ?_|(refine o_bslice rfl rfl rfl rfl rfl rfl rfl ?_;intro _)|(refine o_splitP rfl ?_ ?_<;>intro h<;>fail_if_success exact Bool.noConfusion h))|refine o_head0 rfl ?_|refine o_end ?_|refine o_head1 rfl ?_|refine wp_seq ?_|refine o_region ?_|refine wp_block ?_|refine wp_skip ?_|refine wp_exit ?_|(refine w_condD rfl ?_ ?_<;>intro h)|(refine w_cond rfl ?_ ?_<;>intro h<;>try exact Bool.noConfusion h)|refine w_ret (S) (vs:=[]) rfl Res.nil ?_|(show WP _ _ _ _ (.region 17 _ true) _ _ _ _;refine o_drawnZ [(0, false), (1, false), (2, false), (3, false), (4, false), (5, false), (6, false), (7, false), (8, false), (9, false), (10, false), (11, false), (12, true), (13, false), (14, false)] [] mixed (by kernel_rfl) (List.nil_sublist _) ?_)
  refine wp_loop (fun m t ds S' => ∃ (t0 : Tm), m = 0 ∧ [] = ds ∧ Δ ++ S0 = S' ∧ t = den [(0, .slice a len cap), (1, iv lo), (2, iv hi), (3, iv lim)] t0) _ ⟨_, rfl, rfl, rfl, keep ⟨rfl, rfl, rfl, rfl, trivial⟩⟩ ?_
  rintro m t ds S' ⟨t0, rfl, rfl, rfl, rfl⟩
  repeat' first|(refine gX ?_;first|refine o_v rfl rfl ?_|(refine o_splitD rfl rfl rfl ?_ ?_<;>intro h)|(refine o_split rfl rfl rfl ?_ ?_<;>intro h<;>fail_if_success exact Bool.noConfusion h)|(refine gL ?_;first|refine o_load rfl rfl rfl rfl ?_|refine o_loadR rfl rfl rfl (by omega) rfl rfl ?_|refine o_loadW rfl rfl rfl rfl ?_|refine o_loadK rfl rfl rfl ?_)|(refine gF ?_;first|refine o_fieldI rfl rfl rfl rfl ?_|refine o_field rfl rfl rfl rfl ?_)|(refine gB ?_;first|refine o_add rfl rfl rfl rfl (by omega) ?_|refine o_sub rfl rfl rfl rfl (by omega) ?_|refine o_eqNil rfl rfl rfl rfl rfl ?_)|(refine gC ?_;first|(refine o_callZ rfl rfl rfl (c195 _ S0 Δ xs a len cap lo hi ho hlh hh hm) ?_;rintro r _ ⟨ys, Δ', ho', hsg, hst, rfl⟩;refine ⟨inferInstance, ?_⟩))|(refine gI ?_;first|refine o_indexS rfl rfl rfl rfl rfl rfl (by omega) ?_|refine o_index rfl rfl rfl rfl rfl (by omega) ?_)|(refine gS ?_;first|refine o_store rfl rfl rfl rfl rfl rfl ?_|refine o_storeW rfl rfl rfl rfl rfl rfl ?_)|(refine o_allocZ rfl rfl ?_;intro _)|(refine o_box rfl rfl rfl ?_;intro _)|refine o_skip rfl rfl ?_|refine o_skipN rfl rfl ?_|refine o_iface rfl rfl rfl ?_|refine o_build rfl rfl rfl rfl rfl ?_|(refine o_bslice rfl rfl rfl rfl rfl rfl rfl ?_;intro _)|(refine o_splitP rfl ?_ ?_<;>intro h<;>fail_if_success exact Bool.noConfusion h))|refine o_head0 rfl ?_|refine o_end ?_|refine o_head1 rfl ?_|(refine w_condD rfl ?_ ?_<;>intro h<;>try (exact absurd (by omega) h))|refine wp_seq ?_|refine o_region ?_|refine wp_block ?_|refine wp_skip ?_|refine wp_exit ?_|(refine w_condD rfl ?_ ?_<;>intro h)|(refine w_cond rfl ?_ ?_<;>intro h<;>try exact Bool.noConfusion h)|refine w_retA (vs:=[]) rfl Res.nil ?_|refine w_ret (S) (vs:=[]) rfl Res.nil ?_|(show WP _ _ _ _ (.region 17 _ true) _ _ _ _;refine o_drawnZ [(0, false), (1, false), (2, false), (3, false), (4, false), (5, false), (6, false), (7, false), (8, false), (9, false), (10, false), (11, false), (12, true), (13, false), (14, false)] [] mixed (by kernel_rfl) (List.nil_sublist _) ?_)
  exact ⟨ys, Δ', ho', hsg, hst, rfl⟩
/-- What Sort asks of its list. -/
def SortOk (xs : List Int) : Prop := ∀ (E : Env) (S0 Δ : Ents) (a : Option Addr) (cap lim : Nat), Own (.slice a xs.length cap) xs Δ → lim ≤ 400 →
    CallW Tryz.prog E 188 #[.slice a xs.length cap, iv (0 : Nat), iv xs.length, iv lim] (Δ ++ S0) fun r S' => ∃ ys Δ', Own (.slice a xs.length cap) ys Δ' ∧ Seg 0 xs.length xs ys ∧ SrtOn 0 xs.length ys ∧ S' = Δ' ++ S0
theorem sortOk_short {xs : List Int} (h : xs.length ≤ 12) : SortOk xs := fun E S0 Δ a cap lim ho hl => c188s E S0 Δ xs a _ cap 0 xs.length lim ho (Nat.zero_le _) (Nat.le_refl _) (by omega) (by omega)
def srtL (xs : List Int) : List Int := xs.mergeSort
theorem srtL_perm (xs : List Int) : (srtL xs).Perm xs := List.mergeSort_perm xs _
theorem srtL_len (xs : List Int) : (srtL xs).length = xs.length := (srtL_perm xs).length_eq
theorem srtL_pair (xs : List Int) : (srtL xs).Pairwise (fun a b => a ≤ b) := by
  have := List.pairwise_mergeSort (le := fun a b : Int => decide (a ≤ b)) (fun a b c h1 h2 => by simp at *; omega) (fun a b => by simp; omega) xs
  exact this.imp fun h => by simpa using h
theorem srtOn_pair {l : List Int} (h : SrtOn 0 l.length l) : l.Pairwise (fun a b => a ≤ b) := by
  rw [List.pairwise_iff_getElem]
  intro i j hi hj hij
  have := h i j (Nat.zero_le _) hij hj
  rwa [← at0_get hi, ← at0_get hj] at this
theorem srtL_eq {xs ys : List Int} (h1 : ys.Perm xs) (h2 : SrtOn 0 ys.length ys) : ys = srtL xs :=
  List.Perm.eq_of_pairwise (le := fun a b : Int => a ≤ b) (fun a b _ _ h1 h2 => by omega) (srtOn_pair h2) (srtL_pair xs) (h1.trans (srtL_perm xs).symm)
theorem c167 (E : Env) (S0 Δ : Ents) (xs : List Int) (a : Option Addr) (cap : Nat) (ho : Own (.slice a xs.length cap) xs Δ) (hs : SortOk xs) (hm : xs.length ≤ 4000000) :
    CallW Tryz.prog E 167 #[.slice a xs.length cap] (Δ ++ S0) fun r S' => ∃ Δ', Own (.slice a xs.length cap) (srtL xs) Δ' ∧ S' = Δ' ++ S0 := by
  refine call_in (args := [.slice a xs.length cap]) Tryz.func167 (by decide) rfl rfl ?_
  have hwr : IntKind.u64.wrap (xs.length : Int) = (xs.length : Int) := by
    unfold IntKind.wrap
    simp [IntKind.signed, IntKind.bits]
    omega
  repeat' first|(refine gX ?_;first|refine o_v rfl rfl ?_|(refine o_splitD rfl rfl rfl ?_ ?_<;>intro h)|(refine o_split rfl rfl rfl ?_ ?_<;>intro h<;>fail_if_success exact Bool.noConfusion h)|(refine gL ?_;first|refine o_load rfl rfl rfl rfl ?_|refine o_loadR rfl rfl rfl (by omega) rfl rfl ?_|refine o_loadW rfl rfl rfl rfl ?_|refine o_loadK rfl rfl rfl ?_)|(refine gF ?_;first|refine o_fieldI rfl rfl rfl rfl ?_|refine o_field rfl rfl rfl rfl ?_)|(refine gB ?_;first|refine o_add rfl rfl rfl rfl (by omega) ?_|refine o_sub rfl rfl rfl rfl (by omega) ?_|refine o_eqNil rfl rfl rfl rfl rfl ?_)|(refine gC ?_;first|(refine o_callZ rfl rfl rfl (c189 _ _ _) ?_;rintro r S1 ⟨⟨k, hk, rfl⟩, rfl⟩;refine ⟨inferInstance, ?_⟩)|(refine o_callZ rfl rfl rfl (hs _ S0 Δ a cap k ho hk) ?_;rintro r _ ⟨ys, Δ', ho', hsg, hst, rfl⟩;refine ⟨inferInstance, ?_⟩))|(refine gI ?_;first|refine o_indexS rfl rfl rfl rfl rfl rfl (by omega) ?_|refine o_index rfl rfl rfl rfl rfl (by omega) ?_)|(refine gS ?_;first|refine o_store rfl rfl rfl rfl rfl rfl ?_|refine o_storeW rfl rfl rfl rfl rfl rfl ?_)|refine o_conv rfl rfl rfl rfl rfl hwr ?_|(refine o_allocZ rfl rfl ?_;intro _)|(refine o_box rfl rfl rfl ?_;intro _)|refine o_skip rfl rfl ?_|refine o_skipN rfl rfl ?_|refine o_iface rfl rfl rfl ?_|refine o_build rfl rfl rfl rfl rfl ?_|(refine o_bslice rfl rfl rfl rfl rfl rfl rfl ?_;intro _)|(refine o_splitP rfl ?_ ?_<;>intro h<;>fail_if_success exact Bool.noConfusion h))|refine o_head0 rfl ?_|refine o_end ?_|refine o_head1 rfl ?_|refine wp_seq ?_|refine o_region ?_|refine wp_block ?_|refine wp_skip ?_|refine wp_exit ?_|(refine w_condD rfl ?_ ?_<;>intro h)|(refine w_cond rfl ?_ ?_<;>intro h<;>try exact Bool.noConfusion h)|refine w_retA (vs:=[]) rfl Res.nil ?_|refine w_ret (S) (vs:=[]) rfl Res.nil ?_
  refine w_fall (res_sem Res.nil ?_)
  rw [← srtL_eq hsg.perm (by rw [hsg.len]; exact hst)]
  exact ⟨Δ', ho', rfl⟩
end Go.Proofs.YtpnnmklacialgaaGreat
namespace Go.Proofs.YtpnnmklacialgaaGreat
open Go.Conc
attribute [local irreducible] WP OpF OpX CallW SemH retQ AnyF RoundW

theorem Own.front {a : Option Addr} {len cap i : Nat} {xs : List Int} {Δ : Ents} (h : Own (.slice a len cap) xs Δ) (hi : i ≤ xs.length) : Own (slVal a 1 0 i cap) (xs.take i) Δ := by
  have h1 := h.take hi
  have e : slVal a 1 0 i cap = .slice a i cap := by
    unfold slVal
    cases h with
    | nil => simp
    | some => simp [add_mk]
  rw [e]
  exact h1
theorem flat_len {xss : List (List Int)} {j : Nat} : (xss.take j).flatten.length ≤ xss.flatten.length := by
  conv => rhs; rw [← List.take_append_drop j xss]
  rw [List.flatten_append, List.length_append]
  omega
theorem flat_snoc {xss : List (List Int)} {j : Nat} (h : j < xss.length) : (xss.take (j + 1)).flatten = (xss.take j).flatten ++ xss[j] := by
  rw [List.take_succ_eq_append_getElem h, List.flatten_append]
  simp
theorem c187 (E : Env) (S : Ents) (k : Nat) (hk : k ≤ 4000000) : CallW Tryz.prog E 187 #[.slice none 0 0, iv k] S fun r S' => ∃ Δ, Own r ([] : List Int) Δ ∧ S' = Δ ++ S := by
  refine call_in (args := [.slice none 0 0, iv k]) Tryz.func187 (by decide) rfl rfl ?_
  by_cases hk0 : k = 0
  · subst hk0
    repeat' first|(refine gX ?_;first|refine o_v rfl rfl ?_|(refine o_splitD rfl rfl rfl ?_ ?_<;>intro h)|(refine o_split rfl rfl rfl ?_ ?_<;>intro h<;>fail_if_success exact Bool.noConfusion h)|(refine gL ?_;first|refine o_load rfl rfl rfl rfl ?_|refine o_loadR rfl rfl rfl (by omega) rfl rfl ?_|refine o_loadW rfl rfl rfl rfl ?_|refine o_loadK rfl rfl rfl ?_)|(refine gF ?_;first|refine o_fieldI rfl rfl rfl rfl ?_|refine o_field rfl rfl rfl rfl ?_)|(refine gB ?_;first|refine o_add rfl rfl rfl rfl (by omega) ?_|refine o_sub rfl rfl rfl rfl (by omega) ?_|refine o_eqNil rfl rfl rfl rfl rfl ?_)|(refine gI ?_;first|refine o_indexS rfl rfl rfl rfl rfl rfl (by omega) ?_|refine o_index rfl rfl rfl rfl rfl (by omega) ?_)|(refine gS ?_;first|refine o_store rfl rfl rfl rfl rfl rfl ?_|refine o_storeW rfl rfl rfl rfl rfl rfl ?_)|(refine o_allocZ rfl rfl ?_;intro _)|(refine o_box rfl rfl rfl ?_;intro _)|refine o_skip rfl rfl ?_|refine o_skipN rfl rfl ?_|refine o_iface rfl rfl rfl ?_|refine o_build rfl rfl rfl rfl rfl ?_|(refine o_bslice rfl rfl rfl rfl rfl rfl rfl ?_;intro _)|(refine o_splitP rfl ?_ ?_<;>intro h<;>fail_if_success exact Bool.noConfusion h))|refine o_head0 rfl ?_|refine o_end ?_|refine o_head1 rfl ?_|(refine w_condD rfl ?_ ?_<;>intro h<;>try (exact absurd h (by omega)))|refine wp_seq ?_|refine o_region ?_|refine wp_block ?_|refine wp_skip ?_|refine wp_exit ?_|(refine w_condD rfl ?_ ?_<;>intro h)|(refine w_cond rfl ?_ ?_<;>intro h<;>try exact Bool.noConfusion h)|refine w_retA (vs:=[_]) rfl (Res.tmp rfl Res.nil) ?_|refine w_ret (S) (vs:=[_]) rfl (Res.tmp rfl Res.nil) ?_
    exact ⟨[], .nil, rfl⟩
  · have hsub : (k : Int) - (((0 : Nat) : Int) - ((0 : Nat) : Int)) = (k : Int) := by omega
    repeat' first|(refine gX ?_;first|refine o_v rfl rfl ?_|(refine o_splitD rfl rfl rfl ?_ ?_<;>intro h)|(refine o_split rfl rfl rfl ?_ ?_<;>intro h<;>fail_if_success exact Bool.noConfusion h)|(refine gL ?_;first|refine o_load rfl rfl rfl rfl ?_|refine o_loadR rfl rfl rfl (by omega) rfl rfl ?_|refine o_loadW rfl rfl rfl rfl ?_|refine o_loadK rfl rfl rfl ?_)|(refine gF ?_;first|refine o_fieldI rfl rfl rfl rfl ?_|refine o_field rfl rfl rfl rfl ?_)|(refine gB ?_;first|(refine o_sub rfl rfl rfl rfl (by omega) ?_;try rw [hsub])|refine o_add rfl rfl rfl rfl (by omega) ?_|refine o_sub rfl rfl rfl rfl (by omega) ?_|refine o_eqNil rfl rfl rfl rfl rfl ?_)|(refine gI ?_;first|refine o_indexS rfl rfl rfl rfl rfl rfl (by omega) ?_|refine o_index rfl rfl rfl rfl rfl (by omega) ?_)|(refine gS ?_;first|refine o_store rfl rfl rfl rfl rfl rfl ?_|refine o_storeW rfl rfl rfl rfl rfl rfl ?_)|(refine o_appendM (0 : Int) (k := k) rfl rfl rfl rfl (by omega) (by omega) rfl rfl rfl rfl ?_;intro w Δ ho;obtain ⟨a, c, rfl, hc, _⟩ := ho.slv)|refine o_slice 0 0 c rfl rfl rfl rfl rfl rfl rfl (.inr ⟨rfl, rfl⟩) (.inl rfl) (.inr ⟨rfl, rfl⟩) (by omega) (by omega) (by omega) ?_|refine o_slice 0 0 0 rfl rfl rfl rfl rfl rfl rfl (.inr ⟨rfl, rfl⟩) (.inl rfl) (.inr ⟨rfl, rfl⟩) (by omega) (by omega) (by omega) ?_|(refine o_allocZ rfl rfl ?_;intro _)|(refine o_box rfl rfl rfl ?_;intro _)|refine o_skip rfl rfl ?_|refine o_skipN rfl rfl ?_|refine o_iface rfl rfl rfl ?_|refine o_build rfl rfl rfl rfl rfl ?_|(refine o_bslice rfl rfl rfl rfl rfl rfl rfl ?_;intro _)|(refine o_splitP rfl ?_ ?_<;>intro h<;>fail_if_success exact Bool.noConfusion h))|refine o_head0 rfl ?_|refine o_end ?_|refine o_head1 rfl ?_|(refine w_condD rfl ?_ ?_<;>intro h<;>try (exact absurd h (by omega)))|refine wp_seq ?_|refine o_region ?_|refine wp_block ?_|refine wp_skip ?_|refine wp_exit ?_|(refine w_condD rfl ?_ ?_<;>intro h)|(refine w_cond rfl ?_ ?_<;>intro h<;>try exact Bool.noConfusion h)|refine w_retA (vs:=[_]) rfl (Res.tmp rfl Res.nil) ?_|refine w_ret (S) (vs:=[_]) rfl (Res.tmp rfl Res.nil) ?_
    exact ⟨Δ, ho.front (Nat.zero_le _), rfl⟩
theorem c166 (E : Env) (S : Ents) (ls : List SlG) (xss : List (List Int)) (v : Value) (hv : SlV S v ls) (hll : ls.length = xss.length) (hls : ∀ j (h : j < ls.length) (h2 : j < xss.length), SlV S ls[j].v xss[j]) (hm : xss.flatten.length ≤ 4000000) (hm2 : ls.length ≤ 4000000) :
    CallW Tryz.prog E 166 #[v] S fun r S' => ∃ Δ, Own r xss.flatten Δ ∧ S' = Δ ++ S := by
  obtain ⟨a, cp, rfl, _, hr⟩ := hv
  have i1 := SlI.mk hr
  have hpre : ∀ j, (xss.take j).flatten.length ≤ xss.flatten.length := fun j => flat_len
  refine call_in (args := [.slice a ls.length cp]) Tryz.func166 (by decide) rfl rfl ?_
  repeat' first|(refine gX ?_;first|refine o_v rfl rfl ?_|(refine o_splitD rfl rfl rfl ?_ ?_<;>intro h)|(refine o_split rfl rfl rfl ?_ ?_<;>intro h<;>fail_if_success exact Bool.noConfusion h)|(refine gL ?_;first|refine o_load rfl rfl rfl rfl ?_|refine o_loadR rfl rfl rfl (by omega) rfl rfl ?_|refine o_loadW rfl rfl rfl rfl ?_|refine o_loadK rfl rfl rfl ?_)|(refine gF ?_;first|refine o_fieldI rfl rfl rfl rfl ?_|refine o_field rfl rfl rfl rfl ?_)|(refine gB ?_;first|refine o_add rfl rfl rfl rfl (by omega) ?_|refine o_sub rfl rfl rfl rfl (by omega) ?_|refine o_eqNil rfl rfl rfl rfl rfl ?_)|(refine gI ?_;first|refine o_indexS rfl rfl rfl rfl rfl rfl (by omega) ?_|refine o_index rfl rfl rfl rfl rfl (by omega) ?_)|(refine gS ?_;first|refine o_store rfl rfl rfl rfl rfl rfl ?_|refine o_storeW rfl rfl rfl rfl rfl rfl ?_)|(refine o_allocZ rfl rfl ?_;intro _)|(refine o_box rfl rfl rfl ?_;intro _)|refine o_skip rfl rfl ?_|refine o_skipN rfl rfl ?_|refine o_iface rfl rfl rfl ?_|refine o_build rfl rfl rfl rfl rfl ?_|(refine o_bslice rfl rfl rfl rfl rfl rfl rfl ?_;intro _)|(refine o_splitP rfl ?_ ?_<;>intro h<;>fail_if_success exact Bool.noConfusion h))|refine o_head0 rfl ?_|refine o_end ?_|refine o_head1 rfl ?_|refine wp_seq ?_|refine o_region ?_|refine wp_block ?_|refine wp_skip ?_|refine wp_exit ?_|(refine w_condD rfl ?_ ?_<;>intro h)|(refine w_cond rfl ?_ ?_<;>intro h<;>try exact Bool.noConfusion h)|refine w_ret (S) (vs:=[_]) rfl (Res.tmp rfl Res.nil) ?_
  refine wp_loop (fun i t ds S' => ∃ (j : Nat) (t0 : Tm), i = ls.length - j ∧ j ≤ ls.length ∧ [] = ds ∧ S = S' ∧ t = den [(11, iv j), (10, iv ls.length), (9, .slice a ls.length cp), (0, .slice a ls.length cp), (3, iv (xss.take j).flatten.length)] t0)
    ls.length ⟨0, _, rfl, Nat.zero_le _, rfl, rfl, keep ⟨rfl, rfl, rfl, rfl, rfl, trivial⟩⟩ ?_
  rintro i t ds S' ⟨j, t0, rfl, hj, rfl, rfl, rfl⟩
  have hp1 := hpre j
  have hp2 := hpre (j + 1)
  by_cases hjl : j < ls.length
  · have hsj := hls j hjl (by omega)
    have hlj : ls[j].len = xss[j].length := by obtain ⟨_, _, h, _⟩ := hsj; unfold SlG.v at h; simp only [Value.slice.injEq] at h; exact h.2.1
    have hfs : (xss.take (j + 1)).flatten.length = (xss.take j).flatten.length + ls[j].len := by rw [flat_snoc (by omega), List.length_append, hlj]
    repeat' first|(refine gX ?_;first|refine o_v rfl rfl ?_|(refine o_splitD rfl rfl rfl ?_ ?_<;>intro h)|(refine o_split rfl rfl rfl ?_ ?_<;>intro h<;>fail_if_success exact Bool.noConfusion h)|(refine gL ?_;first|refine o_load rfl rfl rfl rfl ?_|refine o_loadR rfl rfl rfl (by omega) rfl rfl ?_|refine o_loadW rfl rfl rfl rfl ?_|refine o_loadK rfl rfl rfl ?_)|(refine gF ?_;first|refine o_fieldI rfl rfl rfl rfl ?_|refine o_field rfl rfl rfl rfl ?_)|(refine gB ?_;first|refine o_add rfl rfl rfl rfl (by omega) ?_|refine o_sub rfl rfl rfl rfl (by omega) ?_|refine o_eqNil rfl rfl rfl rfl rfl ?_)|(refine gI ?_;first|refine o_indexS rfl rfl rfl rfl rfl rfl (by omega) ?_|refine o_index rfl rfl rfl rfl rfl (by omega) ?_)|(refine gS ?_;first|refine o_store rfl rfl rfl rfl rfl rfl ?_|refine o_storeW rfl rfl rfl rfl rfl rfl ?_)|(refine o_allocZ rfl rfl ?_;intro _)|(refine o_box rfl rfl rfl ?_;intro _)|refine o_skip rfl rfl ?_|refine o_skipN rfl rfl ?_|refine o_iface rfl rfl rfl ?_|refine o_build rfl rfl rfl rfl rfl ?_|(refine o_bslice rfl rfl rfl rfl rfl rfl rfl ?_;intro _)|(refine o_splitP rfl ?_ ?_<;>intro h<;>fail_if_success exact Bool.noConfusion h))|refine o_head0 rfl ?_|refine o_end ?_|refine o_head1 rfl ?_|(refine w_condD rfl ?_ ?_<;>intro h<;>try (exact absurd h (by omega)))|refine wp_seq ?_|refine o_region ?_|refine wp_block ?_|refine wp_skip ?_|refine wp_exit ?_|(refine w_condD rfl ?_ ?_<;>intro h)|(refine w_cond rfl ?_ ?_<;>intro h<;>try exact Bool.noConfusion h)|refine w_ret (S) (vs:=[_]) rfl (Res.tmp rfl Res.nil) ?_
    exact ⟨ls.length - (j + 1), by omega, _, List.Sublist.refl _, j + 1, _, rfl, by omega, rfl, rfl, keep ⟨rfl, rfl, rfl, rfl, congrArg (fun q : Int => some (iv q)) (show ((xss.take j).flatten.length : Int) + (ls[j].len : Int) = ((xss.take (j + 1)).flatten.length : Int) by omega), trivial⟩⟩
  · have hje : j = ls.length := by omega
    subst hje
    have hta : xss.take ls.length = xss := List.take_of_length_le (by omega)
    rw [hta]
    repeat' first|(refine gX ?_;first|refine o_v rfl rfl ?_|(refine o_splitD rfl rfl rfl ?_ ?_<;>intro h)|(refine o_split rfl rfl rfl ?_ ?_<;>intro h<;>fail_if_success exact Bool.noConfusion h)|(refine gL ?_;first|refine o_load rfl rfl rfl rfl ?_|refine o_loadR rfl rfl rfl (by omega) rfl rfl ?_|refine o_loadW rfl rfl rfl rfl ?_|refine o_loadK rfl rfl rfl ?_)|(refine gF ?_;first|refine o_fieldI rfl rfl rfl rfl ?_|refine o_field rfl rfl rfl rfl ?_)|(refine gB ?_;first|refine o_add rfl rfl rfl rfl (by omega) ?_|refine o_sub rfl rfl rfl rfl (by omega) ?_|refine o_eqNil rfl rfl rfl rfl rfl ?_)|(refine gC ?_;first|(refine o_callZ rfl rfl rfl (c187 _ _ xss.flatten.length (by omega)) ?_;rintro r _ ⟨Δ, ho, rfl⟩;refine ⟨inferInstance, ?_⟩))|(refine gI ?_;first|refine o_indexS rfl rfl rfl rfl rfl rfl (by omega) ?_|refine o_index rfl rfl rfl rfl rfl (by omega) ?_)|(refine gS ?_;first|refine o_store rfl rfl rfl rfl rfl rfl ?_|refine o_storeW rfl rfl rfl rfl rfl rfl ?_)|(refine o_allocZ rfl rfl ?_;intro _)|(refine o_box rfl rfl rfl ?_;intro _)|refine o_skip rfl rfl ?_|refine o_skipN rfl rfl ?_|refine o_iface rfl rfl rfl ?_|refine o_build rfl rfl rfl rfl rfl ?_|(refine o_bslice rfl rfl rfl rfl rfl rfl rfl ?_;intro _)|(refine o_splitP rfl ?_ ?_<;>intro h<;>fail_if_success exact Bool.noConfusion h))|refine o_head0 rfl ?_|refine o_end ?_|refine o_head1 rfl ?_|(refine w_condD rfl ?_ ?_<;>intro h<;>try (exact absurd h (by omega)))|refine wp_seq ?_|refine o_region ?_|refine wp_block ?_|refine wp_skip ?_|refine wp_exit ?_|(refine w_condD rfl ?_ ?_<;>intro h)|(refine w_cond rfl ?_ ?_<;>intro h<;>try exact Bool.noConfusion h)|refine w_ret (S) (vs:=[_]) rfl (Res.tmp rfl Res.nil) ?_
    refine wp_loop (fun i t ds S' => ∃ (j : Nat) (t0 : Tm) (w : Value) (Δ : Ents), i = ls.length - j ∧ j ≤ ls.length ∧ [] = ds ∧ Δ ++ S = S' ∧ t = den [(27, iv j), (26, iv ls.length), (25, .slice a ls.length cp), (6, w)] t0 ∧ Own w (xss.take j).flatten Δ)
      ls.length ⟨0, _, _, Δ, rfl, Nat.zero_le _, rfl, rfl, keep ⟨rfl, rfl, rfl, rfl, trivial⟩, ho⟩ ?_
    clear ho
    rintro i t ds S' ⟨j, t0, w, Δ, rfl, hj, rfl, rfl, rfl, ho⟩
    have hp1 := hpre j
    have hp2 := hpre (j + 1)
    by_cases hjl : j < ls.length
    · have hsj := hls j hjl (by omega)
      have hfs := flat_snoc (xss := xss) (j := j) (by omega)
      rw [hfs, List.length_append] at hp2
      repeat' first|(refine gX ?_;first|refine o_v rfl rfl ?_|(refine o_splitD rfl rfl rfl ?_ ?_<;>intro h)|(refine o_split rfl rfl rfl ?_ ?_<;>intro h<;>fail_if_success exact Bool.noConfusion h)|(refine gL ?_;first|refine o_load rfl rfl rfl rfl ?_|refine o_loadR rfl rfl rfl (by omega) rfl rfl ?_|refine o_loadW rfl rfl rfl rfl ?_|refine o_loadK rfl rfl rfl ?_)|(refine gF ?_;first|refine o_fieldI rfl rfl rfl rfl ?_|refine o_field rfl rfl rfl rfl ?_)|(refine gB ?_;first|refine o_add rfl rfl rfl rfl (by omega) ?_|refine o_sub rfl rfl rfl rfl (by omega) ?_|refine o_eqNil rfl rfl rfl rfl rfl ?_)|(refine gC ?_;first|(refine o_appendS (xs := (xss.take j).flatten) (ys := xss[j]'(by first|done|omega)) rfl rfl rfl rfl ho hsj.app (by omega) rfl rfl rfl rfl ?_;intro w2 Δ2 ho2 _;refine ⟨inferInstance, ?_⟩))|(refine gI ?_;first|refine o_indexS rfl rfl rfl rfl rfl rfl (by omega) ?_|refine o_index rfl rfl rfl rfl rfl (by omega) ?_)|(refine gS ?_;first|refine o_store rfl rfl rfl rfl rfl rfl ?_|refine o_storeW rfl rfl rfl rfl rfl rfl ?_)|(refine o_allocZ rfl rfl ?_;intro _)|(refine o_box rfl rfl rfl ?_;intro _)|refine o_skip rfl rfl ?_|refine o_skipN rfl rfl ?_|refine o_iface rfl rfl rfl ?_|refine o_build rfl rfl rfl rfl rfl ?_|(refine o_bslice rfl rfl rfl rfl rfl rfl rfl ?_;intro _)|(refine o_splitP rfl ?_ ?_<;>intro h<;>fail_if_success exact Bool.noConfusion h))|refine o_head0 rfl ?_|refine o_end ?_|refine o_head1 rfl ?_|(refine w_condD rfl ?_ ?_<;>intro h<;>try (exact absurd h (by omega)))|refine wp_seq ?_|refine o_region ?_|refine wp_block ?_|refine wp_skip ?_|refine wp_exit ?_|(refine w_condD rfl ?_ ?_<;>intro h)|(refine w_cond rfl ?_ ?_<;>intro h<;>try exact Bool.noConfusion h)|refine w_ret (S) (vs:=[_]) rfl (Res.tmp rfl Res.nil) ?_
      refine ⟨ls.length - (j + 1), by omega, _, List.Sublist.refl _, j + 1, _, _, Δ2, rfl, by omega, rfl, rfl, keep ⟨rfl, rfl, rfl, rfl, trivial⟩, ?_⟩
      rw [hfs]
      exact ho2
    · have hje : j = ls.length := by omega
      subst hje
      rw [hta] at ho
      repeat' first|(refine gX ?_;first|refine o_v rfl rfl ?_|(refine o_splitD rfl rfl rfl ?_ ?_<;>intro h)|(refine o_split rfl rfl rfl ?_ ?_<;>intro h<;>fail_if_success exact Bool.noConfusion h)|(refine gL ?_;first|refine o_load rfl rfl rfl rfl ?_|refine o_loadR rfl rfl rfl (by omega) rfl rfl ?_|refine o_loadW rfl rfl rfl rfl ?_|refine o_loadK rfl rfl rfl ?_)|(refine gF ?_;first|refine o_fieldI rfl rfl rfl rfl ?_|refine o_field rfl rfl rfl rfl ?_)|(refine gB ?_;first|refine o_add rfl rfl rfl rfl (by omega) ?_|refine o_sub rfl rfl rfl rfl (by omega) ?_|refine o_eqNil rfl rfl rfl rfl rfl ?_)|(refine gI ?_;first|refine o_indexS rfl rfl rfl rfl rfl rfl (by omega) ?_|refine o_index rfl rfl rfl rfl rfl (by omega) ?_)|(refine gS ?_;first|refine o_store rfl rfl rfl rfl rfl rfl ?_|refine o_storeW rfl rfl rfl rfl rfl rfl ?_)|(refine o_allocZ rfl rfl ?_;intro _)|(refine o_box rfl rfl rfl ?_;intro _)|refine o_skip rfl rfl ?_|refine o_skipN rfl rfl ?_|refine o_iface rfl rfl rfl ?_|refine o_build rfl rfl rfl rfl rfl ?_|(refine o_bslice rfl rfl rfl rfl rfl rfl rfl ?_;intro _)|(refine o_splitP rfl ?_ ?_<;>intro h<;>fail_if_success exact Bool.noConfusion h))|refine o_head0 rfl ?_|refine o_end ?_|refine o_head1 rfl ?_|(refine w_condD rfl ?_ ?_<;>intro h<;>try (exact absurd h (by omega)))|refine wp_seq ?_|refine o_region ?_|refine wp_block ?_|refine wp_skip ?_|refine wp_exit ?_|(refine w_condD rfl ?_ ?_<;>intro h)|(refine w_cond rfl ?_ ?_<;>intro h<;>try exact Bool.noConfusion h)|refine w_ret (Δ ++ S) (vs:=[_]) rfl (Res.tmp rfl Res.nil) ?_|refine w_ret (S) (vs:=[_]) rfl (Res.tmp rfl Res.nil) ?_
      exact ⟨Δ, ho, rfl⟩
/-! without repeats -/
def ddT (xs : List Int) : Nat → List Int
  | 0 => []
  | j + 1 => ddT xs j ++ (if j = 0 ∨ at0 xs j ≠ at0 xs (j - 1) then [at0 xs j] else [])
def dd (xs : List Int) : List Int := ddT xs xs.length
theorem ddT_new {xs : List Int} {j : Nat} (h : j = 0 ∨ at0 xs j ≠ at0 xs (j - 1)) : ddT xs (j + 1) = ddT xs j ++ [at0 xs j] := by
  show ddT xs j ++ _ = _
  rw [if_pos h]
theorem ddT_old {xs : List Int} {j : Nat} (h : 0 < j) (h2 : at0 xs j = at0 xs (j - 1)) : ddT xs (j + 1) = ddT xs j := by
  show ddT xs j ++ _ = _
  rw [if_neg (by simp [h2]; omega), List.append_nil]
theorem take_snoc0 {xs : List Int} {j : Nat} (h : j < xs.length) : xs.take (j + 1) = xs.take j ++ [at0 xs j] := by
  rw [List.take_succ_eq_append_getElem h, at0_get]
theorem at0_drop {xs : List Int} {k j : Nat} : at0 (xs.drop k) j = at0 xs (k + j) := by
  unfold at0
  simp [List.getD_eq_getElem?_getD]
theorem take_set_snoc {ys : List Int} {k : Nat} {v : Int} (h : k < ys.length) : (ys.set k v).take (k + 1) = ys.take k ++ [v] := by
  rw [take_snoc0 (by simpa using h), at0_set h, if_pos rfl, List.take_set_of_le (Nat.le_refl _)]
theorem own_addr {a : Option Addr} {len cap : Nat} {xs : List Int} {Δ : Ents} (h : Own (.slice a len cap) xs Δ) (h0 : 0 < xs.length) : ∃ b, a = some ⟨b, 0, none⟩ := by
  cases h with
  | nil => simp at h0
  | some => exact ⟨_, rfl⟩
theorem slVal_at {b k len cap : Nat} (hk : k < cap) : slVal (some ⟨b, 0, none⟩) 1 k len cap = .slice (some ⟨b, k, none⟩) (len - k) (cap - k) := by
  unfold slVal
  rw [if_neg (by omega)]
  simp [add_mk]
theorem own_behind {b len cap k : Nat} {xs : List Int} {Δ : Ents} (h : Own (.slice (some ⟨b, 0, none⟩) len cap) xs Δ) (hk : k < len) : SlA Δ (some ⟨b, k, none⟩) (xs.drop k) := by
  obtain ⟨a', c', e, hc, hr⟩ := h.slv
  simp only [Value.slice.injEq] at e
  obtain ⟨rfl, rfl, rfl⟩ := e
  have := SlV.slice h.slv (l := k) (hi := xs.length) (q := cap) (by omega) (Nat.le_refl _) hc
  have e1 : slVal (some ⟨b, 0, none⟩) (Enc.sz Int) k xs.length cap = .slice (some ⟨b, k, none⟩) (xs.length - k) (cap - k) := slVal_at (by omega)
  rw [e1, List.take_of_length_le (by simp)] at this
  obtain ⟨a', c', e, _, hr⟩ := this
  simp only [Value.slice.injEq] at e
  rw [e.1]
  exact hr

theorem c168 (E : Env) (S0 Δ : Ents) (xs : List Int) (a : Option Addr) (cap : Nat) (ho : Own (.slice a xs.length cap) xs Δ) (hm : xs.length ≤ 4000000) :
    CallW Tryz.prog E 168 #[.slice a xs.length cap] (Δ ++ S0) fun r S' => ∃ Δ', Own r (dd xs) Δ' ∧ S' = Δ' ++ S0 := by
  refine call_in (args := [.slice a xs.length cap]) Tryz.func168 (by decide) rfl rfl ?_
  by_cases h2 : xs.length < 2
  · have hd : dd xs = xs := by
      match xs, h2 with
      | [], _ => rfl
      | [x], _ => rfl
      | x :: y :: l, h => exact absurd h (by simp)
    repeat' first|(refine gX ?_;first|refine o_v rfl rfl ?_|(refine o_splitD rfl rfl rfl ?_ ?_<;>intro h)|(refine o_split rfl rfl rfl ?_ ?_<;>intro h<;>fail_if_success exact Bool.noConfusion h)|(refine gL ?_;first|refine o_load rfl rfl rfl rfl ?_|refine o_loadR rfl rfl rfl (by omega) rfl rfl ?_|refine o_loadW rfl rfl rfl rfl ?_|refine o_loadK rfl rfl rfl ?_)|(refine gF ?_;first|refine o_fieldI rfl rfl rfl rfl ?_|refine o_field rfl rfl rfl rfl ?_)|(refine gB ?_;first|refine o_add rfl rfl rfl rfl (by omega) ?_|refine o_sub rfl rfl rfl rfl (by omega) ?_|refine o_eqNil rfl rfl rfl rfl rfl ?_)|(refine gI ?_;first|refine o_indexS rfl rfl rfl rfl rfl rfl (by omega) ?_|refine o_index rfl rfl rfl rfl rfl (by omega) ?_)|(refine gS ?_;first|refine o_store rfl rfl rfl rfl rfl rfl ?_|refine o_storeW rfl rfl rfl rfl rfl rfl ?_)|(refine o_allocZ rfl rfl ?_;intro _)|(refine o_box rfl rfl rfl ?_;intro _)|refine o_skip rfl rfl ?_|refine o_skipN rfl rfl ?_|refine o_iface rfl rfl rfl ?_|refine o_build rfl rfl rfl rfl rfl ?_|(refine o_bslice rfl rfl rfl rfl rfl rfl rfl ?_;intro _)|(refine o_splitP rfl ?_ ?_<;>intro h<;>fail_if_success exact Bool.noConfusion h))|refine o_head0 rfl ?_|refine o_end ?_|refine o_head1 rfl ?_|(refine w_condD rfl ?_ ?_<;>intro h<;>try (exact absurd (by omega) h))|refine wp_seq ?_|refine o_region ?_|refine wp_block ?_|refine wp_skip ?_|refine wp_exit ?_|(refine w_condD rfl ?_ ?_<;>intro h)|(refine w_cond rfl ?_ ?_<;>intro h<;>try exact Bool.noConfusion h)|refine w_retA (vs:=[_]) rfl (Res.tmp rfl Res.nil) ?_|refine w_ret (S) (vs:=[_]) rfl (Res.tmp rfl Res.nil) ?_|(show WP _ _ _ _ (.region 6 _ true) _ _ _ _;refine o_drawnZ [(0, false), (1, false), (2, false), (3, false), (4, false), (5, false), (6, false), (7, false), (8, false), (9, false)] [] mixed (by kernel_rfl) (List.nil_sublist _) ?_)|(show WP _ _ _ _ (.region 11 _ true) _ _ _ _;refine o_drawnZ [(0, false), (1, false), (2, false), (3, false), (4, false), (5, false), (6, false), (7, false), (8, false), (9, false)] [] mixed (by kernel_rfl) (List.nil_sublist _) ?_)
    rw [hd]
    exact ⟨Δ, ho, rfl⟩
  obtain ⟨b, rfl⟩ := own_addr ho (by omega)
  have hcp : xs.length ≤ cap := by obtain ⟨_, _, e, h, _⟩ := ho.slv; simp only [Value.slice.injEq] at e; omega
  repeat' first|(refine gX ?_;first|refine o_v rfl rfl ?_|(refine o_splitD rfl rfl rfl ?_ ?_<;>intro h)|(refine o_split rfl rfl rfl ?_ ?_<;>intro h<;>fail_if_success exact Bool.noConfusion h)|(refine gL ?_;first|refine o_load rfl rfl rfl rfl ?_|refine o_loadR rfl rfl rfl (by omega) rfl rfl ?_|refine o_loadW rfl rfl rfl rfl ?_|refine o_loadK rfl rfl rfl ?_)|(refine gF ?_;first|refine o_fieldI rfl rfl rfl rfl ?_|refine o_field rfl rfl rfl rfl ?_)|(refine gB ?_;first|refine o_add rfl rfl rfl rfl (by omega) ?_|refine o_sub rfl rfl rfl rfl (by omega) ?_|refine o_eqNil rfl rfl rfl rfl rfl ?_)|(refine gI ?_;first|refine o_indexS rfl rfl rfl rfl rfl rfl (by omega) ?_|refine o_index rfl rfl rfl rfl rfl (by omega) ?_)|(refine gS ?_;first|refine o_store rfl rfl rfl rfl rfl rfl ?_|refine o_storeW rfl rfl rfl rfl rfl rfl ?_)|(refine o_allocZ rfl rfl ?_;intro _)|(refine o_box rfl rfl rfl ?_;intro _)|refine o_skip rfl rfl ?_|refine o_skipN rfl rfl ?_|refine o_iface rfl rfl rfl ?_|refine o_build rfl rfl rfl rfl rfl ?_|(refine o_bslice rfl rfl rfl rfl rfl rfl rfl ?_;intro _)|(refine o_splitP rfl ?_ ?_<;>intro h<;>fail_if_success exact Bool.noConfusion h))|refine o_head0 rfl ?_|refine o_end ?_|refine o_head1 rfl ?_|(refine w_condD rfl ?_ ?_<;>intro h<;>try (exact absurd h (by omega)))|refine wp_seq ?_|refine o_region ?_|refine wp_block ?_|refine wp_skip ?_|refine wp_exit ?_|(refine w_condD rfl ?_ ?_<;>intro h)|(refine w_cond rfl ?_ ?_<;>intro h<;>try exact Bool.noConfusion h)|refine w_retA (vs:=[_]) rfl (Res.tmp rfl Res.nil) ?_|refine w_ret (S) (vs:=[_]) rfl (Res.tmp rfl Res.nil) ?_|(show WP _ _ _ _ (.region 6 _ true) _ _ _ _;refine o_drawnZ [(0, false), (1, false), (2, false), (3, false), (4, false), (5, false), (6, false), (7, false), (8, false), (9, false)] [] mixed (by kernel_rfl) (List.nil_sublist _) ?_)|(show WP _ _ _ _ (.region 11 _ true) _ _ _ _;refine o_drawnZ [(0, false), (1, false), (2, false), (3, false), (4, false), (5, false), (6, false), (7, false), (8, false), (9, false)] [] mixed (by kernel_rfl) (List.nil_sublist _) ?_)
  refine wp_loop (fun m t ds S' => ∃ (k : Nat) (t0 : Tm), m = xs.length - k ∧ 1 ≤ k ∧ k ≤ xs.length ∧ [] = ds ∧ Δ ++ S0 = S' ∧ t = den [(3, iv k), (0, .slice (some ⟨b, 0, none⟩) xs.length cap)] t0 ∧ ddT xs k = xs.take k)
    _ ⟨1, _, rfl, Nat.le_refl _, by omega, rfl, rfl, keep ⟨rfl, rfl, trivial⟩, by rw [show (1 : Nat) = 0 + 1 from rfl, ddT_new (.inl rfl), take_snoc0 (by omega)]; simp [ddT]⟩ ?_
  rintro m t ds S' ⟨k, t0, rfl, hk1, hk2, rfl, rfl, rfl, hdk⟩
  obtain ⟨_, hrt⟩ := ho.sla
  have i6 := SlI.mk hrt
  have i7 : RowI Δ b 0 Int _ xs := ⟨fun h => (hrt h).2⟩
  repeat' first|(refine gX ?_;first|refine o_v rfl rfl ?_|(refine o_splitD rfl rfl rfl ?_ ?_<;>intro h)|(refine o_split rfl rfl rfl ?_ ?_<;>intro h<;>fail_if_success exact Bool.noConfusion h)|(refine gL ?_;first|refine o_load rfl rfl rfl rfl ?_|refine o_loadR rfl rfl rfl (by omega) rfl rfl ?_|refine o_loadW rfl rfl rfl rfl ?_|refine o_loadK rfl rfl rfl ?_)|(refine gF ?_;first|refine o_fieldI rfl rfl rfl rfl ?_|refine o_field rfl rfl rfl rfl ?_)|(refine gB ?_;first|refine o_add rfl rfl rfl rfl (by omega) ?_|refine o_sub rfl rfl rfl rfl (by omega) ?_|refine o_eqNil rfl rfl rfl rfl rfl ?_)|(refine gI ?_;first|refine o_indexZ (k - 1) rfl rfl rfl rfl rfl rfl (by omega) (by omega) ?_|refine o_indexS rfl rfl rfl rfl rfl rfl (by omega) ?_|refine o_indexS rfl rfl rfl rfl rfl rfl (by omega) ?_|refine o_index rfl rfl rfl rfl rfl (by omega) ?_)|(refine gS ?_;first|refine o_store rfl rfl rfl rfl rfl rfl ?_|refine o_storeW rfl rfl rfl rfl rfl rfl ?_)|(refine o_slice k xs.length cap rfl rfl rfl rfl rfl rfl rfl (.inl rfl) (.inr ⟨rfl, rfl, rfl⟩) (.inr ⟨rfl, rfl⟩) (by omega) (by omega) (by omega) ?_;rw [slVal_at (by omega)])|(refine o_allocZ rfl rfl ?_;intro _)|(refine o_box rfl rfl rfl ?_;intro _)|refine o_skip rfl rfl ?_|refine o_skipN rfl rfl ?_|refine o_iface rfl rfl rfl ?_|refine o_build rfl rfl rfl rfl rfl ?_|(refine o_bslice rfl rfl rfl rfl rfl rfl rfl ?_;intro _)|(refine o_splitP rfl ?_ ?_<;>intro h<;>fail_if_success exact Bool.noConfusion h))|refine o_head0 rfl ?_|refine o_end ?_|refine o_head1 rfl ?_|refine wp_seq ?_|refine o_region ?_|refine wp_block ?_|refine wp_skip ?_|refine wp_exit ?_|(refine w_condD rfl ?_ ?_<;>intro h)|(refine w_cond rfl ?_ ?_<;>intro h<;>try exact Bool.noConfusion h)|refine w_retA (vs:=[_]) rfl (Res.tmp rfl Res.nil) ?_|refine w_ret (S) (vs:=[_]) rfl (Res.tmp rfl Res.nil) ?_|(show WP _ _ _ _ (.region 6 _ true) _ _ _ _;refine o_drawnZ [(0, false), (1, false), (2, false), (3, false), (4, false), (5, false), (6, false), (7, false), (8, false), (9, false)] [] mixed (by kernel_rfl) (List.nil_sublist _) ?_)|(show WP _ _ _ _ (.region 11 _ true) _ _ _ _;refine o_drawnZ [(0, false), (1, false), (2, false), (3, false), (4, false), (5, false), (6, false), (7, false), (8, false), (9, false)] [] mixed (by kernel_rfl) (List.nil_sublist _) ?_)
  · clear i6 i7 hrt
    simp only [at0_get] at h
    have hdk1 : ddT xs (k + 1) = xs.take k := by rw [ddT_old (by omega) h, hdk]
    refine wp_loop (fun m t ds S' => ∃ (q i : Nat) (ys : List Int) (t0 : Tm) (Δ : Ents), m = xs.length - (k + q) ∧ 1 ≤ q ∧ k + q ≤ xs.length ∧ 1 ≤ i ∧ i + 1 ≤ k + q ∧ [] = ds ∧ Δ ++ S0 = S' ∧ t = den [(5, iv q), (4, .slice (some ⟨b, k, none⟩) (xs.length - k) (cap - k)), (3, iv i), (0, .slice (some ⟨b, 0, none⟩) xs.length cap)] t0 ∧ Own (.slice (some ⟨b, 0, none⟩) xs.length cap) ys Δ ∧ ys.length = xs.length ∧ ddT xs (k + q) = ys.take i ∧ ∀ j, i ≤ j → at0 ys j = at0 xs j)
      _ ⟨1, k, xs, _, Δ, rfl, Nat.le_refl _, by omega, hk1, Nat.le_refl _, rfl, rfl, keep ⟨rfl, rfl, rfl, rfl, trivial⟩, ho, rfl, hdk1, fun _ _ => rfl⟩ ?_
    clear ho
    rintro m t ds S' ⟨q, i, ys, t0, Δ, rfl, hq1, hq2, hi1, hi2, rfl, rfl, rfl, ho, hyl, hdq, hin⟩
    obtain ⟨_, hrt⟩ := ho.sla
    have i7 : RowI Δ b 0 Int _ ys := ⟨fun h => (hrt h).2⟩
    have hrt2 := own_behind ho (k := k) (by omega)
    have i8 := SlI.mk hrt2
    have i9 : RowI Δ b k Int _ (ys.drop k) := ⟨fun h => (hrt2 h).2⟩
    have hdl : (ys.drop k).length = xs.length - k := by rw [List.length_drop, hyl]
    have i6 := SlI.mk hrt
    have had : ∀ j, at0 (ys.drop k) j = at0 ys (k + j) := fun j => at0_drop
    repeat' first|(refine gX ?_;first|refine o_v rfl rfl ?_|(refine o_splitD rfl rfl rfl ?_ ?_<;>intro h)|(refine o_split rfl rfl rfl ?_ ?_<;>intro h<;>fail_if_success exact Bool.noConfusion h)|(refine gL ?_;first|refine o_load rfl rfl rfl rfl ?_|refine o_loadR rfl rfl rfl (by omega) rfl rfl ?_|refine o_loadW rfl rfl rfl rfl ?_|refine o_loadK rfl rfl rfl ?_)|(refine gF ?_;first|refine o_fieldI rfl rfl rfl rfl ?_|refine o_field rfl rfl rfl rfl ?_)|(refine gB ?_;first|refine o_add rfl rfl rfl rfl (by omega) ?_|refine o_sub rfl rfl rfl rfl (by omega) ?_|refine o_eqNil rfl rfl rfl rfl rfl ?_)|(refine gC ?_;first|(refine o_clearO (xs := ys.take i) rfl rfl rfl rfl rfl rfl (ho.take (i := i) (by omega)) (fun _ => ⟨i, by simp [blkA], Nat.le_refl _, by omega⟩) ?_;intro Δ3 ho3;refine ⟨_, inferInstance, ?_⟩))|(refine gI ?_;first|refine o_indexZ (q - 1) rfl rfl rfl rfl rfl hdl.symm (by omega) (by omega) ?_|refine o_indexS rfl rfl rfl rfl rfl hdl.symm (by omega) ?_|refine o_indexS rfl rfl rfl rfl rfl hyl.symm (by omega) ?_|refine o_indexS rfl rfl rfl rfl rfl rfl (by omega) ?_|refine o_index rfl rfl rfl rfl rfl (by omega) ?_)|(refine gS ?_;first|(refine o_storeO ((ys.drop k)[q]'(by first|done|omega)) rfl rfl rfl ho (by omega) rfl rfl rfl rfl ?_;intro Δ2 ho2;refine ⟨_, inferInstance, ?_⟩)|refine o_store rfl rfl rfl rfl rfl rfl ?_|refine o_storeW rfl rfl rfl rfl rfl rfl ?_)|(refine o_slice i xs.length cap rfl rfl rfl rfl rfl rfl rfl (.inl rfl) (.inr ⟨rfl, rfl, rfl⟩) (.inr ⟨rfl, rfl⟩) (by omega) (by omega) (by omega) ?_;rw [slVal_at (by omega)])|refine o_slice 0 i cap rfl rfl rfl rfl rfl rfl rfl (.inr ⟨rfl, rfl⟩) (.inl rfl) (.inr ⟨rfl, rfl⟩) (by omega) (by omega) (by omega) ?_|(refine o_allocZ rfl rfl ?_;intro _)|(refine o_box rfl rfl rfl ?_;intro _)|refine o_skip rfl rfl ?_|refine o_skipN rfl rfl ?_|refine o_iface rfl rfl rfl ?_|refine o_build rfl rfl rfl rfl rfl ?_|(refine o_bslice rfl rfl rfl rfl rfl rfl rfl ?_;intro _)|(refine o_splitP rfl ?_ ?_<;>intro h<;>fail_if_success exact Bool.noConfusion h))|refine o_head0 rfl ?_|refine o_end ?_|refine o_head1 rfl ?_|refine wp_seq ?_|refine o_region ?_|refine wp_block ?_|refine wp_skip ?_|refine wp_exit ?_|(refine w_condD rfl ?_ ?_<;>intro h)|(refine w_cond rfl ?_ ?_<;>intro h<;>try exact Bool.noConfusion h)|refine w_retA (vs:=[_]) rfl (Res.tmp rfl Res.nil) ?_|refine w_ret (S) (vs:=[_]) rfl (Res.tmp rfl Res.nil) ?_|(show WP _ _ _ _ (.region 6 _ true) _ _ _ _;refine o_drawnZ [(0, false), (1, false), (2, false), (3, false), (4, false), (5, false), (6, false), (7, false), (8, false), (9, false)] [] mixed (by kernel_rfl) (List.nil_sublist _) ?_)|(show WP _ _ _ _ (.region 11 _ true) _ _ _ _;refine o_drawnZ [(0, false), (1, false), (2, false), (3, false), (4, false), (5, false), (6, false), (7, false), (8, false), (9, false)] [] mixed (by kernel_rfl) (List.nil_sublist _) ?_)
    · simp only [at0_get, had] at ho2 h
      have e1 : at0 ys (k + q) = at0 xs (k + q) := hin _ (by omega)
      have e2 : at0 ys (k + (q - 1)) = at0 xs (k + q - 1) := by rw [hin _ (by omega)]; congr 1; omega
      rw [e1, e2] at h
      rw [e1] at ho2
      exact ⟨xs.length - (k + (q + 1)), by omega, _, List.Sublist.refl _, q + 1, i + 1, _, _, Δ2, rfl, by omega, by omega, by omega, by omega, rfl, rfl, keep ⟨rfl, rfl, rfl, rfl, trivial⟩, ho2, by rw [List.length_set, hyl],
        by rw [← Nat.add_assoc, ddT_new (.inr h), hdq, take_set_snoc (by omega)], fun j hj => by rw [at0_set (by omega), if_neg (by omega)]; exact hin _ (by omega)⟩
    · simp only [at0_get, had] at h
      have e1 : at0 ys (k + q) = at0 xs (k + q) := hin _ (by omega)
      have e2 : at0 ys (k + (q - 1)) = at0 xs (k + q - 1) := by rw [hin _ (by omega)]; congr 1; omega
      rw [e1, e2] at h
      exact ⟨xs.length - (k + (q + 1)), by omega, _, List.Sublist.refl _, q + 1, i, _, _, Δ, rfl, by omega, by omega, by omega, by omega, rfl, rfl, keep ⟨rfl, rfl, rfl, rfl, trivial⟩, ho, hyl,
        by rw [← Nat.add_assoc, ddT_old (by omega) (Classical.not_not.1 h), hdq], hin⟩
    · have hke : k + q = xs.length := by omega
      rw [hke] at hdq
      have := ho3.front (i := i) (by simp; omega)
      rw [List.take_take, Nat.min_self, ← hdq] at this
      exact ⟨Δ3, this, rfl⟩
  · simp only [at0_get] at h
    exact ⟨xs.length - (k + 1), by omega, _, List.Sublist.refl _, k + 1, _, rfl, by omega, by omega, rfl, rfl, keep ⟨rfl, rfl, trivial⟩, by rw [ddT_new (.inr h), take_snoc0 (by omega), hdk]⟩
  · have hke : k = xs.length := by omega
    rw [hke, List.take_length] at hdk
    exact ⟨Δ, by unfold dd; rw [hdk]; exact ho, rfl⟩
/-- Lists as one, rising, each number once. -/
def sortedL (xss : List (List Int)) : List Int := dd (srtL xss.flatten)
theorem c126 (E : Env) (S : Ents) (ls : List SlG) (xss : List (List Int)) (v : Value) (hv : SlV S v ls) (hll : ls.length = xss.length) (hls : ∀ j (h : j < ls.length) (h2 : j < xss.length), SlV S ls[j].v xss[j]) (hm : xss.flatten.length ≤ 4000000) (hm2 : ls.length ≤ 4000000) (hs : SortOk xss.flatten) :
    CallW Tryz.prog E 126 #[v] S fun r S' => ∃ Δ, Own r (sortedL xss) Δ ∧ S' = Δ ++ S := by
  have hv' := hv
  obtain ⟨a, cp, rfl, _, hr⟩ := hv'
  refine call_in (args := [.slice a ls.length cp]) Tryz.func126 (by decide) rfl rfl ?_
  have hsl := srtL_len xss.flatten
  repeat' first|(refine gX ?_;first|refine o_v rfl rfl ?_|(refine o_splitD rfl rfl rfl ?_ ?_<;>intro h)|(refine o_split rfl rfl rfl ?_ ?_<;>intro h<;>fail_if_success exact Bool.noConfusion h)|(refine gL ?_;first|refine o_load rfl rfl rfl rfl ?_|refine o_loadR rfl rfl rfl (by omega) rfl rfl ?_|refine o_loadW rfl rfl rfl rfl ?_|refine o_loadK rfl rfl rfl ?_)|(refine gF ?_;first|refine o_fieldI rfl rfl rfl rfl ?_|refine o_field rfl rfl rfl rfl ?_)|(refine gB ?_;first|refine o_add rfl rfl rfl rfl (by omega) ?_|refine o_sub rfl rfl rfl rfl (by omega) ?_|refine o_eqNil rfl rfl rfl rfl rfl ?_)|(refine gC ?_;first|(refine o_callZ rfl rfl rfl (c166 _ S ls xss _ hv hll hls hm hm2) ?_;rintro r _ ⟨Δ, ho, rfl⟩;obtain ⟨wa, wc, rfl, _, _⟩ := ho.slv;refine ⟨inferInstance, ?_⟩)|(refine o_callZ rfl rfl rfl (c167 _ S Δ xss.flatten _ _ ho hs hm) ?_;rintro r _ ⟨Δ2, ho2, rfl⟩;rw [← hsl] at ho2;refine ⟨inferInstance, ?_⟩)|(refine o_callZ rfl rfl rfl (by rw [← hsl]; exact c168 _ S Δ2 (srtL xss.flatten) _ _ ho2 (by omega)) ?_;rintro r _ ⟨Δ3, ho3, rfl⟩;refine ⟨inferInstance, ?_⟩))|(refine gI ?_;first|refine o_indexS rfl rfl rfl rfl rfl rfl (by omega) ?_|refine o_index rfl rfl rfl rfl rfl (by omega) ?_)|(refine gS ?_;first|refine o_store rfl rfl rfl rfl rfl rfl ?_|refine o_storeW rfl rfl rfl rfl rfl rfl ?_)|(refine o_allocZ rfl rfl ?_;intro _)|(refine o_box rfl rfl rfl ?_;intro _)|refine o_skip rfl rfl ?_|refine o_skipN rfl rfl ?_|refine o_iface rfl rfl rfl ?_|refine o_build rfl rfl rfl rfl rfl ?_|(refine o_bslice rfl rfl rfl rfl rfl rfl rfl ?_;intro _)|(refine o_splitP rfl ?_ ?_<;>intro h<;>fail_if_success exact Bool.noConfusion h))|refine o_head0 rfl ?_|refine o_end ?_|refine o_head1 rfl ?_|refine wp_seq ?_|refine o_region ?_|refine wp_block ?_|refine wp_skip ?_|refine wp_exit ?_|(refine w_condD rfl ?_ ?_<;>intro h)|(refine w_cond rfl ?_ ?_<;>intro h<;>try exact Bool.noConfusion h)|refine w_retA (vs:=[_]) rfl (Res.tmp rfl Res.nil) ?_|refine w_ret (S) (vs:=[_]) rfl (Res.tmp rfl Res.nil) ?_
  exact ⟨Δ3, ho3, rfl⟩
end Go.Proofs.YtpnnmklacialgaaGreat
namespace Go.Proofs.YtpnnmklacialgaaGreat
open Go.Conc
attribute [local irreducible] WP OpF OpX CallW SemH retQ AnyF RoundW

def nightsL (n : NetG) : List (List Int) := [n.uses.flatMap nightsUse, n.readings.flatMap nightsRead, n.faults.flatMap nightsFault]
def timesL (n : NetG) : List (List Int) := [n.uses.map (·.period), n.readings.map (·.period), n.faults.map (·.period)]
def datesN (n : NetG) : List Int := sortedL (nightsL n)
def periodsN (n : NetG) : List Int := sortedL (timesL n)
theorem flatMap_le {α : Type} {f : α → List Int} (hf : ∀ x, (f x).length ≤ 2) : ∀ l : List α, (l.flatMap f).length ≤ 2 * l.length
  | [] => by simp
  | x :: l => by
    have h1 := hf x
    have h2 := flatMap_le hf l
    simp only [List.flatMap_cons, List.length_append, List.length_cons]
    omega
theorem nightsUse_le (x : UseG) : (nightsUse x).length ≤ 2 := by unfold nightsUse; split <;> simp
theorem nightsRead_le (x : ReadG) : (nightsRead x).length ≤ 2 := by unfold nightsRead; split <;> simp
theorem nightsFault_le (x : FaultG) : (nightsFault x).length ≤ 2 := by unfold nightsFault; split <;> simp
theorem nightsL_len {n : NetG} (h : Valid n) : (nightsL n).flatten.length ≤ 360 := by
  have h1 := flatMap_le nightsUse_le n.uses
  have h2 := flatMap_le nightsRead_le n.readings
  have h3 := flatMap_le nightsFault_le n.faults
  have h4 := h.u60
  have h5 := h.r60
  have h6 := h.f60
  simp only [nightsL, List.flatten_cons, List.flatten_nil, List.length_append, List.append_nil]
  omega
theorem timesL_len {n : NetG} (h : Valid n) : (timesL n).flatten.length ≤ 180 := by
  have h4 := h.u60
  have h5 := h.r60
  have h6 := h.f60
  simp only [timesL, List.flatten_cons, List.flatten_nil, List.length_append, List.append_nil, List.length_map]
  omega
theorem slv_three {S : Ents} {b : Nat} {v0 v1 v2 : SlG} {tb : TypeId} : SlV (⟨b, true, .cells #[v0.v, v1.v, v2.v] tb (0, 0)⟩ :: S) (.slice (some ⟨b, 0, none⟩) 3 3) [v0, v1, v2] :=
  slv_one (xs := [v0, v1, v2]) (mn := true) (.head _) rfl (Nat.le_refl _)
theorem three_sl {S : Ents} {v0 v1 v2 : SlG} {x0 x1 x2 : List Int} (h0 : SlV S v0.v x0) (h1 : SlV S v1.v x1) (h2 : SlV S v2.v x2) : ∀ j (h : j < [v0, v1, v2].length) (h2 : j < [x0, x1, x2].length), SlV S ([v0, v1, v2][j]).v [x0, x1, x2][j]
  | 0, _, _ => h0
  | 1, _, _ => h1
  | 2, _, _ => h2
  | j + 3, h, _ => absurd h (by simp)
theorem c97 (E : Env) (S : Ents) (n : NetG) (a b c d e : Value) (hn : NetV S a b c d e n) (hV : Valid n) (hs : SortOk (nightsL n).flatten) :
    CallW Tryz.prog E 97 #[.agg #[a, b, c, d, e]] S fun r S' => ∃ Δ, Own r (datesN n) Δ ∧ S' = Δ ++ S := by
  have hu := hV.u60
  have hr := hV.r60
  have hf := hV.f60
  have hnl := nightsL_len hV
  refine call_in (args := [.agg #[a, b, c, d, e]]) Tryz.func97 (by decide) rfl rfl ?_
  repeat' first|(refine gX ?_;first|refine o_v rfl rfl ?_|(refine o_splitD rfl rfl rfl ?_ ?_<;>intro h)|(refine o_split rfl rfl rfl ?_ ?_<;>intro h<;>fail_if_success exact Bool.noConfusion h)|(refine gL ?_;first|refine o_load rfl rfl rfl rfl ?_|refine o_loadR rfl rfl rfl (by omega) rfl rfl ?_|refine o_loadW rfl rfl rfl rfl ?_|refine o_loadK rfl rfl rfl ?_)|(refine gF ?_;first|refine o_fieldI rfl rfl rfl rfl ?_|refine o_field rfl rfl rfl rfl ?_)|(refine gB ?_;first|refine o_add rfl rfl rfl rfl (by omega) ?_|refine o_sub rfl rfl rfl rfl (by omega) ?_|refine o_eqNil rfl rfl rfl rfl rfl ?_)|(refine gC ?_;first|(refine o_callZ (R:=fun r S' => ∃ Δ, Own r n.uses Δ ∧ S' = Δ ++ _) rfl rfl rfl (c139 _ _ n _ _ _ _ _ (hn.sub Sb.h) (by omega)) ?_;rintro r _ ⟨Δu, hou, rfl⟩;refine ⟨inferInstance, ?_⟩)|(refine o_callZ (R:=fun r S' => ∃ Δ, Own r (n.uses.flatMap nightsUse) Δ ∧ S' = Δ ++ _) rfl rfl rfl (c157 _ _ n.uses _ (hou.slv.sub Sb.h) (by omega)) ?_;rintro r _ ⟨Δu2, hou2, rfl⟩;obtain ⟨ua, uc, rfl, _, hua⟩ := hou2.slv;refine ⟨inferInstance, ?_⟩)|(refine o_callZ (R:=fun r S' => ∃ Δ, Own r n.readings Δ ∧ S' = Δ ++ _) rfl rfl rfl (c107 _ _ n _ _ _ _ _ (hn.sub Sb.h) (by omega)) ?_;rintro r _ ⟨Δr, hor, rfl⟩;refine ⟨inferInstance, ?_⟩)|(refine o_callZ (R:=fun r S' => ∃ Δ, Own r (n.readings.flatMap nightsRead) Δ ∧ S' = Δ ++ _) rfl rfl rfl (c158 _ _ n.readings _ (hor.slv.sub Sb.h) (by omega)) ?_;rintro r _ ⟨Δr2, hor2, rfl⟩;obtain ⟨ra, rc, rfl, _, hra⟩ := hor2.slv;refine ⟨inferInstance, ?_⟩)|(refine o_callZ (R:=fun r S' => ∃ Δ, Own r n.faults Δ ∧ S' = Δ ++ _) rfl rfl rfl (c142 _ _ n _ _ _ _ _ (hn.sub Sb.h) (by omega)) ?_;rintro r _ ⟨Δf, hof, rfl⟩;refine ⟨inferInstance, ?_⟩)|(refine o_callZ (R:=fun r S' => ∃ Δ, Own r (n.faults.flatMap nightsFault) Δ ∧ S' = Δ ++ _) rfl rfl rfl (c159 _ _ n.faults _ (hof.slv.sub Sb.h) (by omega)) ?_;rintro r _ ⟨Δf2, hof2, rfl⟩;obtain ⟨fa, fc, rfl, _, hfa⟩ := hof2.slv;refine ⟨inferInstance, ?_⟩)|(refine o_callZ (R:=fun r S' => ∃ Δ, Own r (datesN n) Δ ∧ S' = Δ ++ _) rfl rfl rfl (c126 _ _ [⟨ua, (n.uses.flatMap nightsUse).length, uc⟩, ⟨ra, (n.readings.flatMap nightsRead).length, rc⟩, ⟨fa, (n.faults.flatMap nightsFault).length, fc⟩] (nightsL n) _ slv_three rfl (three_sl (hou2.slv.sub Sb.h) (hor2.slv.sub Sb.h) (hof2.slv.sub Sb.h)) (by omega) (by simp) hs) ?_;rintro r _ ⟨Δo, hoo, rfl⟩;refine ⟨inferInstance, ?_⟩))|(refine gI ?_;first|refine o_indexS rfl rfl rfl rfl rfl rfl (by omega) ?_|refine o_index rfl rfl rfl rfl rfl (by omega) ?_)|(refine gS ?_;first|refine o_store rfl rfl rfl rfl rfl rfl ?_|refine o_storeW rfl rfl rfl rfl rfl rfl ?_)|(refine o_allocZ rfl rfl ?_;intro _)|(refine o_box rfl rfl rfl ?_;intro _)|refine o_skip rfl rfl ?_|refine o_skipN rfl rfl ?_|refine o_iface rfl rfl rfl ?_|refine o_build rfl rfl rfl rfl rfl ?_|(refine o_bslice rfl rfl rfl rfl rfl rfl rfl ?_;intro _)|(refine o_splitP rfl ?_ ?_<;>intro h<;>fail_if_success exact Bool.noConfusion h))|refine o_head0 rfl ?_|refine o_end ?_|refine o_head1 rfl ?_|refine wp_seq ?_|refine o_region ?_|refine wp_block ?_|refine wp_skip ?_|refine wp_exit ?_|(refine w_condD rfl ?_ ?_<;>intro h)|(refine w_cond rfl ?_ ?_<;>intro h<;>try exact Bool.noConfusion h)|refine w_ret (Δo ++ S) (vs:=[_]) rfl (Res.tmp rfl Res.nil) ?_|refine w_ret (S) (vs:=[_]) rfl (Res.tmp rfl Res.nil) ?_|(show WP _ _ _ _ (.region 1 _ true) _ _ _ _;refine o_drawn [(0, false), (3, true), (6, true), (1, false), (2, false), (4, false), (5, false), (7, true), (8, true), (9, true), (10, true), (11, false)] mixed (by kernel_rfl) ?_)
  exact ⟨Δo, hoo, rfl⟩
end Go.Proofs.YtpnnmklacialgaaGreat
namespace Go.Proofs.YtpnnmklacialgaaGreat
open Go.Conc

inductive HB0 (t : Trace) : Nat → Nat → Prop
  | po {i j : Nat} {x y : MemOp} : i < j → t[i]? = some x → t[j]? = some y → x.g = y.g → HB0 t i j
  | spawn {i j child : Nat} {x y : MemOp} : t[i]? = some x → t[j]? = some y → x.act = .go child → y.act = .start → y.g = child → HB0 t i j
  | closed {i j c : Nat} {x y : MemOp} : t[i]? = some x → t[j]? = some y → x.act = .close c → y.act = .recvClosed c → HB0 t i j
  | trans {i j k : Nat} : HB0 t i j → HB0 t j k → HB0 t i k

theorem get_old {t u : Trace} {i : Nat} {x : MemOp} (h : t[i]? = some x) : (t ++ u)[i]? = some x := by
  rw [getElem?_append_old (lt_size_of_getElem? h)]; exact h

theorem HB0.append {t u : Trace} {i j : Nat} (h : HB0 t i j) : HB0 (t ++ u) i j := by
  induction h with
  | po h1 h2 h3 h4 => exact .po h1 (get_old h2) (get_old h3) h4
  | spawn h1 h2 h3 h4 h5 => exact .spawn (get_old h1) (get_old h2) h3 h4 h5
  | closed h1 h2 h3 h4 => exact .closed (get_old h1) (get_old h2) h3 h4
  | trans _ _ a b => exact .trans a b

/-- Marks that say nothing of memory. -/
def MarkOk (m : Mark) : Prop := m = .noRoom ∨ ∃ f, m = .extern f
def QuietOp (op : MemOp) : Prop := ∀ m, op.act = .mark m → MarkOk m
def Quiet (t : Trace) : Prop := ∀ op ∈ t, QuietOp op

theorem Quiet.append {t u : Trace} (ht : Quiet t) (hu : Quiet u) : Quiet (t ++ u) := by
  intro op hop
  rcases Array.mem_append.1 hop with h | h
  · exact ht op h
  · exact hu op h

theorem Quiet.deaf {t : Trace} (h : Quiet t) (g : Nat) : ∀ i, t.deaf g i = 0 := by
  intro i
  induction i with
  | zero => rfl
  | succ i ih =>
    unfold Trace.deaf
    split
    · rename_i hh _ _ heq
      rcases h _ (mem_of_getElem? heq) .disable rfl with e | ⟨f, e⟩ <;> cases e
    · rename_i hh _ _ heq
      rcases h _ (mem_of_getElem? heq) .enable rfl with e | ⟨f, e⟩ <;> cases e
    · exact ih

theorem Quiet.heard {t : Trace} (h : Quiet t) {i : Nat} {op : MemOp} (hi : t[i]? = some op) : t.heard i := ⟨op.g, by simp [Trace.g?, hi], h.deaf _ _⟩

theorem HB0.hb {t : Trace} {i j : Nat} (h : HB0 t i j) (hq : Quiet t) : HappensBefore t i j := by
  induction h with
  | po h1 h2 h3 h4 => exact hb_po h1 h2 h3 h4
  | @spawn i j child x y h1 h2 h3 h4 h5 => exact .single (.inr ⟨.spawn (child := child) (by simp [Trace.act?, h1, h3]) (by simp [Trace.act?, h2, h4]) (by simp [Trace.g?, h2, h5]), hq.heard h1, hq.heard h2⟩)
  | @closed i j c x y h1 h2 h3 h4 => exact .single (.inr ⟨.closed (c := c) (by simp [Trace.act?, h1, h3]) (by simp [Trace.act?, h2, h4]), hq.heard h1, hq.heard h2⟩)
  | trans _ _ a b => exact a.trans b

/-- What stands at i is known to goroutine g. -/
def Known (t : Trace) (g i : Nat) : Prop := ∃ j y, t[j]? = some y ∧ y.g = g ∧ (i = j ∨ HB0 t i j)
theorem Known.append {t u : Trace} {g i : Nat} (h : Known t g i) : Known (t ++ u) g i := by
  obtain ⟨j, y, h1, h2, h3⟩ := h
  exact ⟨j, y, get_old h1, h2, h3.imp id fun x => x.append⟩
theorem Known.to {t : Trace} {g i k : Nat} {y : MemOp} (h : Known t g i) (hk : t[k]? = some y) (hg : y.g = g) (hlt : ∀ j x, t[j]? = some x → x.g = g → (i = j ∨ HB0 t i j) → j < k) : HB0 t i k := by
  obtain ⟨j, x, h1, h2, h3⟩ := h
  have hp : HB0 t j k := .po (hlt j x h1 h2 h3) h1 hk (h2.trans hg.symm)
  rcases h3 with rfl | h3
  · exact hp
  · exact .trans h3 hp
theorem Known.new {t u : Trace} {g i k : Nat} {y : MemOp} (h : Known t g i) (hk : (t ++ u)[k]? = some y) (hs : t.size ≤ k) (hg : y.g = g) : HB0 (t ++ u) i k := by
  obtain ⟨j, x, h1, h2, h3⟩ := h
  have hp : HB0 (t ++ u) j k := .po (Nat.lt_of_lt_of_le (lt_size_of_getElem? h1) hs) (get_old h1) hk (h2.trans hg.symm)
  rcases h3 with rfl | h3
  · exact hp
  · exact .trans h3.append hp
theorem Known.self {t : Trace} {i : Nat} {op : MemOp} (h : t[i]? = some op) : Known t op.g i := ⟨i, op, h, rfl, .inl rfl⟩

/-- What an operation touches: O: may be written; ro: read alone. -/
def Tou (O ro : Nat → Prop) (op : MemOp) : Prop := ∀ x, op.act.touch? = some x → match x.loc with
  | .cell a => if x.write then O a.block else O a.block ∨ ro a.block
  | .obj r => O r
  | _ => False
theorem Tou.mono {O O' ro : Nat → Prop} {op : MemOp} (h : Tou O ro op) (ho : ∀ b, O b → O' b) : Tou O' ro op := by
  intro x hx
  have := h x hx
  revert this
  cases x.loc <;> simp only
  · split
    · exact ho _
    · exact Or.imp (ho _) id
  · exact ho _
  all_goals exact id

structure Apart (O Oc ro : Nat → Prop) : Prop where
  a : ∀ b, O b → ¬ Oc b
  b : ∀ b, O b → ¬ ro b
  c : ∀ b, Oc b → ¬ ro b
theorem Apart.swap {O Oc ro : Nat → Prop} (h : Apart O Oc ro) : Apart Oc O ro := ⟨fun b x y => h.a b y x, h.c, h.b⟩

theorem Apart.no {O Oc ro : Nat → Prop} (h : Apart O Oc ro) {p q : MemOp} {x y : Touch} (hp : Tou O ro p) (hq : Tou Oc ro q) (hx : p.act.touch? = some x) (hy : q.act.touch? = some y) (hl : x.loc = y.loc) (hw : x.write = true ∨ y.write = true) : False := by
  have h1 := hp x hx
  have h2 := hq y hy
  rw [← hl] at h2
  revert h1 h2
  cases x.loc <;> simp only
  · rename_i a
    rcases hw with hw | hw
    · rw [if_pos hw]
      intro h1 h2
      split at h2
      · exact h.a _ h1 h2
      · exact h2.elim (h.a _ h1) (h.b _ h1)
    · rw [if_pos hw]
      intro h1 h2
      split at h1
      · exact h.a _ h1 h2
      · exact h1.elim (fun z => h.a _ z h2) (h.c _ h2)
  · exact fun h1 h2 => h.a _ h1 h2
  all_goals exact fun h1 => h1.elim

def Conf (t : Trace) (i j : Nat) : Prop := ∃ p q x y, t[i]? = some p ∧ t[j]? = some q ∧ p.act.touch? = some x ∧ q.act.touch? = some y ∧ x.loc = y.loc ∧ (x.write = true ∨ y.write = true)
def Ord (t : Trace) : Prop := ∀ i j, i < j → Conf t i j → HB0 t i j

theorem Ord.noRace {t : Trace} (h : Ord t) (hq : Quiet t) (said : Bool) : ¬ Race said t := by
  rintro ⟨i, j, hij, ⟨x, y, hx, hy, hloc, _, hwr, _⟩, hn, _⟩
  obtain ⟨oi, hoi, hxi⟩ := touch_of hx
  obtain ⟨oj, hoj, hyj⟩ := touch_of hy
  exact hn ((h i j hij ⟨oi, oj, x, y, hoi, hoj, hxi, hyj, hloc, hwr⟩).hb hq)

/-- New operations of one goroutine g, ordered behind all that they conflict with. -/
theorem Ord.append {t u : Trace} {g : Nat} (h : Ord t) (hu : ∀ op ∈ u, op.g = g)
    (hk : ∀ i p, t[i]? = some p → ∀ q ∈ u, ∀ x y, p.act.touch? = some x → q.act.touch? = some y → x.loc = y.loc → (x.write = true ∨ y.write = true) → Known t g i) : Ord (t ++ u) := by
  rintro i j hij ⟨p, q, x, y, hi, hj, hx, hy, hl, hw⟩
  rcases getElem?_append_cases hj with ⟨hjl, hj'⟩ | ⟨hjl, hjm⟩
  · have hi' : t[i]? = some p := by rw [getElem?_append_old (by omega)] at hi; exact hi
    exact (h i j hij ⟨p, q, x, y, hi', hj', hx, hy, hl, hw⟩).append
  · rcases getElem?_append_cases hi with ⟨_, hi'⟩ | ⟨_, him⟩
    · exact (hk i p hi' q hjm x y hx hy hl hw).new hj hjl (hu q hjm)
    · exact .po hij hi hj ((hu p him).trans (hu q hjm).symm)

/-- Operations that touch nothing. -/
theorem Ord.still {t u : Trace} (h : Ord t) (hu : ∀ op ∈ u, op.act.touch? = none) : Ord (t ++ u) := by
  rintro i j hij ⟨p, q, x, y, hi, hj, hx, hy, hl, hw⟩
  rcases getElem?_append_cases hj with ⟨hjl, hj'⟩ | ⟨hjl, hjm⟩
  · have hi' : t[i]? = some p := by rw [getElem?_append_old (by omega)] at hi; exact hi
    exact (h i j hij ⟨p, q, x, y, hi', hj', hx, hy, hl, hw⟩).append
  · rw [hu q hjm] at hy; cases hy

/-! ### alone -/

structure TAl (t : Trace) : Prop where
  quiet : Quiet t
  ord : Ord t
  known : ∀ i op x, t[i]? = some op → op.act.touch? = some x → Known t 0 i

theorem TAl.empty : TAl #[] := ⟨fun op h => by simp at h, fun i j _ ⟨p, _, _, _, hi, _⟩ => by simp at hi, fun i op x h => by simp at h⟩
theorem TAl.add {t u : Trace} (h : TAl t) (hq : Quiet u) (hu : ∀ op ∈ u, op.g = 0) : TAl (t ++ u) := by
  refine ⟨h.quiet.append hq, h.ord.append hu fun i p hi q hq x y hx hy hl hw => h.known i p x hi hx, fun i op x hi hx => ?_⟩
  rcases getElem?_append_cases hi with ⟨_, hi'⟩ | ⟨_, hm⟩
  · exact (h.known i op x hi' hx).append
  · have := Known.self hi
    rwa [hu op hm] at this

theorem TAl.handedOver {t : Trace} (h : TAl t) : t.HandedOver := by
  intro i g hg hne hcount
  obtain ⟨x, hx, _, _⟩ := hcount
  obtain ⟨oi, hoi, hxi⟩ := touch_of hx
  obtain ⟨j, y, h1, h2, h3⟩ := h.known i oi x hoi hxi
  have hgi : oi.g = g := by simpa [Trace.g?, hoi] using hg
  refine ⟨j, by simp [Trace.g?, h1, h2], ?_⟩
  rcases h3 with rfl | h3
  · rw [hoi] at h1; cases h1; exact absurd (hgi.symm.trans h2) hne
  · exact h3.hb h.quiet

/-! ### two -/

structure TDu (t : Trace) (g h : Nat) (O Oc ro : Nat → Prop) : Prop where
  quiet : Quiet t
  ord : Ord t
  cls : ∀ i op x, t[i]? = some op → op.act.touch? = some x → (Known t g i ∧ Known t h i) ∨ (op.g = g ∧ Tou O ro op) ∨ (op.g = h ∧ Tou Oc ro op)

theorem TDu.swap {t : Trace} {g h : Nat} {O Oc ro : Nat → Prop} (d : TDu t g h O Oc ro) : TDu t h g Oc O ro :=
  ⟨d.quiet, d.ord, fun i op x h1 h2 => (d.cls i op x h1 h2).elim (fun k => .inl ⟨k.2, k.1⟩) fun k => .inr (k.elim .inr .inl)⟩

theorem TDu.add {t u : Trace} {g h : Nat} {O O' Oc ro : Nat → Prop} (d : TDu t g h O Oc ro) (hq : Quiet u) (hu : ∀ op ∈ u, op.g = g ∧ Tou O' ro op) (ho : ∀ b, O b → O' b) (ha : Apart O' Oc ro) : TDu (t ++ u) g h O' Oc ro := by
  refine ⟨d.quiet.append hq, d.ord.append (fun op ho => (hu op ho).1) fun i p hi q hqm x y hx hy hl hw => ?_, fun i op x hi hx => ?_⟩
  · rcases d.cls i p x hi hx with k | ⟨k, _⟩ | ⟨_, k⟩
    · exact k.1
    · exact ⟨i, p, hi, k, .inl rfl⟩
    · exact (ha.no (hu q hqm).2 k hy hx hl.symm (Or.comm.1 hw)).elim
  · rcases getElem?_append_cases hi with ⟨_, hi'⟩ | ⟨_, hm⟩
    · rcases d.cls i op x hi' hx with k | ⟨k, k2⟩ | k
      · exact .inl ⟨k.1.append, k.2.append⟩
      · exact .inr (.inl ⟨k, k2.mono ho⟩)
      · exact .inr (.inr k)
    · exact .inr (.inl (hu op hm))

theorem TDu.still {t u : Trace} {g h : Nat} {O Oc ro : Nat → Prop} (d : TDu t g h O Oc ro) (hq : Quiet u) (hu : ∀ op ∈ u, op.act.touch? = none) : TDu (t ++ u) g h O Oc ro := by
  refine ⟨d.quiet.append hq, d.ord.still hu, fun i op x hi hx => ?_⟩
  rcases getElem?_append_cases hi with ⟨_, hi'⟩ | ⟨_, hm⟩
  · exact (d.cls i op x hi' hx).imp (fun k => ⟨k.1.append, k.2.append⟩) id
  · rw [hu op hm] at hx; cases hx

/-- The go statement. -/
theorem TAl.fork {t : Trace} {n : Nat} {x y : MemOp} {O ro : Nat → Prop} (h : TAl t) (hx : x.g = 0 ∧ x.act = .go n) (hy : y.g = n ∧ y.act = .start) : TDu ((t.push x).push y) 0 n O (fun _ => False) ro := by
  have e : (t.push x).push y = t ++ #[x, y] := by
    rw [Array.push_eq_append, Array.push_eq_append, Array.append_assoc]; rfl
  rw [e]
  have q : Quiet #[x, y] := by
    intro op hop m hm
    simp at hop
    rcases hop with rfl | rfl
    · rw [hx.2] at hm; cases hm
    · rw [hy.2] at hm; cases hm
  have ht : ∀ op ∈ (#[x, y] : Trace), op.act.touch? = none := by
    intro op hop
    simp at hop
    rcases hop with rfl | rfl
    · rw [hx.2]; rfl
    · rw [hy.2]; rfl
  have g0 : (t ++ #[x, y])[t.size]? = some x := by rw [Array.getElem?_append_right (Nat.le_refl _)]; simp
  have g1 : (t ++ #[x, y])[t.size + 1]? = some y := by rw [Array.getElem?_append_right (Nat.le_succ _)]; simp
  refine ⟨h.quiet.append q, h.ord.still ht, fun i op z hi hz => ?_⟩
  rcases getElem?_append_cases hi with ⟨_, hi'⟩ | ⟨_, hm⟩
  · have k := h.known i op z hi' hz
    have h1 := k.new g0 (Nat.le_refl _) hx.1
    exact .inl ⟨k.append, t.size + 1, y, g1, hy.1, .inr (.trans h1 (.spawn g0 g1 hx.2 hy.2 hy.1))⟩
  · rw [ht op hm] at hz; cases hz

/-! ### the helper has closed the channel -/

structure TSh (t : Trace) (c : Nat) (O Oc ro : Nat → Prop) : Prop where
  quiet : Quiet t
  ord : Ord t
  cls : ∀ i op x, t[i]? = some op → op.act.touch? = some x → Known t 0 i ∨ (Tou Oc ro op ∧ ∃ pc y, t[pc]? = some y ∧ y.act = .close c ∧ HB0 t i pc)

theorem TDu.shut {t : Trace} {n c : Nat} {O Oc ro : Nat → Prop} {y : MemOp} (d : TDu t 0 n O Oc ro) (hy : y.g = n ∧ y.act = .close c) : TSh (t.push y) c O Oc ro := by
  rw [Array.push_eq_append]
  have q : Quiet #[y] := by
    intro op hop m hm
    simp at hop
    subst hop
    rw [hy.2] at hm; cases hm
  have ht : ∀ op ∈ (#[y] : Trace), op.act.touch? = none := by
    intro op hop
    simp at hop
    subst hop
    rw [hy.2]; rfl
  have g0 : (t ++ #[y])[t.size]? = some y := by rw [Array.getElem?_append_right (Nat.le_refl _)]; simp
  refine ⟨d.quiet.append q, d.ord.still ht, fun i op z hi hz => ?_⟩
  rcases getElem?_append_cases hi with ⟨_, hi'⟩ | ⟨_, hm⟩
  · rcases d.cls i op z hi' hz with k | ⟨k, _⟩ | ⟨k, k2⟩
    · exact .inl k.1.append
    · exact .inl ⟨i, op, hi, k, .inl rfl⟩
    · exact .inr ⟨k2, t.size, y, g0, hy.2, .po (lt_size_of_getElem? hi') hi g0 (k.trans hy.1.symm)⟩
  · rw [ht op hm] at hz; cases hz

theorem TSh.add {t u : Trace} {c : Nat} {O O' Oc ro : Nat → Prop} (d : TSh t c O Oc ro) (hq : Quiet u) (hu : ∀ op ∈ u, op.g = 0 ∧ Tou O' ro op) (ha : Apart O' Oc ro) : TSh (t ++ u) c O' Oc ro := by
  refine ⟨d.quiet.append hq, d.ord.append (fun op ho => (hu op ho).1) fun i p hi q hqm x y hx hy hl hw => ?_, fun i op x hi hx => ?_⟩
  · rcases d.cls i p x hi hx with k | ⟨k, _⟩
    · exact k
    · exact (ha.no (hu q hqm).2 k hy hx hl.symm (Or.comm.1 hw)).elim
  · rcases getElem?_append_cases hi with ⟨_, hi'⟩ | ⟨_, hm⟩
    · rcases d.cls i op x hi' hx with k | ⟨k, pc, y, k1, k2, k3⟩
      · exact .inl k.append
      · exact .inr ⟨k, pc, y, get_old k1, k2, k3.append⟩
    · have := Known.self hi
      rw [(hu op hm).1] at this
      exact .inl this

theorem TSh.join {t : Trace} {c : Nat} {O Oc ro : Nat → Prop} {y : MemOp} (d : TSh t c O Oc ro) (hy : y.g = 0 ∧ y.act = .recvClosed c) : TAl (t.push y) := by
  rw [Array.push_eq_append]
  have q : Quiet #[y] := by
    intro op hop m hm
    simp at hop
    subst hop
    rw [hy.2] at hm; cases hm
  have ht : ∀ op ∈ (#[y] : Trace), op.act.touch? = none := by
    intro op hop
    simp at hop
    subst hop
    rw [hy.2]; rfl
  have g0 : (t ++ #[y])[t.size]? = some y := by rw [Array.getElem?_append_right (Nat.le_refl _)]; simp
  refine ⟨d.quiet.append q, d.ord.still ht, fun i op z hi hz => ?_⟩
  rcases getElem?_append_cases hi with ⟨_, hi'⟩ | ⟨_, hm⟩
  · rcases d.cls i op z hi' hz with k | ⟨_, pc, x, k1, k2, k3⟩
    · exact k.append
    · exact ⟨t.size, y, g0, hy.1, .inr (.trans k3.append (.closed (get_old k1) g0 k2 hy.2))⟩
  · rw [ht op hm] at hz; cases hz

/-! ### the entries of an own step -/

theorem ofEvents_spec {O ro : Nat → Prop} {k n n' : Nat} {fn : FuncId} {pos : String} {es : Array Event} (h : ∀ e ∈ es, EvOk O ro n n' e) : Quiet (MemOp.ofEvents k fn pos es) ∧ ∀ op ∈ MemOp.ofEvents k fn pos es, op.g = k ∧ Tou (fun b => O b ∨ (n ≤ b ∧ b < n')) ro op := by
  rw [ofEvents_eq]
  have key : ∀ e ∈ es, QuietOp { g := k, fn, pos, act := .ofEvent e } ∧ Tou (fun b => O b ∨ (n ≤ b ∧ b < n')) ro { g := k, fn, pos, act := .ofEvent e } := by
    intro e he
    have hk := h e he
    obtain ⟨loc, wr, sy⟩ := e
    unfold EvOk at hk
    cases loc <;> simp only at hk
    case cell a =>
      obtain ⟨rfl, h2, h3⟩ := hk
      have ea : MemAct.ofEvent ⟨.cell a, wr, false⟩ = .access ⟨.cell a, wr, false⟩ := by cases wr <;> rfl
      refine ⟨fun m hm => (by simp only [ea] at hm; cases hm), fun x hx => ?_⟩
      simp only [ea, MemAct.touch?, Option.some.injEq] at hx
      subst hx
      simp only
      cases wr with
      | true =>
        simp only [if_true] at h3 ⊢
        exact h3.imp id fun x => ⟨x, h2⟩
      | false =>
        simp only [Bool.false_eq_true, if_false] at h3 ⊢
        exact h3.imp (Or.imp id fun x => ⟨x, h2⟩) id
    case obj r =>
      obtain ⟨rfl, h2, h3⟩ := hk
      have ea : MemAct.ofEvent ⟨.obj r, wr, false⟩ = .access ⟨.obj r, wr, false⟩ := by cases wr <;> rfl
      refine ⟨fun m hm => (by simp only [ea] at hm; cases hm), fun x hx => ?_⟩
      simp only [ea, MemAct.touch?, Option.some.injEq] at hx
      subst hx
      exact h3.imp id fun x => ⟨x, h2⟩
    case mark m =>
      have ea : MemAct.ofEvent ⟨.mark m, wr, sy⟩ = .mark m := by cases wr <;> cases sy <;> rfl
      refine ⟨fun m' hm => ?_, fun x hx => ?_⟩
      · simp only [ea, MemAct.mark.injEq] at hm
        subst hm
        exact hk
      · simp only [ea] at hx
        rcases hk with rfl | ⟨f, rfl⟩ <;> cases hx
  exact ⟨fun op hop => by obtain ⟨e, he, rfl⟩ := Array.mem_map.1 hop; exact (key e he).1, fun op hop => by obtain ⟨e, he, rfl⟩ := Array.mem_map.1 hop; exact ⟨rfl, (key e he).2⟩⟩
end Go.Proofs.YtpnnmklacialgaaGreat
