/- Whether a period is even by some readings; what is asked.
   The sources of what counts; lists without one number.
   Conflicts: what gas answers.
   What would have moved: what gas answers.
   The book of a period: parts.
   What a period's book says, in terms of the tree.
   The book of a period. -/
import Derived.Test.YtpnnmklacialgaaGreatP05
set_option linter.unusedVariables false
set_option linter.unusedSimpArgs false
namespace Go.Proofs.YtpnnmklacialgaaGreat
open Go.Conc
attribute [local irreducible] WP OpF OpX CallW SemH retQ AnyF RoundW
theorem c96 (E : Env) (S : Ents) (x : ReadG) : CallW Tryz.prog E 96 #[.agg (readC x)] S fun r S' => r = .bool true ∧ S' = S := by
  refine call_in (args := [.agg (readC x)]) Tryz.func96 (by decide) rfl rfl ?_
  repeat' first|(refine gX ?_;first|refine o_v rfl rfl ?_|(refine o_box rfl rfl rfl ?_;intro _))|refine o_head0 rfl ?_|refine o_end ?_|refine o_head1 rfl ?_|refine wp_seq ?_|refine o_region ?_|refine w_ret (S) (vs:=[_]) rfl (Res.tmp rfl Res.nil) ?_
  exact ⟨rfl, rfl⟩
theorem c83 (E : Env) (S : Ents) (x : ReadG) (id : Int) (b : Nat) (mn : Bool) (h : InS b S mn (.cells #[iv id] 3 (0, 0))) : CallW Tryz.prog E 83 #[.agg (readC x), .pointer (some ⟨b, 0, none⟩)] S fun r S' => r = .bool (decide (x.source ≠ id)) ∧ S' = S := by
  refine call_in (args := [.agg (readC x), .pointer (some ⟨b, 0, none⟩)]) Tryz.func83 (by decide) rfl rfl ?_
  repeat' first|(refine gX ?_;first|refine o_v rfl rfl ?_|(refine gL ?_;first|refine o_load rfl rfl rfl rfl ?_|refine o_loadR rfl rfl rfl (by omega) rfl rfl ?_|refine o_loadW rfl rfl rfl rfl ?_|refine o_loadK rfl rfl rfl ?_)|(refine gF ?_;first|refine o_fieldI rfl rfl rfl rfl ?_|refine o_field rfl rfl rfl rfl ?_)|(refine o_box rfl rfl rfl ?_;intro _))|refine o_head0 rfl ?_|refine o_end ?_|refine o_head1 rfl ?_|refine wp_seq ?_|refine o_region ?_|refine w_ret (S) (vs:=[_]) rfl (Res.tmp rfl Res.nil) ?_
  all_goals(simp_all [pack, iv]<;>(try omega))
theorem c144 (E : Env) (S : Ents) (x : ReadG) (by' : List Int) (v : Value) (b : Nat) (mn : Bool) (h : InS b S mn (.cells #[v] 33 (0, 0))) (hv : SlV S v by') (hm : by'.length ≤ 17592186044416) : CallW Tryz.prog E 144 #[.agg (readC x), .pointer (some ⟨b, 0, none⟩)] S fun r S' => r = .bool (by'.contains x.source) ∧ S' = S := by
  obtain ⟨qa, qc, rfl, _, hr⟩ := hv
  have hv : SlV S (.slice qa by'.length qc) by' := ⟨qa, qc, rfl, ‹_›, hr⟩
  refine call_in (args := [.agg (readC x), .pointer (some ⟨b, 0, none⟩)]) Tryz.func144 (by decide) rfl rfl ?_
  repeat' first|(refine gX ?_;first|refine o_v rfl rfl ?_|(refine gL ?_;first|refine o_load rfl rfl rfl rfl ?_|refine o_loadR rfl rfl rfl (by omega) rfl rfl ?_|refine o_loadW rfl rfl rfl rfl ?_|refine o_loadK rfl rfl rfl ?_)|(refine gF ?_;first|refine o_fieldI rfl rfl rfl rfl ?_|refine o_field rfl rfl rfl rfl ?_)|(refine gC ?_;first|refine o_callF rfl rfl rfl (c84 _ _ by' _ _ (hv.sub Sb.h) hm) ?_)|(refine o_box rfl rfl rfl ?_;intro _))|refine o_head0 rfl ?_|refine o_end ?_|refine o_head1 rfl ?_|refine wp_seq ?_|refine o_region ?_|refine w_ret (S) (vs:=[_]) rfl (Res.tmp rfl Res.nil) ?_
  exact ⟨rfl, rfl⟩
theorem c74 (E : Env) (S : Ents) (n : NetG) (a b c d e v : Value) (p k : Int) (by' : List Int) (hn : NetV S a b c d e n) (hV : Valid n) (hv : SlV S v by') (hm : by'.length ≤ 17592186044416) :
    CallW Tryz.prog E 74 #[.agg #[a, b, c, d, e], iv p, iv k, v] S fun r S' => r = .bool (evenN n (fun x => by'.contains x.source) p k) ∧ S' = S := by
  obtain ⟨qa, qc, rfl, _, hr⟩ := hv
  have hv : SlV S (.slice qa by'.length qc) by' := ⟨qa, qc, rfl, ‹_›, hr⟩
  refine call_in (args := [.agg #[a, b, c, d, e], iv p, iv k, .slice qa by'.length qc]) Tryz.func74 (by decide) rfl rfl ?_
  repeat' first|(refine gX ?_;first|refine o_v rfl rfl ?_|(refine gL ?_;first|refine o_load rfl rfl rfl rfl ?_|refine o_loadR rfl rfl rfl (by omega) rfl rfl ?_|refine o_loadW rfl rfl rfl rfl ?_|refine o_loadK rfl rfl rfl ?_)|(refine gF ?_;first|refine o_fieldI rfl rfl rfl rfl ?_|refine o_field rfl rfl rfl rfl ?_)|(refine gC ?_;first|(refine o_callZ rfl rfl rfl (c82 _ _ n _ _ _ _ _ p k 144 #[] #[_] (fun x => by'.contains x.source) (hn.sub Sb.h) hV (fun E S' x hs => c144 E S' x by' _ _ true ⟨hs.subset (.head _)⟩ (hv.sub (Sb.h.trans hs)) hm)) ?_;rintro r _ ⟨bt, c', rfl, rfl, hT⟩;have i3 : CellI c' (0 + 77) (.bool (evenN n (fun x => by'.contains x.source) p k)) := ⟨hT.even⟩;refine ⟨inferInstance, ?_⟩))|(refine o_box rfl rfl rfl ?_;intro _))|refine o_head0 rfl ?_|refine o_end ?_|refine o_head1 rfl ?_|refine wp_seq ?_|refine o_region ?_|refine w_ret (S) (vs:=[_]) rfl (Res.tmp rfl Res.nil) ?_
  exact ⟨rfl, rfl⟩
def flowE (n : NetG) (main p k : Int) : Int := if validB n = true then (if placeF n main < 0 then 70 else if lookE n p k ≠ 0 then lookE n p k else if evenN n (fun _ => true) p k = true then 0 else 75) else 74
theorem c81 (E : Env) (S : Ents) (n : NetG) (a b c d e : Value) (main p k : Int) (hn : NetV S a b c d e n) :
    CallW Tryz.prog E 81 #[.agg #[a, b, c, d, e], iv main, iv p, iv k] S fun r S' => (flowE n main p k ≠ 0 ∧ r = .tuple #[.pointer none, iv 0, iv (flowE n main p k)] ∧ ∃ Δ, S' = Δ ++ S) ∨
      (flowE n main p k = 0 ∧ ∃ bt c', r = .tuple #[.pointer (some ⟨bt, 0, none⟩), iv (placeF n main), iv 0] ∧ S' = ⟨bt, true, .cells c' 140 (0, 0)⟩ :: S ∧ TreeP c' a (usedN n p k) (upsN n (fun _ => true) p k) (thrN n (fun _ => true) p k) true) := by
  refine call_in (args := [.agg #[a, b, c, d, e], iv main, iv p, iv k]) Tryz.func81 (by decide) rfl rfl ?_
  repeat' first|(refine gX ?_;first|refine o_v rfl rfl ?_|(refine gL ?_;first|refine o_load rfl rfl rfl rfl ?_|refine o_loadR rfl rfl rfl (by omega) rfl rfl ?_|refine o_loadW rfl rfl rfl rfl ?_|refine o_loadK rfl rfl rfl ?_)|(refine gF ?_;first|refine o_fieldI rfl rfl rfl rfl ?_|refine o_field rfl rfl rfl rfl ?_)|(refine gC ?_;first|refine o_callF rfl rfl rfl (c71 _ _ n _ _ _ _ _ (hn.sub Sb.h)) ?_|refine o_callF rfl rfl rfl (c87 _ _ n _ _ _ _ _ _ (hn.sub Sb.h)) ?_|refine o_callF rfl rfl rfl (c72 _ _ n _ _ _ _ _ _ _ (hn.sub Sb.h)) ?_|(refine o_callZ rfl rfl rfl (c82 _ _ n _ _ _ _ _ p k 96 #[] #[] (fun x => true) (hn.sub Sb.h) (valid_of (Classical.byContradiction fun hc => by simp_all)) (fun E S' x hs => c96 E S' x)) ?_;rintro r _ ⟨bt, c', rfl, rfl, hT⟩;have i3 : CellI c' (0 + 77) (.bool (evenN n (fun x => true) p k)) := ⟨hT.even⟩;refine ⟨inferInstance, ?_⟩))|(refine o_box rfl rfl rfl ?_;intro _))|refine o_head0 rfl ?_|refine o_end ?_|refine o_head1 rfl ?_|refine wp_seq ?_|refine o_region ?_|refine wp_skip ?_|(refine w_condD rfl ?_ ?_<;>intro h)|(refine w_cond rfl ?_ ?_<;>intro h<;>try exact Bool.noConfusion h)|refine w_ret ((⟨bt, true, .cells c' 140 (0, 0)⟩ :: S)) (vs:=[_,_,_]) rfl (Res.tmp rfl (Res.tmp rfl (Res.tmp rfl Res.nil))) ?_|refine w_ret (S) (vs:=[_,_,_]) rfl (Res.tmp rfl (Res.tmp rfl (Res.tmp rfl Res.nil))) ?_
  · have hb : ¬ validB n = true := fun hc => h (if_pos hc)
    have e : flowE n main p k = 74 := if_neg hb
    exact .inl ⟨by rw [e]; decide, by rw [e, if_neg hb]; rfl, [], rfl⟩
  all_goals have hb : validB n = true := Classical.byContradiction fun hc => by simp_all
  · have e : flowE n main p k = 70 := by unfold flowE; rw [if_pos hb, if_pos h]
    exact .inl ⟨by rw [e]; decide, by rw [e]; rfl, [], rfl⟩
  · have e : flowE n main p k = lookE n p k := by unfold flowE; rw [if_pos hb, if_neg (by assumption), if_pos h]
    exact .inl ⟨by rw [e]; exact h, by rw [e]; rfl, [], rfl⟩
  · have e : flowE n main p k = 75 := by unfold flowE; rw [if_pos hb, if_neg (by assumption), if_neg (by assumption), if_neg (by simpa using h)]
    exact .inl ⟨by rw [e]; decide, by rw [e]; rfl, [_], rfl⟩
  · have h : evenN n (fun _ => true) p k = true := by simpa using h
    have e : flowE n main p k = 0 := by unfold flowE; rw [if_pos hb, if_neg (by assumption), if_neg (by assumption), if_pos h]
    rw [h] at hT
    exact .inr ⟨e, bt, c', rfl, rfl, hT⟩
end Go.Proofs.YtpnnmklacialgaaGreat
namespace Go.Proofs.YtpnnmklacialgaaGreat
open Go.Conc
attribute [local irreducible] WP OpF OpX CallW SemH retQ AnyF RoundW
theorem filter_len' {α : Type} {p : α → Bool} {f : α → Int} {xs : List α} {j : Nat} : (((xs.take j).filter p).map f).length ≤ xs.length := by
  rw [List.length_map]
  exact filter_len
theorem c73 (E : Env) (S : Ents) (n : NetG) (a b c d e : Value) (p k : Int) (hn : NetV S a b c d e n) (hm : n.readings.length ≤ 100000) :
    CallW Tryz.prog E 73 #[.agg #[a, b, c, d, e], iv p, iv k] S fun r S' => ∃ Δ, Own r (countSrc n p k) Δ ∧ S' = Δ ++ S := by
  refine call_inM (args := [.agg #[a, b, c, d, e], iv p, iv k]) Tryz.func73 (by decide) rfl rfl ?_
  repeat' first|(refine gX ?_;first|refine o_v rfl rfl ?_|(refine gL ?_;first|refine o_load rfl rfl rfl rfl ?_|refine o_loadR rfl rfl rfl (by omega) rfl rfl ?_|refine o_loadW rfl rfl rfl rfl ?_|refine o_loadK rfl rfl rfl ?_)|(refine gF ?_;first|refine o_fieldI rfl rfl rfl rfl ?_|refine o_field rfl rfl rfl rfl ?_)|(refine gC ?_;first|(refine o_callZ (R:=fun r S' => ∃ Δ, Own r n.readings Δ ∧ S' = Δ ++ _) rfl rfl rfl (c107 _ _ n _ _ _ _ _ (hn.sub Sb.h) hm) ?_;rintro r _ ⟨Δr, hor, rfl⟩;obtain ⟨ra, rc, rfl, _, hra⟩ := hor.slv;have := SlI.mk hra;refine ⟨inferInstance, ?_⟩)|(refine o_callZ rfl rfl rfl (c106 _ _ n.readings _ _ _ _) ?_;rintro r _ ⟨b1, b2, b3, rfl, rfl⟩;refine ⟨inferInstance, ?_⟩))|(refine gS ?_;first|refine o_store rfl rfl rfl rfl rfl rfl ?_|refine o_storeW rfl rfl rfl rfl rfl rfl ?_)|(refine o_allocZ rfl rfl ?_;intro _)|(refine o_box rfl rfl rfl ?_;intro _)|(refine o_bslice rfl rfl rfl rfl rfl rfl rfl ?_;intro _))|refine o_head0 rfl ?_|refine o_end ?_|refine o_head1 rfl ?_|(show WP _ _ _ _ (.seq (.seq (.region 2 _ _) _) _) _ _ _ _;refine wp_cut (fun t ds S' => ∃ (t0 : Tm) (b3 b7 r : Nat) (w : Value) (Δ : Ents), dsOf [r] = ds ∧ Δ ++ markE r :: ⟨b7, true, .cells #[w] 33 (0, 0)⟩ :: ⟨b3, true, .cells #[a, b, c, d, e] 28 (0, 0)⟩ :: S = S' ∧ t = den [(1, iv p), (2, iv k), (3, .pointer (some ⟨b3, 0, none⟩)), (7, .pointer (some ⟨b7, 0, none⟩))] t0 ∧ Own w (countSrc n p k) Δ) ?_ ?_)|refine wp_seq ?_|refine o_region ?_|refine wp_block ?_|refine w_ret (S) (vs:=[_]) rfl (Res.tmp rfl Res.nil) ?_
  · rename_i b4 b7 hle
    refine wp_rangeFunc (F := 160) (first := #[]) (captured := #[.pointer (some ⟨b1, 0, none⟩), .pointer (some ⟨b2, 0, none⟩), .pointer (some ⟨b3, 0, none⟩)])
      (R := fun r lp arr v S' => ∃ (L : Loop) (w : Value) (Δ : Ents), L.state = .ready ∧ L.pending = none ∧ S' = Δ ++ loopE lp L :: markE r :: ⟨b7, true, .cells #[w] 33 (0, 0)⟩ :: ⟨b4, true, .cells #[a, b, c, d, e] 28 (0, 0)⟩ :: S ∧ Own w (countSrc n p k) Δ) (evL_eq rfl) rfl ?_ ?_
    · intro r lp arr hag
      generalize hL : newL _ _ _ _ _ _ = L
      rw [show (#[] ++ #[Value.func (.yield lp) #[] #[]] ++ #[.pointer (some ⟨b1, 0, none⟩), .pointer (some ⟨b2, 0, none⟩), .pointer (some ⟨b3, 0, none⟩)] : Array Value) = #[.func (.yield lp) #[] #[], .pointer (some ⟨b1, 0, none⟩), .pointer (some ⟨b2, 0, none⟩), .pointer (some ⟨b3, 0, none⟩)] from by simp]
      refine CallW.weaken (c160 _ _ (fun j S' => ∃ w Δ, List.Sublist (Δ ++ loopE lp L :: markE r :: ⟨b3, true, .cells #[.int .i64 k] 3 (0, 0)⟩ :: ⟨b2, true, .cells #[.int .i64 p] 3 (0, 0)⟩ :: ⟨b1, true, .cells #[.slice ra n.readings.length rc] 160 (0, 0)⟩ :: (Δr ++ ⟨b7, true, .cells #[w] 33 (0, 0)⟩ :: ⟨b4, true, .cells #[a, b, c, d, e] 28 (0, 0)⟩ :: S)) S' ∧ Own w (((n.readings.take j).filter (countsR p k)).map (·.source)) Δ)
        (fun _ => False) lp b1 b2 b3 L n.readings ra rc p k (by omega) ⟨_, [], List.Sublist.refl _, .nil⟩ ?_ (by subst hL; rfl) ?_ ?_) ?_
      · rintro j S' ⟨w, Δ, hs, ho⟩
        exact ⟨hs.subset (by simp), hs.subset (by simp), hs.subset (by simp), hra.sub (Sb.h.trans hs), hs.subset (by simp)⟩
      · rintro j hj S' ⟨w, Δ, hs, ho⟩ hc
        refine RoundW.sub ?_ hs
        subst hL
        refine round1 (q := 14) rfl (by decide) hag ?_
        change WP _ _ 73 _ (.region 3 _ _) (midQ _ _ 73 _ _ (.block 1 _) _) _ _ _
        obtain ⟨wa, wc, rfl, _, _⟩ := ho.slv
        repeat' first|(refine gX ?_;first|refine o_v rfl rfl ?_|(refine gL ?_;first|refine o_load rfl rfl rfl rfl ?_|refine o_loadR rfl rfl rfl (by omega) rfl rfl ?_|refine o_loadW rfl rfl rfl rfl ?_|refine o_loadK rfl rfl rfl ?_)|(refine gF ?_;first|refine o_fieldI rfl rfl rfl rfl ?_|refine o_field rfl rfl rfl rfl ?_)|(refine gC ?_;first|(refine o_append1 (n.readings[j]'(by first|done|omega)).source rfl rfl rfl rfl ho rfl (Nat.le_trans filter_len' (by omega)) rfl rfl rfl rfl ?_;intro w2 Δ2 ho2;obtain ⟨w2a, w2c, rfl, _, _⟩ := ho2.slv;refine ⟨inferInstance, ?_⟩))|(refine gS ?_;first|refine o_store rfl rfl rfl rfl rfl rfl ?_|refine o_storeW rfl rfl rfl rfl rfl rfl ?_)|(refine o_allocZ rfl rfl ?_;intro _)|(refine o_box rfl rfl rfl ?_;intro _)|(refine o_bslice rfl rfl rfl rfl rfl rfl rfl ?_;intro _))|refine o_head0 rfl ?_|refine o_end ?_|refine o_head1 rfl ?_|refine mid_of rfl ?_|refine fin_ofB ?_|refine wp_seq ?_|refine o_region ?_|refine wp_block ?_|refine w_ret (S) (vs:=[_]) rfl (Res.tmp rfl Res.nil) ?_
        refine .inl ⟨rfl, _, Δ2, .append_left (.cons _ (.cons _ (List.Sublist.refl _))) _, ?_⟩
        rw [filter_snoc hj, if_pos hc, List.map_append]
        exact ho2
      · rintro j hj S' ⟨w, Δ, hs, ho⟩ hc
        exact ⟨w, Δ, hs, by rw [filter_snoc hj, if_neg (by simp [hc]), List.append_nil]; exact ho⟩
      · rintro v S' (⟨w, Δ, hs, ho⟩ | h)
        · refine ⟨_, List.Sublist.trans ?_ hs, L, w, Δ, by subst hL; rfl, by subst hL; rfl, rfl, by rw [List.take_length] at ho; exact ho⟩
          exact List.Sublist.append_left (.cons_cons _ (.cons_cons _ (.cons _ (.cons _ (.cons _ (List.sublist_append_right _ _)))))) _
        · exact h.elim
    · rintro r lp arr v S' ⟨L, w, Δ, h1, h2, rfl, ho⟩
      refine ⟨L, _, by rw [h1]; decide, OwnS.h (S := Δ ++ loopE lp L :: markE r :: ⟨b7, true, .cells #[w] 33 (0, 0)⟩ :: ⟨b4, true, .cells #[a, b, c, d, e] 28 (0, 0)⟩ :: S) _, ?_⟩
      rw [h2]
      exact ⟨_, .append_left (.cons _ (List.Sublist.refl _)) _, _, b4, b7, r, w, Δ, rfl, rfl, keep ⟨rfl, rfl, rfl, rfl, trivial⟩, ho⟩
  rintro _ _ _ ⟨t0, b3, b7, r, w, Δ, rfl, rfl, rfl, ho⟩
  obtain ⟨wa, wc, rfl, _, _⟩ := ho.slv
  refine WP.perm ?_ List.perm_middle
  repeat' first|(refine gX ?_;first|refine o_v rfl rfl ?_|(refine gL ?_;first|refine o_load rfl rfl rfl rfl ?_|refine o_loadR rfl rfl rfl (by omega) rfl rfl ?_|refine o_loadW rfl rfl rfl rfl ?_|refine o_loadK rfl rfl rfl ?_)|(refine gF ?_;first|refine o_fieldI rfl rfl rfl rfl ?_|refine o_field rfl rfl rfl rfl ?_)|(refine gS ?_;first|refine o_store rfl rfl rfl rfl rfl rfl ?_|refine o_storeW rfl rfl rfl rfl rfl rfl ?_)|(refine o_allocZ rfl rfl ?_;intro _)|(refine o_box rfl rfl rfl ?_;intro _)|(refine o_bslice rfl rfl rfl rfl rfl rfl rfl ?_;intro _))|refine o_head0 rfl ?_|refine o_end ?_|refine o_head1 rfl ?_|refine wp_seq ?_|refine o_region ?_|refine wp_block ?_|refine w_ret (S) (vs:=[_]) rfl (Res.tmp rfl Res.nil) ?_
  refine w_retM [r] (Δ ++ S) (show List.Sublist (markE r :: (Δ ++ S)) _ from .cons_cons _ (.append_left (.cons _ (.cons _ (List.Sublist.refl _))) _)) (vs:=[_]) rfl (Res.tmp rfl Res.nil) ?_
  exact ⟨Δ, ho, rfl⟩
theorem c75 (E : Env) (S : Ents) (v : Value) (xs : List Int) (i : Nat) (Δ : Ents) (hv : Own v xs Δ) (hi : i < xs.length) (hm : xs.length ≤ 17592186044416) :
    CallW Tryz.prog E 75 #[v, .int .i64 i, .int .i64 (i + 1)] (Δ ++ S) fun r S' => ∃ Δ', Own r (xs.take i ++ xs.drop (i + 1)) Δ' ∧ S' = Δ' ++ S := by
  have hb : ∃ b cp, v = .slice (some ⟨b, 0, none⟩) xs.length cp ∧ xs.length ≤ cp := by
    cases hv with
    | nil => exact absurd hi (by simp)
    | some h1 h2 h3 => exact ⟨_, _, rfl, h3⟩
  obtain ⟨b, cp, rfl, hcp⟩ := hb
  have hs : SlV Δ (.slice (some ⟨b, 0, none⟩) xs.length cp) xs := hv.slv
  have e1 : slVal (some ⟨b, 0, none⟩) 1 0 i cp = .slice (some ⟨b, 0, none⟩) i cp := by
    unfold slVal
    split <;> simp [add_mk]
  have ho1 : Own (slVal (some ⟨b, 0, none⟩) 1 0 i cp) (xs.take i) Δ := by rw [e1]; exact hv.take (by omega)
  have s2 : SlV Δ (slVal (some ⟨b, 0, none⟩) 1 (i + 1) xs.length cp) (xs.drop (i + 1)) := by
    have := SlV.slice (En := instEncInt) hs (l := i + 1) (hi := xs.length) (q := cp) (by omega) (by omega) (by omega)
    rwa [List.take_of_length_le (by simp)] at this
  have hfix : ∀ w2, InP (slVal (some ⟨b, 0, none⟩) 1 0 i cp) w2 ((xs.take i).length + (xs.drop (i + 1)).length) → ∃ m, m + 1 = xs.length ∧ w2 = .slice (some ⟨b, 0, none⟩) m cp := fun w2 h => by
    have e : (xs.take i).length + (xs.drop (i + 1)).length + 1 = xs.length := by rw [List.length_take, List.length_drop]; omega
    exact ⟨_, e, h _ _ _ e1 (by omega)⟩
  refine call_in (args := [.slice (some ⟨b, 0, none⟩) xs.length cp, .int .i64 i, .int .i64 (i + 1)]) Tryz.func75 (by decide) rfl rfl ?_
  repeat' first|(refine gX ?_;first|refine o_v rfl rfl ?_|(refine gB ?_;first|refine o_eqNil rfl rfl rfl rfl rfl ?_)|(refine gC ?_;first|(refine o_appendS (xs := xs.take i) (ys := xs.drop (i + 1)) rfl rfl rfl rfl ho1 (s2.sub Sb.h) (by simp; omega) rfl rfl rfl rfl ?_;intro w2 Δ2 ho2 hin;obtain ⟨m, hm1, rfl⟩ := hfix w2 hin;refine ⟨inferInstance, ?_⟩)|(refine o_clearO (xs := xs.take i ++ xs.drop (i + 1)) rfl rfl rfl rfl rfl rfl ho2 (fun _ => ⟨m, by rw [if_neg (by omega)]; simp [add_mk, blkA], by omega, by omega⟩) ?_;intro Δ3 ho3;refine ⟨_, inferInstance, ?_⟩))|refine o_slice i (i + 1) xs.length rfl rfl rfl rfl rfl rfl rfl (.inl rfl) (.inl rfl) (.inl rfl) (by omega) (by omega) (by omega) ?_|refine o_slice 0 i cp rfl rfl rfl rfl rfl rfl rfl (.inr ⟨rfl, rfl⟩) (.inl rfl) (.inr ⟨rfl, rfl⟩) (by omega) (by omega) (by omega) ?_|refine o_slice (i + 1) xs.length cp rfl rfl rfl rfl rfl rfl rfl (.inl rfl) (.inr ⟨rfl, rfl, rfl⟩) (.inr ⟨rfl, rfl⟩) (by omega) (by omega) (by omega) ?_|refine o_slice m xs.length cp rfl rfl rfl rfl rfl rfl rfl (.inl rfl) (.inl rfl) (.inr ⟨rfl, rfl⟩) (by omega) (by omega) (by omega) ?_)|refine o_head0 rfl ?_|refine o_end ?_|refine o_head1 rfl ?_|(refine w_condD rfl ?_ ?_<;>intro h<;>try (exact absurd h (by omega)))|refine wp_seq ?_|refine o_region ?_|refine wp_skip ?_|(refine w_condD rfl ?_ ?_<;>intro h)|(refine w_cond rfl ?_ ?_<;>intro h<;>try exact Bool.noConfusion h)|refine w_ret (Δ3 ++ S) (vs:=[_]) rfl (Res.tmp rfl Res.nil) ?_|refine w_ret (S) (vs:=[_]) rfl (Res.tmp rfl Res.nil) ?_|(show WP _ _ _ _ (.region 5 _ true) _ _ _ _;refine o_drawnZ [Zf 0,Zf 1,Zf 2,Zf 3,Zf 4,Zf 5,Zt 6,Zf 7] [] mixed (by kernel_rfl) (List.nil_sublist _) ?_)
  exact ⟨Δ3, ho3, rfl⟩
end Go.Proofs.YtpnnmklacialgaaGreat
namespace Go.Proofs.YtpnnmklacialgaaGreat
open Go.Conc
attribute [local irreducible] WP OpF OpX CallW SemH retQ AnyF RoundW
theorem look_valid {n : NetG} {p k : Int} (h : lookE n p k = 0) : Valid n := valid_of (Classical.byContradiction fun hc => by
  unfold lookE at h
  rw [if_neg hc] at h
  exact absurd h (by decide))
def dropAt (l : List Int) (i : Nat) : List Int := l.take i ++ l.drop (i + 1)
theorem dropAt_len {l : List Int} {i : Nat} (h : i < l.length) : (dropAt l i).length + 1 = l.length := by
  unfold dropAt
  simp; omega
def confF (ev : List Int → Bool) : Nat → List Int → List Int
  | 0, l => l
  | i + 1, l => confF ev i (if ev (dropAt l i) = true then l else dropAt l i)
theorem confF_succ {ev : List Int → Bool} {i : Nat} {l : List Int} : confF ev (i + 1) l = confF ev i (if ev (dropAt l i) = true then l else dropAt l i) := rfl
def evL' (n : NetG) (p k : Int) (l : List Int) : Bool := evenN n (fun x => l.contains x.source) p k
def confE (n : NetG) (p k : Int) : Int := if lookE n p k = 0 then (if evL' n p k (countSrc n p k) = true then 77 else 0) else lookE n p k
def confL (n : NetG) (p k : Int) : List Int := if confE n p k = 0 then confF (evL' n p k) (countSrc n p k).length (countSrc n p k) else []
theorem countSrc_len {n : NetG} {p k : Int} : (countSrc n p k).length ≤ n.readings.length := by
  unfold countSrc
  rw [List.length_map]
  exact List.length_filter_le _ _
theorem c11 (E : Env) (S : Ents) (n : NetG) (a b c d e : Value) (p k : Int) (hn : NetV S a b c d e n) :
    CallW Tryz.prog E 11 #[.agg #[a, b, c, d, e], iv p, iv k] S fun r S' => ∃ Δ v, Own v (confL n p k) Δ ∧ r = .tuple #[v, iv (confE n p k)] ∧ S' = Δ ++ S := by
  refine call_in (args := [.agg #[a, b, c, d, e], iv p, iv k]) Tryz.func11 (by decide) rfl rfl ?_
  by_cases hl : lookE n p k = 0
  · have hV := look_valid hl
    have hr60 := hV.r60
    have hcl := countSrc_len (n := n) (p := p) (k := k)
    repeat' first|(refine gX ?_;first|refine o_v rfl rfl ?_|(refine gL ?_;first|refine o_load rfl rfl rfl rfl ?_|refine o_loadR rfl rfl rfl (by omega) rfl rfl ?_|refine o_loadW rfl rfl rfl rfl ?_|refine o_loadK rfl rfl rfl ?_)|(refine gB ?_;first|refine o_add rfl rfl rfl rfl (by omega) ?_|refine o_sub rfl rfl rfl rfl (by omega) ?_)|(refine gC ?_;first|refine o_callF rfl rfl rfl (c72 _ _ n _ _ _ _ _ _ _ (hn.sub Sb.h)) ?_|(refine o_callZ rfl rfl rfl (c73 _ _ n _ _ _ _ _ p k (hn.sub Sb.h) (by omega)) ?_;rintro r _ ⟨Δ, ho, rfl⟩;obtain ⟨wa, wc, rfl, _, _⟩ := ho.slv;refine ⟨inferInstance, ?_⟩)|refine o_callF rfl rfl rfl (c74 _ _ n _ _ _ _ _ _ p k (countSrc n p k) (hn.sub Sb.h) hV (ho.slv.sub Sb.h) (by omega)) ?_)|(refine o_box rfl rfl rfl ?_;intro _))|refine o_head0 rfl ?_|refine o_end ?_|refine o_head1 rfl ?_|(refine w_condD rfl ?_ ?_<;>intro h<;>try (exact absurd hl h))|refine wp_seq ?_|refine o_region ?_|refine wp_block ?_|refine wp_skip ?_|refine wp_exit ?_|(refine w_condD rfl ?_ ?_<;>intro h)|(refine w_cond rfl ?_ ?_<;>intro h<;>try exact Bool.noConfusion h)|refine w_ret (S) (vs:=[_,_]) rfl (Res.tmp rfl (Res.tmp rfl Res.nil)) ?_
    · have ee : confE n p k = 77 := by unfold confE evL'; rw [if_pos hl, if_pos h]
      exact ⟨[], _, by unfold confL; rw [if_neg (by rw [ee]; decide)]; exact .nil, by rw [ee]; rfl, rfl⟩
    have he : confE n p k = 0 := by unfold confE evL'; rw [if_pos hl, if_neg (by rw [h]; decide)]
    have hL : confL n p k = _ := if_pos he
    rename_i b3 _ _ _
    refine wp_loop (fun i t ds S' => ∃ (l : List Int) (w : Value) (Δ : Ents) (t0 : Tm), [] = ds ∧ Δ ++ ⟨b3, true, .cells #[a, b, c, d, e] 28 (0, 0)⟩ :: S = S' ∧ t = den [(10, iv ((i : Int) - 1)), (9, w), (3, .pointer (some ⟨b3, 0, none⟩)), (1, iv p), (2, iv k)] t0 ∧ Own w l Δ ∧ i ≤ l.length ∧ l.length ≤ 60 ∧ confL n p k = confF (evL' n p k) i l)
      (countSrc n p k).length ⟨_, _, _, _, rfl, rfl, keep ⟨rfl, rfl, rfl, rfl, rfl, trivial⟩, ho, Nat.le_refl _, by omega, hL⟩ ?_
    clear ho
    rintro i t ds S' ⟨l, w, Δ, t0, rfl, rfl, rfl, ho, hi, h60, hc⟩
    obtain ⟨wa, wc, rfl, _, _⟩ := ho.slv
    cases i with
    | zero =>
      repeat' first|(refine gX ?_;first|refine o_v rfl rfl ?_|(refine gL ?_;first|refine o_load rfl rfl rfl rfl ?_|refine o_loadR rfl rfl rfl (by omega) rfl rfl ?_|refine o_loadW rfl rfl rfl rfl ?_|refine o_loadK rfl rfl rfl ?_)|(refine gB ?_;first|refine o_add rfl rfl rfl rfl (by omega) ?_|refine o_sub rfl rfl rfl rfl (by omega) ?_)|(refine o_box rfl rfl rfl ?_;intro _))|refine o_head0 rfl ?_|refine o_end ?_|refine o_head1 rfl ?_|(refine w_condD rfl ?_ ?_<;>intro h<;>try (exact absurd h (by decide)))|refine wp_seq ?_|refine o_region ?_|refine wp_block ?_|refine wp_skip ?_|refine wp_exit ?_|(refine w_condD rfl ?_ ?_<;>intro h)|(refine w_cond rfl ?_ ?_<;>intro h<;>try exact Bool.noConfusion h)|refine w_ret (Δ ++ S) (vs:=[_,_]) rfl (Res.tmp rfl (Res.tmp rfl Res.nil)) ?_|refine w_ret (S) (vs:=[_,_]) rfl (Res.tmp rfl (Res.tmp rfl Res.nil)) ?_
      exact ⟨Δ, _, by rw [hc]; exact ho, by rw [he]; rfl, rfl⟩
    | succ i =>
      have e1 : ((i + 1 : Nat) : Int) - 1 = (i : Int) := by omega
      rw [e1]
      have hdl := dropAt_len (l := l) (i := i) (by omega)
      repeat' first|(refine gX ?_;first|refine o_v rfl rfl ?_|(refine gL ?_;first|refine o_load rfl rfl rfl rfl ?_|refine o_loadR rfl rfl rfl (by omega) rfl rfl ?_|refine o_loadW rfl rfl rfl rfl ?_|refine o_loadK rfl rfl rfl ?_)|(refine gB ?_;first|refine o_add rfl rfl rfl rfl (by omega) ?_|refine o_sub rfl rfl rfl rfl (by omega) ?_)|(refine gC ?_;first|(refine o_callZ rfl rfl rfl (c76 _ _ _ l (ho.slv.sub Sb.h) (by omega)) ?_;rintro r _ ⟨Δ2, ho2, rfl⟩;refine ⟨inferInstance, ?_⟩)|(refine o_callZ rfl rfl rfl (c75 _ _ _ l i Δ2 ho2 (by omega) (by omega)) ?_;rintro r _ ⟨Δ3, ho3, rfl⟩;obtain ⟨w3, c3, rfl, _, _⟩ := ho3.slv;refine ⟨inferInstance, ?_⟩)|refine o_callF rfl rfl rfl (c74 _ _ n _ _ _ _ _ _ p k (dropAt l i) (hn.sub Sb.h) hV (ho3.slv.sub Sb.h) (by omega)) ?_)|(refine o_box rfl rfl rfl ?_;intro _))|refine o_head0 rfl ?_|refine o_end ?_|refine o_head1 rfl ?_|(refine w_condD rfl ?_ ?_<;>intro h<;>try (exact absurd (by omega) h))|refine wp_seq ?_|refine o_region ?_|refine wp_block ?_|refine wp_skip ?_|refine wp_exit ?_|(refine w_condD rfl ?_ ?_<;>intro h)|(refine w_cond rfl ?_ ?_<;>intro h<;>try exact Bool.noConfusion h)|refine w_ret (S) (vs:=[_,_]) rfl (Res.tmp rfl (Res.tmp rfl Res.nil)) ?_
      · have h : evL' n p k (dropAt l i) = false := by simpa [evL'] using h
        refine ⟨i, by omega, _, .append_left (List.sublist_append_right _ _) _, _, _, Δ3, _, rfl, rfl, keep ⟨rfl, rfl, rfl, rfl, rfl, trivial⟩, ho3, ?_, ?_, ?_⟩
        · show i ≤ (dropAt l i).length
          omega
        · show (dropAt l i).length ≤ 60
          omega
        · show confL n p k = confF (evL' n p k) i (dropAt l i)
          rw [hc, confF_succ, if_neg (by rw [h]; decide)]
      · have h : evL' n p k (dropAt l i) = true := by simpa [evL'] using h
        refine ⟨i, by omega, _, List.sublist_append_right _ _, _, _, Δ, _, rfl, rfl, keep ⟨rfl, rfl, rfl, rfl, rfl, trivial⟩, ho, by omega, h60, ?_⟩
        rw [hc, confF_succ, if_pos h]
  · have ee : confE n p k = lookE n p k := if_neg hl
    repeat' first|(refine gX ?_;first|refine o_v rfl rfl ?_|(refine gL ?_;first|refine o_load rfl rfl rfl rfl ?_|refine o_loadR rfl rfl rfl (by omega) rfl rfl ?_|refine o_loadW rfl rfl rfl rfl ?_|refine o_loadK rfl rfl rfl ?_)|(refine gB ?_;first|refine o_add rfl rfl rfl rfl (by omega) ?_|refine o_sub rfl rfl rfl rfl (by omega) ?_)|(refine gC ?_;first|refine o_callF rfl rfl rfl (c72 _ _ n _ _ _ _ _ _ _ (hn.sub Sb.h)) ?_)|(refine o_box rfl rfl rfl ?_;intro _))|refine o_head0 rfl ?_|refine o_end ?_|refine o_head1 rfl ?_|(refine w_condD rfl ?_ ?_<;>intro h<;>try (exact absurd hl h))|refine wp_seq ?_|refine o_region ?_|refine wp_block ?_|refine wp_skip ?_|refine wp_exit ?_|(refine w_condD rfl ?_ ?_<;>intro h)|(refine w_cond rfl ?_ ?_<;>intro h<;>try exact Bool.noConfusion h)|refine w_ret (S) (vs:=[_,_]) rfl (Res.tmp rfl (Res.tmp rfl Res.nil)) ?_
    exact ⟨[], _, by unfold confL; rw [if_neg (by rw [ee]; exact hl)]; exact .nil, by rw [ee]; rfl, rfl⟩
end Go.Proofs.YtpnnmklacialgaaGreat
namespace Go.Proofs.YtpnnmklacialgaaGreat
open Go.Conc
attribute [local irreducible] WP OpF OpX CallW SemH retQ AnyF RoundW
instance intsT_70 : IntsT 70 2 := ⟨by kernel_rfl⟩
theorem flow_ok {n : NetG} {main p k : Int} (h : flowE n main p k = 0) : Valid n ∧ 0 ≤ placeF n main ∧ lookE n p k = 0 ∧ evenN n (fun _ => true) p k = true := by
  unfold flowE at h
  by_cases h1 : validB n = true
  · rw [if_pos h1] at h
    by_cases h2 : placeF n main < 0
    · rw [if_pos h2] at h; exact absurd h (by decide)
    · rw [if_neg h2] at h
      by_cases h3 : lookE n p k ≠ 0
      · rw [if_pos h3] at h; exact absurd h h3
      · rw [if_neg h3] at h
        by_cases h4 : evenN n (fun _ => true) p k = true
        · exact ⟨valid_of h1, by omega, by omega, h4⟩
        · rw [if_neg h4] at h; exact absurd h (by decide)
  · rw [if_neg h1] at h; exact absurd h (by decide)
def thrS (n : NetG) (main p k s : Int) : RangeG := partOf (thrN n (fun x => decide (x.source ≠ s)) p k) (idx n main)
def thrA (n : NetG) (main p k : Int) : RangeG := partOf (thrN n (fun _ => true) p k) (idx n main)
def moves (n : NetG) (main p k s : Int) : Bool := decide (thrS n main p k s ≠ thrA n main p k)
def movedL (n : NetG) (main p k : Int) : List Int := if flowE n main p k = 0 then (countSrc n p k).filter (moves n main p k) else []
theorem thrN_len {n : NetG} {by' : ReadG → Bool} {p k : Int} : (thrN n by' p k).length = 12 := thrT_len
theorem rng_ne {x y : RangeG} : [x.lo, x.hi] ≠ [y.lo, y.hi] ↔ x ≠ y := by
  cases x; cases y; simp
theorem moves_pos {n : NetG} {main p k s : Int} (hi : idx n main < 12) (h : (thrN n (fun x => decide (x.source ≠ s)) p k)[idx n main]'(by rw [thrN_len]; exact hi) ≠ (thrN n (fun _ => true) p k)[idx n main]'(by rw [thrN_len]; exact hi)) : moves n main p k s = true := by
  unfold moves thrS thrA
  rw [partOf_get (by rw [thrN_len]; exact hi), partOf_get (by rw [thrN_len]; exact hi)]
  exact decide_eq_true h
theorem moves_neg {n : NetG} {main p k s : Int} (hi : idx n main < 12) (h : ¬ (thrN n (fun x => decide (x.source ≠ s)) p k)[idx n main]'(by rw [thrN_len]; exact hi) ≠ (thrN n (fun _ => true) p k)[idx n main]'(by rw [thrN_len]; exact hi)) : ¬ moves n main p k s = true := by
  unfold moves thrS thrA
  rw [partOf_get (by rw [thrN_len]; exact hi), partOf_get (by rw [thrN_len]; exact hi)]
  simpa using h
theorem c13 (E : Env) (S : Ents) (n : NetG) (a b c d e : Value) (main p k : Int) (hn : NetV S a b c d e n) :
    CallW Tryz.prog E 13 #[.agg #[a, b, c, d, e], iv main, iv p, iv k] S fun r S' => ∃ Δ v, Own v (movedL n main p k) Δ ∧ r = .tuple #[v, iv (flowE n main p k)] ∧ S' = Δ ++ S := by
  refine call_in (args := [.agg #[a, b, c, d, e], iv main, iv p, iv k]) Tryz.func13 (by decide) rfl rfl ?_
  repeat' first|(refine gX ?_;first|refine o_v rfl rfl ?_|(refine gL ?_;first|refine o_load rfl rfl rfl rfl ?_|refine o_loadR rfl rfl rfl (by omega) rfl rfl ?_|refine o_loadW rfl rfl rfl rfl ?_|refine o_loadK rfl rfl rfl ?_)|(refine gF ?_;first|refine o_fieldI rfl rfl rfl rfl ?_|refine o_field rfl rfl rfl rfl ?_)|(refine gB ?_;first|refine o_add rfl rfl rfl rfl (by omega) ?_)|(refine gC ?_;first|(refine o_callZ rfl rfl rfl (c81 _ _ n _ _ _ _ _ _ _ _ (hn.sub Sb.h)) ?_;rintro r _ (⟨hf, rfl, Δ, rfl⟩ | ⟨hf, bt, c', rfl, rfl, hT⟩)<;>(try have hok := flow_ok hf;have hV := hok.1;have hr60 := hV.r60;have hcl := countSrc_len (n := n) (p := p) (k := k))<;>refine ⟨inferInstance, ?_⟩)|(refine o_callZ rfl rfl rfl (c73 _ _ n _ _ _ _ _ p k (hn.sub Sb.h) (by omega)) ?_;rintro r _ ⟨Δ0, ho0, rfl⟩;obtain ⟨w0, wc0, rfl, _, hr0⟩ := ho0.slv;refine ⟨inferInstance, ?_⟩))|(refine gI ?_;first|refine o_indexS rfl rfl rfl rfl rfl rfl (by omega) ?_|refine o_index rfl rfl rfl rfl rfl (by omega) ?_)|(refine gS ?_;first|refine o_store rfl rfl rfl rfl rfl rfl ?_|refine o_storeW rfl rfl rfl rfl rfl rfl ?_)|(refine o_allocZ rfl rfl ?_;intro _)|(refine o_box rfl rfl rfl ?_;intro _)|(refine o_bslice rfl rfl rfl rfl rfl rfl rfl ?_;intro _))|refine o_head0 rfl ?_|refine o_end ?_|refine o_head1 rfl ?_|(refine w_condD rfl ?_ ?_<;>intro h<;>try first|(exact absurd hf h)|(exact absurd rfl h))|refine wp_seq ?_|refine o_region ?_|refine wp_block ?_|refine wp_skip ?_|refine wp_exit ?_|(refine w_condD rfl ?_ ?_<;>intro h)|(refine w_cond rfl ?_ ?_<;>intro h<;>try exact Bool.noConfusion h)|refine w_ret (S) (vs:=[_,_]) rfl (Res.tmp rfl (Res.tmp rfl Res.nil)) ?_|(show WP _ _ _ _ (.region 9 _ true) _ _ _ _;refine o_drawnZ [Zf 0,Zf 1,Zf 2,Zf 3,Zf 4,Zf 5,Zf 6,Zf 7,Zf 8,Zf 9,Zf 10,Zf 11,Zf 12] [] mixed (by kernel_rfl) (List.nil_sublist _) ?_)
  · exact ⟨[], _, by unfold movedL; rw [if_neg hf]; exact .nil, rfl, rfl⟩
  rename_i b4 _
  obtain ⟨hpe, hil, _⟩ := idx_spec hok.2.1
  have hm12 := hV.m12
  have hml : movedL n main p k = (countSrc n p k).filter (moves n main p k) := if_pos hf
  have hth := thrN_len (n := n) (by' := fun _ => true) (p := p) (k := k)
  have i2 : RowC c' (0 + 53) RangeG encRange (thrN n (fun _ => true) p k) := ⟨hT.through⟩
  have i0 := SlI.mk hr0
  refine wp_loop (fun i t ds S' => ∃ (j : Nat) (w : Value) (Δ : Ents) (t0 : Tm), i = (countSrc n p k).length - j ∧ j ≤ (countSrc n p k).length ∧ [] = ds ∧ Δ ++ (Δ0 ++ ⟨bt, true, .cells c' 140 (0, 0)⟩ :: ⟨b4, true, .cells #[a, b, c, d, e] 28 (0, 0)⟩ :: S) = S' ∧
      t = den [(34, iv j), (33, iv (countSrc n p k).length), (32, .slice w0 (countSrc n p k).length wc0), (13, w), (11, iv (placeF n main)), (10, .pointer (some ⟨bt, 0, none⟩)), (4, .pointer (some ⟨b4, 0, none⟩)), (2, iv p), (3, iv k)] t0 ∧ Own w (((countSrc n p k).take j).filter (moves n main p k)) Δ)
    (countSrc n p k).length ⟨0, _, [], _, rfl, Nat.zero_le _, rfl, rfl, keep ⟨rfl, rfl, rfl, rfl, rfl, rfl, rfl, rfl, rfl, trivial⟩, .nil⟩ ?_
  rintro i t ds S' ⟨j, w, Δ, t0, rfl, hj, rfl, rfl, rfl, ho⟩
  obtain ⟨wa, wc, rfl, _, _⟩ := ho.slv
  repeat' first|(refine gX ?_;first|refine o_v rfl rfl ?_|(refine gL ?_;first|refine o_load rfl rfl rfl rfl ?_|refine o_loadR rfl rfl rfl (by omega) rfl rfl ?_|refine o_loadW rfl rfl rfl rfl ?_|refine o_loadK rfl rfl rfl ?_)|(refine gF ?_;first|refine o_fieldI rfl rfl rfl rfl ?_|refine o_field rfl rfl rfl rfl ?_)|(refine gB ?_;first|refine o_neS (k := 2) rfl rfl rfl rfl rfl rfl rfl rfl ?_|refine o_add rfl rfl rfl rfl (by omega) ?_)|(refine gC ?_;first|(refine o_callZ rfl rfl rfl (c82 _ _ n _ _ _ _ _ p k 83 #[] #[_] (fun x => decide (x.source ≠ (countSrc n p k)[j]'(by first|done|omega))) (hn.sub Sb.h) hV (fun E S' x hs => c83 E S' x _ _ true ⟨hs.subset (.head _)⟩)) ?_;rintro r _ ⟨bt2, c2, rfl, rfl, hT2⟩;have hth2 := thrN_len (n := n) (by' := fun x => decide (x.source ≠ (countSrc n p k)[j]'(by first|done|omega))) (p := p) (k := k);have i3 : RowC c2 (0 + 53) RangeG encRange (thrN n (fun x => decide (x.source ≠ (countSrc n p k)[j]'(by first|done|omega))) p k) := ⟨hT2.through⟩;refine ⟨inferInstance, ?_⟩)|(refine o_append1 ((countSrc n p k)[j]'(by first|done|omega)) rfl rfl rfl rfl ho rfl (Nat.le_trans filter_len (by omega)) rfl rfl rfl rfl ?_;intro w2 Δ2 ho2;refine ⟨inferInstance, ?_⟩))|(refine gI ?_;first|refine o_indexAZ (idx n main) rfl rfl rfl rfl rfl hpe (by omega) ?_|refine o_indexS rfl rfl rfl rfl rfl rfl (by omega) ?_|refine o_index rfl rfl rfl rfl rfl (by omega) ?_)|(refine gS ?_;first|refine o_store rfl rfl rfl rfl rfl rfl ?_|refine o_storeW rfl rfl rfl rfl rfl rfl ?_)|(refine o_allocZ rfl rfl ?_;intro _)|(refine o_box rfl rfl rfl ?_;intro _)|(refine o_bslice rfl rfl rfl rfl rfl rfl rfl ?_;intro _))|refine o_head0 rfl ?_|refine o_end ?_|refine o_head1 rfl ?_|refine wp_seq ?_|refine o_region ?_|refine wp_block ?_|refine wp_skip ?_|refine wp_exit ?_|(refine w_condD rfl ?_ ?_<;>intro h)|(refine w_cond rfl ?_ ?_<;>intro h<;>try exact Bool.noConfusion h)|refine w_ret (Δ ++ S) (vs:=[_,_]) rfl (Res.tmp rfl (Res.tmp rfl Res.nil)) ?_|refine w_ret (S) (vs:=[_,_]) rfl (Res.tmp rfl (Res.tmp rfl Res.nil)) ?_|(show WP _ _ _ _ (.region 9 _ true) _ _ _ _;refine o_drawnZ [Zf 0,Zf 1,Zf 2,Zf 3,Zf 4,Zf 5,Zf 6,Zf 7,Zf 8,Zf 9,Zf 10,Zf 11,Zf 12] [] mixed (by kernel_rfl) (List.nil_sublist _) ?_)
  · refine ⟨(countSrc n p k).length - (j + 1), by omega, _, .append_left (.cons _ (.cons _ (.cons _ (List.Sublist.refl _)))) _, j + 1, _, Δ2, _, rfl, by omega, rfl, rfl, keep ⟨rfl, rfl, rfl, rfl, rfl, rfl, rfl, rfl, rfl, trivial⟩, ?_⟩
    rw [filter_snoc (by omega), if_pos (moves_pos (by omega) (rng_ne.1 h))]
    exact ho2
  · refine ⟨(countSrc n p k).length - (j + 1), by omega, _, .cons _ (.cons _ (List.Sublist.refl _)), j + 1, _, Δ, _, rfl, by omega, rfl, rfl, keep ⟨rfl, rfl, rfl, rfl, rfl, rfl, rfl, rfl, rfl, trivial⟩, ?_⟩
    rw [filter_snoc (by omega), if_neg (moves_neg (by omega) (fun hc => h (rng_ne.2 hc))), List.append_nil]
    exact ho
  · have : j = (countSrc n p k).length := by omega
    subst this
    refine ⟨Δ, _, ?_, by rw [hf]; rfl, rfl⟩
    rw [hml]
    rw [List.take_length] at ho ⊢
    exact ho
end Go.Proofs.YtpnnmklacialgaaGreat
namespace Go.Proofs.YtpnnmklacialgaaGreat
open Go.Conc
attribute [local irreducible] WP OpF OpX CallW SemH retQ AnyF RoundW
theorem own_lit {α : Type} [En : Enc α] {b : Nat} {c : Array Value} {tb : TypeId} {xs : List α} (hc : c.toList = rowL xs) {k : Nat} (hk : xs.length = k) : Own (.slice (some ⟨b, 0, none⟩) k k) xs [⟨b, true, .cells c tb (0, 0)⟩] := by
  subst hk
  exact .some (isRow_of (l := []) (r := []) (by simpa using hc)) (by rw [← Array.length_toList, hc, rowL_length]) (Nat.le_refl _)
section
variable {P : Program} {E : Env} {fn n : Nat} {K : Tm → List Deferred → Ents → Prop} {t : Tm} {ds : List Deferred} {S Z : Ents} {ops : Array Oper} {i : Nat} {rest : List (Nat × Bool)}
theorem anyF_v1 {o : Oper} (hc : (chk1 ops i true rest && !actAt ops i) = true) (ho : ops[i]? = some o) (h : OpX P E fn n ops false i true [] o (fun t ds S => AnyF P E n ops rest K t ds Z S) t ds Z Z S) : AnyF P E n ops ((i, true) :: rest) K t ds Z S := anyF_v (z := true) hc ho h
theorem anyF_v0 {o : Oper} (hc : (chk1 ops i false rest && !actAt ops i) = true) (ho : ops[i]? = some o) (h : OpX P E fn n ops false i false [] o (fun t ds S => AnyF P E n ops rest K t ds Z S) t ds S Z S) : AnyF P E n ops ((i, false) :: rest) K t ds Z S := anyF_v (z := false) hc ho h
end
def partT (ms : List MainG) (U L F : List RangeG) (i j : Nat) : List RangeG := [partOf U i, partOf L i] ++ (belowT ms (idOf ms i) j).map (partOf F)
def partB (ms : List MainG) (U L F : List RangeG) (i : Nat) : List RangeG := partT ms U L F i ms.length
theorem partT_succ {ms : List MainG} {U L F : List RangeG} {i j : Nat} (h : j < ms.length) : partT ms U L F i (j + 1) = partT ms U L F i j ++ (if ms[j].up = idOf ms i then [partOf F j] else []) := by
  unfold partT
  rw [belowT_succ h, List.map_append, List.append_assoc]
  split <;> simp
theorem partT_len {ms : List MainG} {U L F : List RangeG} {i j : Nat} : (partT ms U L F i j).length ≤ j + 2 := by
  unfold partT
  have := belowT_len (ms := ms) (id := idOf ms i) (j := j)
  simp only [List.length_append, List.length_cons, List.length_nil, List.length_map]
  omega
theorem c145 (E : Env) (S : Ents) (b : Nat) (mn : Bool) (fz : Nat × Nat) (ms : List MainG) (U L F : List RangeG) (vm vu vl vf ve : Value) (i : Nat) (hin : (⟨b, mn, .cells #[vm, vu, vl, vf, ve] 130 fz⟩ : Ent) ∈ S) (hm : SlV S vm ms) (hu : SlV S vu U) (hl : SlV S vl L) (hf : SlV S vf F)
    (hU : U.length = ms.length) (hL : L.length = ms.length) (hF : F.length = ms.length) (hi : i < ms.length) (h12 : ms.length ≤ 12) :
    CallW Tryz.prog E 145 #[.pointer (some ⟨b, 0, none⟩), iv i] S fun r S' => ∃ Δ, Own r (partB ms U L F i) Δ ∧ S' = Δ ++ S := by
  obtain ⟨qm, cm, rfl, _, hrm⟩ := hm
  obtain ⟨qu, cu, rfl, _, hru⟩ := hu
  obtain ⟨ql, cl, rfl, _, hrl⟩ := hl
  obtain ⟨qf, cf, rfl, _, hrf⟩ := hf
  have i1 := SlI.mk hrm
  have i2 := SlI.mk hru
  have i3 := SlI.mk hrl
  have i4 := SlI.mk hrf
  have i5 : InS b S mn (.cells #[.slice qm ms.length cm, .slice qu U.length cu, .slice ql L.length cl, .slice qf F.length cf, ve] 130 fz) := ⟨hin⟩
  refine call_in (args := [.pointer (some ⟨b, 0, none⟩), iv i]) Tryz.func145 (by decide) rfl rfl ?_
  have hid : idOf ms i = ms[i].id := by unfold idOf; rw [List.getElem?_eq_getElem hi]
  repeat' first|(refine gX ?_;first|refine o_v rfl rfl ?_|(refine gL ?_;first|refine o_load rfl rfl rfl rfl ?_|refine o_loadR rfl rfl rfl (by omega) rfl rfl ?_|refine o_loadW rfl rfl rfl rfl ?_|refine o_loadK rfl rfl rfl ?_)|(refine gF ?_;first|refine o_fieldI rfl rfl rfl rfl ?_|refine o_field rfl rfl rfl rfl ?_)|(refine gB ?_;first|refine o_add rfl rfl rfl rfl (by omega) ?_|refine o_eqNil rfl rfl rfl rfl rfl ?_)|(refine gI ?_;first|refine o_indexS rfl rfl rfl rfl rfl rfl (by omega) ?_|refine o_index rfl rfl rfl rfl rfl (by omega) ?_)|(refine gS ?_;first|refine o_store rfl rfl rfl rfl rfl rfl ?_|refine o_storeW rfl rfl rfl rfl rfl rfl ?_)|(refine o_allocZ rfl rfl ?_;intro _)|(refine o_bslice rfl rfl rfl rfl rfl rfl rfl ?_;intro _))|refine o_head0 rfl ?_|refine o_end ?_|refine o_head1 rfl ?_|refine wp_seq ?_|refine o_region ?_|refine wp_block ?_|refine wp_skip ?_|refine wp_exit ?_|(refine w_condD rfl ?_ ?_<;>intro h)|(refine w_cond rfl ?_ ?_<;>intro h<;>try exact Bool.noConfusion h)|refine w_ret (S) (vs:=[_]) rfl (Res.tmp rfl Res.nil) ?_|(show WP _ _ _ _ (.region 1 _ true) _ _ _ _;refine o_drawnZ [Zf 0,Zf 1,Zf 2,Zf 3,Zf 4,Zf 5,Zf 6,Zf 7,Zf 8,Zf 9,Zf 10,Zf 11,Zf 12,Zf 13,Zt 14,Zf 15] [] mixed (by kernel_rfl) (List.nil_sublist _) ?_)|(show WP _ _ _ _ (.region 5 _ true) _ _ _ _;refine o_drawnZ [Zf 0,Zf 1,Zf 2,Zf 3,Zf 4,Zf 5,Zf 6,Zf 7,Zf 8,Zf 9,Zf 10] [] mixed (by kernel_rfl) (List.nil_sublist _) ?_)
  rename_i b0
  refine wp_loop (fun i' t ds S' => ∃ (j : Nat) (w : Value) (Δ : Ents) (t0 : Tm), i' = ms.length - j ∧ j ≤ ms.length ∧ [] = ds ∧ Δ ++ S = S' ∧ t = den [(28, iv j), (27, iv ms.length), (26, .slice qm ms.length cm), (5, w), (0, .pointer (some ⟨b, 0, none⟩)), (1, iv i)] t0 ∧ Own w (partT ms U L F i j) Δ)
    ms.length ⟨0, _, [_], _, rfl, Nat.zero_le _, rfl, rfl, keep ⟨rfl, rfl, rfl, rfl, rfl, rfl, trivial⟩, own_lit (xs := [partOf U i, partOf L i]) (by rw [partOf_get (by omega), partOf_get (by omega)]; rfl) rfl⟩ ?_
  rintro i' t ds S' ⟨j, w, Δ, t0, rfl, hj, rfl, rfl, rfl, ho⟩
  have hpl := partT_len (ms := ms) (U := U) (L := L) (F := F) (i := i) (j := j)
  obtain ⟨wa, wc, rfl, _, _⟩ := ho.slv
  repeat' first|(refine gX ?_;first|refine o_v rfl rfl ?_|(refine gL ?_;first|refine o_load rfl rfl rfl rfl ?_|refine o_loadR rfl rfl rfl (by omega) rfl rfl ?_|refine o_loadW rfl rfl rfl rfl ?_|refine o_loadK rfl rfl rfl ?_)|(refine gF ?_;first|refine o_fieldI rfl rfl rfl rfl ?_|refine o_field rfl rfl rfl rfl ?_)|(refine gB ?_;first|refine o_add rfl rfl rfl rfl (by omega) ?_|refine o_eqNil rfl rfl rfl rfl rfl ?_)|(refine gC ?_;first|(refine o_append1 (F[j]'(by first|done|omega)) rfl rfl rfl rfl ho rfl (by omega) rfl rfl rfl rfl ?_;intro w2 Δ2 ho2;refine ⟨inferInstance, ?_⟩))|(refine gI ?_;first|refine o_indexS rfl rfl rfl rfl rfl rfl (by omega) ?_|refine o_indexS rfl rfl rfl rfl rfl rfl (by omega) ?_|refine o_index rfl rfl rfl rfl rfl (by omega) ?_)|(refine gS ?_;first|refine o_store rfl rfl rfl rfl rfl rfl ?_|refine o_storeW rfl rfl rfl rfl rfl rfl ?_)|(refine o_allocZ rfl rfl ?_;intro _)|(refine o_bslice rfl rfl rfl rfl rfl rfl rfl ?_;intro _))|refine o_head0 rfl ?_|refine o_end ?_|refine o_head1 rfl ?_|refine wp_seq ?_|refine o_region ?_|refine wp_block ?_|refine wp_skip ?_|refine wp_exit ?_|(refine w_condD rfl ?_ ?_<;>intro h)|(refine w_cond rfl ?_ ?_<;>intro h<;>try exact Bool.noConfusion h)|refine w_ret (Δ ++ S) (vs:=[_]) rfl (Res.tmp rfl Res.nil) ?_|refine w_ret (S) (vs:=[_]) rfl (Res.tmp rfl Res.nil) ?_|(show WP _ _ _ _ (.region 1 _ true) _ _ _ _;refine o_drawnZ [Zf 0,Zf 1,Zf 2,Zf 3,Zf 4,Zf 5,Zf 6,Zf 7,Zf 8,Zf 9,Zf 10,Zf 11,Zf 12,Zf 13,Zt 14,Zf 15] [] mixed (by kernel_rfl) (List.nil_sublist _) ?_)|(show WP _ _ _ _ (.region 5 _ true) _ _ _ _;refine o_drawnZ [Zf 0,Zf 1,Zf 2,Zf 3,Zf 4,Zf 5,Zf 6,Zf 7,Zf 8,Zf 9,Zf 10] [] mixed (by kernel_rfl) (List.nil_sublist _) ?_)
  · refine ⟨ms.length - (j + 1), by omega, _, .append_left (.cons _ (.cons _ (List.Sublist.refl _))) _, j + 1, _, Δ2, _, rfl, by omega, rfl, rfl, keep ⟨rfl, rfl, rfl, rfl, rfl, rfl, trivial⟩, ?_⟩
    rw [partT_succ (by omega), if_pos (by rw [hid]; exact h), partOf_get (by omega)]
    exact ho2
  · refine ⟨ms.length - (j + 1), by omega, _, .cons _ (List.Sublist.refl _), j + 1, _, Δ, _, rfl, by omega, rfl, rfl, keep ⟨rfl, rfl, rfl, rfl, rfl, rfl, trivial⟩, ?_⟩
    rw [partT_succ (by omega), if_neg (by rw [hid]; exact h), List.append_nil]
    exact ho
  · have : j = ms.length := by omega
    subst this
    exact ⟨Δ, ho, rfl⟩
def childOf (ms : List MainG) (i k : Nat) : Bool := match ms[k]? with | some m => decide (m.up = idOf ms i) | none => false
def tgt (ms : List MainG) (F : List RangeG) (i : Nat) (all flow : RangeG) : Nat → List RangeG
  | 0 => F
  | k + 1 => if childOf ms i k = true then (tgt ms F i all flow k).set k (tightR (partOf F k) all flow) else tgt ms F i all flow k
theorem tgt_len {ms : List MainG} {F : List RangeG} {i : Nat} {all flow : RangeG} : ∀ {k : Nat}, (tgt ms F i all flow k).length = F.length
  | 0 => rfl
  | k + 1 => by
    unfold tgt
    split
    · rw [List.length_set]; exact tgt_len
    · exact tgt_len
theorem tgt_get {ms : List MainG} {F : List RangeG} {i : Nat} {all flow : RangeG} : ∀ {k q : Nat}, k ≤ q → (tgt ms F i all flow k)[q]? = F[q]?
  | 0, q, _ => rfl
  | k + 1, q, h => by
    unfold tgt
    split
    · rw [List.getElem?_set_ne (by omega)]; exact tgt_get (by omega)
    · exact tgt_get (by omega)
theorem childOf_eq {ms : List MainG} {i k : Nat} (h : k < ms.length) : childOf ms i k = decide (ms[k].up = idOf ms i) := by
  unfold childOf
  rw [List.getElem?_eq_getElem h]
theorem tgt_getj {ms : List MainG} {F : List RangeG} {i k : Nat} {all flow : RangeG} (h : k < (tgt ms F i all flow k).length) : (tgt ms F i all flow k)[k] = F[k]'(by rw [tgt_len] at h; exact h) := by
  have := tgt_get (ms := ms) (F := F) (i := i) (all := all) (flow := flow) (k := k) (q := k) (Nat.le_refl _)
  rw [List.getElem?_eq_getElem h, List.getElem?_eq_getElem (by rw [tgt_len] at h; exact h)] at this
  exact Option.some.inj this
theorem tgt_succ {ms : List MainG} {F : List RangeG} {i k : Nat} {all flow : RangeG} : tgt ms F i all flow (k + 1) = if childOf ms i k = true then (tgt ms F i all flow k).set k (tightR (partOf F k) all flow) else tgt ms F i all flow k := rfl
theorem tgt_part {ms : List MainG} {F : List RangeG} {i k : Nat} {all flow : RangeG} (h : k < (tgt ms F i all flow k).length) : (tgt ms F i all flow k)[k] = partOf F k := by
  rw [tgt_getj h, partOf_get]
theorem c147 (E : Env) (S : Ents) (b : Nat) (mn : Bool) (fz : Nat × Nat) (ms : List MainG) (U L F : List RangeG) (vm vu vl vf ve : Value) (Δu Δl Δf : Ents) (i : Nat) (hin : (⟨b, mn, .cells #[vm, vu, vl, vf, ve] 130 fz⟩ : Ent) ∈ S) (hm : SlV S vm ms) (hu : Own vu U Δu) (hl : Own vl L Δl) (hf : Own vf F Δf)
    (hU : U.length = ms.length) (hL : L.length = ms.length) (hF : F.length = ms.length) (hi : i < ms.length) (h12 : ms.length ≤ 12) (bU : ∀ x ∈ U, Bd 1000000000000000 x) (bL : ∀ x ∈ L, Bd 1000000000000000 x) (bF : ∀ x ∈ F, Bd 1000000000000000 x) :
    CallW Tryz.prog E 147 #[.pointer (some ⟨b, 0, none⟩), iv i] (Δl ++ (Δu ++ (Δf ++ S))) fun r S' => ∃ Δu' Δl' Δf', Own vu (U.set i (tightR (partOf U i) (sumR (partB ms U L F i)) (partOf F i))) Δu' ∧ Own vl (L.set i (tightR (partOf L i) (sumR (partB ms U L F i)) (partOf F i))) Δl' ∧
      Own vf (tgt ms F i (sumR (partB ms U L F i)) (partOf F i) ms.length) Δf' ∧ S' = Δl' ++ (Δu' ++ (Δf' ++ S)) := by
  have hu0 := hu.slv
  have hl0 := hl.slv
  have hf0 := hf.slv
  have hm0 := hm
  obtain ⟨qm, cm, rfl, _, hrm⟩ := hm
  obtain ⟨qu, cu, rfl, _, hru⟩ := hu0
  obtain ⟨ql, cl, rfl, _, hrl⟩ := hl0
  obtain ⟨qf, cf, rfl, _, hrf⟩ := hf0
  have i1 := SlI.mk hrm
  have i2 := SlI.mk hru
  have i3 := SlI.mk hrl
  have i4 := SlI.mk hrf
  have i5 : InS b S mn (.cells #[.slice qm ms.length cm, .slice qu U.length cu, .slice ql L.length cl, .slice qf F.length cf, ve] 130 fz) := ⟨hin⟩
  refine CallW.weaken (R := fun r S' => ∃ Δu' Δl' Δf', Own (.slice qu U.length cu) (U.set i (tightR (partOf U i) (sumR (partB ms U L F i)) (partOf F i))) Δu' ∧ Own (.slice ql L.length cl) (L.set i (tightR (partOf L i) (sumR (partB ms U L F i)) (partOf F i))) Δl' ∧
      Own (.slice qf F.length cf) (tgt ms F i (sumR (partB ms U L F i)) (partOf F i) ms.length) Δf' ∧ List.Sublist (Δl' ++ (Δu' ++ (Δf' ++ S))) S') ?_ (fun v S' ⟨Δu', Δl', Δf', h1, h2, h3, hs⟩ => ⟨_, hs, Δu', Δl', Δf', h1, h2, h3, rfl⟩)
  refine call_in (args := [.pointer (some ⟨b, 0, none⟩), iv i]) Tryz.func147 (by decide) rfl rfl ?_
  have hid : idOf ms i = ms[i].id := by unfold idOf; rw [List.getElem?_eq_getElem hi]
  have hpb : ∀ x ∈ partB ms U L F i, Bd 1000000000000000 x := fun x hx => by
    unfold partB partT at hx
    rcases List.mem_append.1 hx with hx | hx
    · rcases List.mem_cons.1 hx with rfl | hx
      · exact bd_part (by omega) bU
      · rw [List.mem_singleton.1 hx]; exact bd_part (by omega) bL
    · obtain ⟨k, _, rfl⟩ := List.mem_map.1 hx
      exact bd_part (by omega) bF
  have hpl : (partB ms U L F i).length ≤ 14 := Nat.le_trans partT_len (by omega)
  generalize hall : sumR (partB ms U L F i) = all
  have hab : Bd 1000000000000000000 all := by
    rw [← hall]
    exact (sumR_bd (by omega) hpb).mono (by omega)
  have c103' : ∀ E S v, SlV S v (partB ms U L F i) → CallW Tryz.prog E 103 #[v] S fun r S' => r = .agg (rangeC all) ∧ S' = S := fun E S v hv => by rw [← hall]; exact c103 E S _ v hv (by omega) hpb
  repeat' first|(refine gX ?_;first|refine o_v rfl rfl ?_|(refine gL ?_;first|refine o_load rfl rfl rfl rfl ?_|refine o_loadR rfl rfl rfl (by omega) rfl rfl ?_|refine o_loadW rfl rfl rfl rfl ?_|refine o_loadK rfl rfl rfl ?_)|(refine gF ?_;first|refine o_fieldI rfl rfl rfl rfl ?_|refine o_field rfl rfl rfl rfl ?_)|(refine gB ?_;first|refine o_add rfl rfl rfl rfl (by omega) ?_|refine o_eqNil rfl rfl rfl rfl rfl ?_)|(refine gC ?_;first|(refine o_callZ rfl rfl rfl (c145 _ _ b mn fz ms U L F _ _ _ _ _ i InS.h (hm0.sub Sb.h) (hu.slv.sub Sb.h) (hl.slv.sub Sb.h) (hf.slv.sub Sb.h) hU hL hF hi h12) ?_;rintro r _ ⟨Δp, hop, rfl⟩;refine ⟨inferInstance, ?_⟩)|refine o_callF rfl rfl rfl (c103' _ _ _ (hop.slv.sub Sb.h)) ?_|refine o_callF rfl rfl rfl (c180 _ _ (U[i]'(by first|done|omega)) all (F[i]'(by first|done|omega)) ((bU _ (List.getElem_mem _)).mono (by omega)) hab ((bF _ (List.getElem_mem _)).mono (by omega))) ?_|refine o_callF rfl rfl rfl (c180 _ _ (L[i]'(by first|done|omega)) all (F[i]'(by first|done|omega)) ((bL _ (List.getElem_mem _)).mono (by omega)) hab ((bF _ (List.getElem_mem _)).mono (by omega))) ?_)|(refine gI ?_;first|refine o_indexS rfl rfl rfl rfl rfl rfl (by omega) ?_|refine o_indexS rfl rfl rfl rfl rfl rfl (by omega) ?_|refine o_index rfl rfl rfl rfl rfl (by omega) ?_)|(refine gS ?_;first|refine o_store rfl rfl rfl rfl rfl rfl ?_|refine o_storeW rfl rfl rfl rfl rfl rfl ?_)|(refine o_allocZ rfl rfl ?_;intro _))|refine o_head0 rfl ?_|refine o_end ?_|refine o_head1 rfl ?_|(show WP _ _ _ _ (.seq (.region 2 _ _) _) _ _ _ _;rename_i b4 b5;refine wp_cut (fun t ds S' => ∃ (t0 : Tm) (b6 : Nat), [] = ds ∧ ⟨b6, true, .cells #[.int .i64 (tightR (U[i]'(by first|done|omega)) all (F[i]'(by first|done|omega))).lo, .int .i64 (tightR (U[i]'(by first|done|omega)) all (F[i]'(by first|done|omega))).hi] 70 (0, 0)⟩ :: ⟨b5, true, .cells #[.int .i64 (F[i]'(by first|done|omega)).lo, .int .i64 (F[i]'(by first|done|omega)).hi] 70 (0, 0)⟩ :: ⟨b4, true, .cells #[.int .i64 all.lo, .int .i64 all.hi] 70 (0, 0)⟩ :: (Δl ++ (Δu ++ (Δf ++ S))) = S' ∧ t = den [(0, .pointer (some ⟨b, 0, none⟩)), (1, iv i), (4, .pointer (some ⟨b4, 0, none⟩)), (5, .pointer (some ⟨b5, 0, none⟩)), (6, .pointer (some ⟨b6, 0, none⟩))] t0) ?_ ?_)|refine wp_seq ?_|refine o_region ?_|refine wp_block ?_|refine wp_skip ?_|refine wp_exit ?_|(refine w_condD rfl ?_ ?_<;>intro h)|(refine w_cond rfl ?_ ?_<;>intro h<;>try exact Bool.noConfusion h)|refine w_ret (S) (vs:=[]) rfl Res.nil ?_|refine anyF_of (fn:=147) (by decide +kernel) ?_|refine anyF_v1 (fn:=147) (by decide +kernel) rfl ?_|refine anyF_v0 (fn:=147) (by decide +kernel) rfl ?_|(show WP _ _ _ _ (.region 2 _ true) _ _ _ _;refine o_drawnA [Zt 0,Zt 1,Zt 2,Zt 3,Zt 4,Zt 5,Zt 6,Zt 7,Zt 8,Zf 9,Zf 10,Zf 11] mixed (by kernel_rfl) ?_)|refine o_br2 (fn:=147) (l:=[(9, false), (10, false), (11, false)]) 9 10 [(10, false), (11, false)] [(9, false), (11, false)] (by kernel_rfl) rfl rfl ?_ ?_|(show WP _ _ _ _ (.region 3 _ true) _ _ _ _;refine o_drawnA [Zt 0,Zt 1,Zt 2,Zt 3,Zt 4,Zt 5,Zt 6,Zt 7,Zt 8,Zf 9,Zf 10,Zf 11] mixed (by kernel_rfl) ?_)|refine o_br2 (fn:=147) (l:=[(9, false), (10, false), (11, false)]) 9 10 [(10, false), (11, false)] [(9, false), (11, false)] (by kernel_rfl) rfl rfl ?_ ?_|(show WP _ _ _ _ (.region 7 _ true) _ _ _ _;refine o_drawnZ [Zf 0,Zf 1,Zf 2,Zf 3,Zf 4,Zf 5,Zf 6,Zf 7,Zf 8,Zf 9,Zf 10] [] mixed (by kernel_rfl) (List.nil_sublist _) ?_)|(show WP _ _ _ _ (.region 8 _ true) _ _ _ _;refine o_drawn [Zt 0,Zt 1,Zt 2,Zt 3,Zt 4,Zf 5,Zf 6,Zf 7,Zf 8,Zf 9,Zf 10,Zf 11,Zf 12,Zf 13,Zf 14,Zf 15,Zt 16] mixed (by kernel_rfl) ?_)|(show WP _ _ _ _ (.region 10 _ true) _ _ _ _;refine o_drawnZ [Zf 0,Zf 1,Zf 2,Zf 3,Zf 4,Zf 5,Zf 6,Zt 7] [] mixed (by kernel_rfl) (List.nil_sublist _) ?_)|(show WP _ _ _ _ (.region 11 _ true) _ _ _ _;refine o_drawnZ [Zf 0,Zf 1,Zf 2,Zf 3,Zf 4,Zf 5,Zf 6,Zt 7] [] mixed (by kernel_rfl) (List.nil_sublist _) ?_)
  · exact ⟨_, .cons_cons _ (.cons_cons _ (.cons_cons _ (List.sublist_append_right _ _))), _, _, rfl, rfl, keep ⟨rfl, rfl, rfl, rfl, rfl, trivial⟩⟩
  · exact ⟨_, .cons_cons _ (.cons_cons _ (.cons_cons _ (List.sublist_append_right _ _))), _, _, rfl, rfl, keep ⟨rfl, rfl, rfl, rfl, rfl, trivial⟩⟩
  rintro _ _ _ ⟨t0, b6, rfl, rfl, rfl⟩
  repeat' first|(refine gX ?_;first|refine o_v rfl rfl ?_|(refine gL ?_;first|refine o_load rfl rfl rfl rfl ?_|refine o_loadR rfl rfl rfl (by omega) rfl rfl ?_|refine o_loadW rfl rfl rfl rfl ?_|refine o_loadK rfl rfl rfl ?_)|(refine gF ?_;first|refine o_fieldI rfl rfl rfl rfl ?_|refine o_field rfl rfl rfl rfl ?_)|(refine gB ?_;first|refine o_add rfl rfl rfl rfl (by omega) ?_|refine o_eqNil rfl rfl rfl rfl rfl ?_)|(refine gC ?_;first|refine o_callF rfl rfl rfl (c180 _ _ (L[i]'(by first|done|omega)) all (F[i]'(by first|done|omega)) ((bL _ (List.getElem_mem _)).mono (by omega)) hab ((bF _ (List.getElem_mem _)).mono (by omega))) ?_)|(refine gI ?_;first|refine o_indexS rfl rfl rfl rfl rfl rfl (by omega) ?_|refine o_indexS rfl rfl rfl rfl rfl rfl (by omega) ?_|refine o_index rfl rfl rfl rfl rfl (by omega) ?_)|(refine gS ?_;first|refine o_store rfl rfl rfl rfl rfl rfl ?_|refine o_storeW rfl rfl rfl rfl rfl rfl ?_)|(refine o_allocZ rfl rfl ?_;intro _))|refine o_head0 rfl ?_|refine o_end ?_|refine o_head1 rfl ?_|(show WP _ _ _ _ (.seq (.region 3 _ _) _) _ _ _ _;refine wp_cut (fun t ds S' => ∃ (t0 : Tm) (b7 : Nat), [] = ds ∧ ⟨b7, true, .cells #[.int .i64 (tightR (L[i]'(by first|done|omega)) all (F[i]'(by first|done|omega))).lo, .int .i64 (tightR (L[i]'(by first|done|omega)) all (F[i]'(by first|done|omega))).hi] 70 (0, 0)⟩ :: ⟨b6, true, .cells #[.int .i64 (tightR (U[i]'(by first|done|omega)) all (F[i]'(by first|done|omega))).lo, .int .i64 (tightR (U[i]'(by first|done|omega)) all (F[i]'(by first|done|omega))).hi] 70 (0, 0)⟩ :: ⟨b5, true, .cells #[.int .i64 (F[i]'(by first|done|omega)).lo, .int .i64 (F[i]'(by first|done|omega)).hi] 70 (0, 0)⟩ :: ⟨b4, true, .cells #[.int .i64 all.lo, .int .i64 all.hi] 70 (0, 0)⟩ :: (Δl ++ (Δu ++ (Δf ++ S))) = S' ∧ t = den [(0, .pointer (some ⟨b, 0, none⟩)), (1, iv i), (4, .pointer (some ⟨b4, 0, none⟩)), (5, .pointer (some ⟨b5, 0, none⟩)), (6, .pointer (some ⟨b6, 0, none⟩)), (7, .pointer (some ⟨b7, 0, none⟩))] t0) ?_ ?_)|refine wp_seq ?_|refine o_region ?_|refine wp_block ?_|refine wp_skip ?_|refine wp_exit ?_|(refine w_condD rfl ?_ ?_<;>intro h)|(refine w_cond rfl ?_ ?_<;>intro h<;>try exact Bool.noConfusion h)|refine w_ret (S) (vs:=[]) rfl Res.nil ?_|refine anyF_of (fn:=147) (by decide +kernel) ?_|refine anyF_v1 (fn:=147) (by decide +kernel) rfl ?_|refine anyF_v0 (fn:=147) (by decide +kernel) rfl ?_|(show WP _ _ _ _ (.region 2 _ true) _ _ _ _;refine o_drawnA [Zt 0,Zt 1,Zt 2,Zt 3,Zt 4,Zt 5,Zt 6,Zt 7,Zt 8,Zf 9,Zf 10,Zf 11] mixed (by kernel_rfl) ?_)|refine o_br2 (fn:=147) (l:=[(9, false), (10, false), (11, false)]) 9 10 [(10, false), (11, false)] [(9, false), (11, false)] (by kernel_rfl) rfl rfl ?_ ?_|(show WP _ _ _ _ (.region 3 _ true) _ _ _ _;refine o_drawnA [Zt 0,Zt 1,Zt 2,Zt 3,Zt 4,Zt 5,Zt 6,Zt 7,Zt 8,Zf 9,Zf 10,Zf 11] mixed (by kernel_rfl) ?_)|refine o_br2 (fn:=147) (l:=[(9, false), (10, false), (11, false)]) 9 10 [(10, false), (11, false)] [(9, false), (11, false)] (by kernel_rfl) rfl rfl ?_ ?_|(show WP _ _ _ _ (.region 7 _ true) _ _ _ _;refine o_drawnZ [Zf 0,Zf 1,Zf 2,Zf 3,Zf 4,Zf 5,Zf 6,Zf 7,Zf 8,Zf 9,Zf 10] [] mixed (by kernel_rfl) (List.nil_sublist _) ?_)|(show WP _ _ _ _ (.region 8 _ true) _ _ _ _;refine o_drawn [Zt 0,Zt 1,Zt 2,Zt 3,Zt 4,Zf 5,Zf 6,Zf 7,Zf 8,Zf 9,Zf 10,Zf 11,Zf 12,Zf 13,Zf 14,Zf 15,Zt 16] mixed (by kernel_rfl) ?_)|(show WP _ _ _ _ (.region 10 _ true) _ _ _ _;refine o_drawnZ [Zf 0,Zf 1,Zf 2,Zf 3,Zf 4,Zf 5,Zf 6,Zt 7] [] mixed (by kernel_rfl) (List.nil_sublist _) ?_)|(show WP _ _ _ _ (.region 11 _ true) _ _ _ _;refine o_drawnZ [Zf 0,Zf 1,Zf 2,Zf 3,Zf 4,Zf 5,Zf 6,Zt 7] [] mixed (by kernel_rfl) (List.nil_sublist _) ?_)
  · exact ⟨_, List.Sublist.refl _, _, _, rfl, rfl, keep ⟨rfl, rfl, rfl, rfl, rfl, rfl, trivial⟩⟩
  · exact ⟨_, List.Sublist.refl _, _, _, rfl, rfl, keep ⟨rfl, rfl, rfl, rfl, rfl, rfl, trivial⟩⟩
  rintro _ _ _ ⟨t0, b7, rfl, rfl, rfl⟩
  repeat' first|(refine gX ?_;first|refine o_v rfl rfl ?_|(refine gL ?_;first|refine o_load rfl rfl rfl rfl ?_|refine o_loadR rfl rfl rfl (by omega) rfl rfl ?_|refine o_loadW rfl rfl rfl rfl ?_|refine o_loadK rfl rfl rfl ?_)|(refine gF ?_;first|refine o_fieldI rfl rfl rfl rfl ?_|refine o_field rfl rfl rfl rfl ?_)|(refine gB ?_;first|refine o_add rfl rfl rfl rfl (by omega) ?_|refine o_eqNil rfl rfl rfl rfl rfl ?_)|(refine gI ?_;first|refine o_indexS rfl rfl rfl rfl rfl rfl (by omega) ?_|refine o_index rfl rfl rfl rfl rfl (by omega) ?_)|(refine gS ?_;first|refine o_store rfl rfl rfl rfl rfl rfl ?_|refine o_storeW rfl rfl rfl rfl rfl rfl ?_)|(refine o_allocZ rfl rfl ?_;intro _))|refine o_head0 rfl ?_|refine o_end ?_|refine o_head1 rfl ?_|refine wp_seq ?_|refine o_region ?_|refine wp_block ?_|refine wp_skip ?_|refine wp_exit ?_|(refine w_condD rfl ?_ ?_<;>intro h)|(refine w_cond rfl ?_ ?_<;>intro h<;>try exact Bool.noConfusion h)|refine w_ret (S) (vs:=[]) rfl Res.nil ?_|refine anyF_of (fn:=147) (by decide +kernel) ?_|refine anyF_v1 (fn:=147) (by decide +kernel) rfl ?_|refine anyF_v0 (fn:=147) (by decide +kernel) rfl ?_|(show WP _ _ _ _ (.region 2 _ true) _ _ _ _;refine o_drawnA [Zt 0,Zt 1,Zt 2,Zt 3,Zt 4,Zt 5,Zt 6,Zt 7,Zt 8,Zf 9,Zf 10,Zf 11] mixed (by kernel_rfl) ?_)|refine o_br2 (fn:=147) (l:=[(9, false), (10, false), (11, false)]) 9 10 [(10, false), (11, false)] [(9, false), (11, false)] (by kernel_rfl) rfl rfl ?_ ?_|(show WP _ _ _ _ (.region 3 _ true) _ _ _ _;refine o_drawnA [Zt 0,Zt 1,Zt 2,Zt 3,Zt 4,Zt 5,Zt 6,Zt 7,Zt 8,Zf 9,Zf 10,Zf 11] mixed (by kernel_rfl) ?_)|refine o_br2 (fn:=147) (l:=[(9, false), (10, false), (11, false)]) 9 10 [(10, false), (11, false)] [(9, false), (11, false)] (by kernel_rfl) rfl rfl ?_ ?_|(show WP _ _ _ _ (.region 7 _ true) _ _ _ _;refine o_drawnZ [Zf 0,Zf 1,Zf 2,Zf 3,Zf 4,Zf 5,Zf 6,Zf 7,Zf 8,Zf 9,Zf 10] [] mixed (by kernel_rfl) (List.nil_sublist _) ?_)|(show WP _ _ _ _ (.region 8 _ true) _ _ _ _;refine o_drawn [Zt 0,Zt 1,Zt 2,Zt 3,Zt 4,Zf 5,Zf 6,Zf 7,Zf 8,Zf 9,Zf 10,Zf 11,Zf 12,Zf 13,Zf 14,Zf 15,Zt 16] mixed (by kernel_rfl) ?_)|(show WP _ _ _ _ (.region 10 _ true) _ _ _ _;refine o_drawnZ [Zf 0,Zf 1,Zf 2,Zf 3,Zf 4,Zf 5,Zf 6,Zt 7] [] mixed (by kernel_rfl) (List.nil_sublist _) ?_)|(show WP _ _ _ _ (.region 11 _ true) _ _ _ _;refine o_drawnZ [Zf 0,Zf 1,Zf 2,Zf 3,Zf 4,Zf 5,Zf 6,Zt 7] [] mixed (by kernel_rfl) (List.nil_sublist _) ?_)
  refine WP.perm ?_ (FrS.h (Δ := Δf))
  have hfi : F[i]'(by omega) = partOf F i := (partOf_get (by omega)).symm
  refine wp_loop (fun i' t ds S' => ∃ (j : Nat) (t0 : Tm) (Δ : Ents), i' = ms.length - j ∧ j ≤ ms.length ∧ [] = ds ∧ Δ ++ ⟨b7, true, .cells #[.int .i64 (tightR (L[i]'(by omega)) all (F[i]'(by omega))).lo, .int .i64 (tightR (L[i]'(by omega)) all (F[i]'(by omega))).hi] 70 (0, 0)⟩ :: ⟨b6, true, .cells #[.int .i64 (tightR (U[i]'(by omega)) all (F[i]'(by omega))).lo, .int .i64 (tightR (U[i]'(by omega)) all (F[i]'(by omega))).hi] 70 (0, 0)⟩ :: ⟨b5, true, .cells #[.int .i64 (F[i]'(by omega)).lo, .int .i64 (F[i]'(by omega)).hi] 70 (0, 0)⟩ :: ⟨b4, true, .cells #[.int .i64 all.lo, .int .i64 all.hi] 70 (0, 0)⟩ :: (Δl ++ (Δu ++ S)) = S' ∧
      t = den [(46, iv j), (45, iv ms.length), (44, .slice qm ms.length cm), (0, .pointer (some ⟨b, 0, none⟩)), (1, iv i), (4, .pointer (some ⟨b4, 0, none⟩)), (5, .pointer (some ⟨b5, 0, none⟩)), (6, .pointer (some ⟨b6, 0, none⟩)), (7, .pointer (some ⟨b7, 0, none⟩))] t0 ∧ Own (.slice qf F.length cf) (tgt ms F i all (F[i]'(by omega)) j) Δ)
    ms.length ⟨0, _, Δf, rfl, Nat.zero_le _, rfl, rfl, keep ⟨rfl, rfl, rfl, rfl, rfl, rfl, rfl, rfl, rfl, trivial⟩, hf⟩ ?_
  rintro i' t ds S' ⟨j, t0, Δ, rfl, hj, rfl, rfl, rfl, ho⟩
  obtain ⟨_, hrt⟩ := ho.sla
  have i6 := SlI.mk hrt
  have htl := tgt_len (ms := ms) (F := F) (i := i) (all := all) (flow := F[i]'(by omega)) (k := j)
  repeat' first|(refine gX ?_;first|refine o_v rfl rfl ?_|(refine gL ?_;first|refine o_load rfl rfl rfl rfl ?_|refine o_loadR rfl rfl rfl (by omega) rfl rfl ?_|refine o_loadW rfl rfl rfl rfl ?_|refine o_loadK rfl rfl rfl ?_)|(refine gF ?_;first|refine o_fieldI rfl rfl rfl rfl ?_|refine o_field rfl rfl rfl rfl ?_)|(refine gB ?_;first|refine o_add rfl rfl rfl rfl (by omega) ?_|refine o_eqNil rfl rfl rfl rfl rfl ?_)|(refine gC ?_;first|refine o_callF rfl rfl rfl (c180 _ _ ((tgt ms F i all (F[i]'(by first|done|omega)) j)[j]'(by first|done|omega)) all (F[i]'(by first|done|omega)) (by rw [tgt_getj]; exact (bF _ (List.getElem_mem _)).mono (by omega)) hab ((bF _ (List.getElem_mem _)).mono (by omega))) ?_)|(refine gI ?_;first|refine o_indexS rfl rfl rfl rfl rfl htl.symm (by omega) ?_|refine o_indexS rfl rfl rfl rfl rfl rfl (by omega) ?_|refine o_index rfl rfl rfl rfl rfl (by omega) ?_)|(refine gS ?_;first|(refine o_storeO (tightR ((tgt ms F i all (F[i]'(by first|done|omega)) j)[j]'(by first|done|omega)) all (F[i]'(by first|done|omega))) rfl rfl rfl ho (by omega) rfl rfl rfl rfl ?_;intro Δ2 ho2;refine ⟨_, inferInstance, ?_⟩)|refine o_store rfl rfl rfl rfl rfl rfl ?_|refine o_storeW rfl rfl rfl rfl rfl rfl ?_)|(refine o_allocZ rfl rfl ?_;intro _))|refine o_head0 rfl ?_|refine o_end ?_|refine o_head1 rfl ?_|refine wp_seq ?_|refine o_region ?_|refine wp_block ?_|refine wp_skip ?_|refine wp_exit ?_|(refine w_condD rfl ?_ ?_<;>intro h)|(refine w_cond rfl ?_ ?_<;>intro h<;>try exact Bool.noConfusion h)|refine w_ret (S) (vs:=[]) rfl Res.nil ?_|refine anyF_of (fn:=147) (by decide +kernel) ?_|refine anyF_v1 (fn:=147) (by decide +kernel) rfl ?_|refine anyF_v0 (fn:=147) (by decide +kernel) rfl ?_|(show WP _ _ _ _ (.region 2 _ true) _ _ _ _;refine o_drawnA [Zt 0,Zt 1,Zt 2,Zt 3,Zt 4,Zt 5,Zt 6,Zt 7,Zt 8,Zf 9,Zf 10,Zf 11] mixed (by kernel_rfl) ?_)|refine o_br2 (fn:=147) (l:=[(9, false), (10, false), (11, false)]) 9 10 [(10, false), (11, false)] [(9, false), (11, false)] (by kernel_rfl) rfl rfl ?_ ?_|(show WP _ _ _ _ (.region 3 _ true) _ _ _ _;refine o_drawnA [Zt 0,Zt 1,Zt 2,Zt 3,Zt 4,Zt 5,Zt 6,Zt 7,Zt 8,Zf 9,Zf 10,Zf 11] mixed (by kernel_rfl) ?_)|refine o_br2 (fn:=147) (l:=[(9, false), (10, false), (11, false)]) 9 10 [(10, false), (11, false)] [(9, false), (11, false)] (by kernel_rfl) rfl rfl ?_ ?_|(show WP _ _ _ _ (.region 7 _ true) _ _ _ _;refine o_drawnZ [Zf 0,Zf 1,Zf 2,Zf 3,Zf 4,Zf 5,Zf 6,Zf 7,Zf 8,Zf 9,Zf 10] [] mixed (by kernel_rfl) (List.nil_sublist _) ?_)|(show WP _ _ _ _ (.region 8 _ true) _ _ _ _;refine o_drawn [Zt 0,Zt 1,Zt 2,Zt 3,Zt 4,Zf 5,Zf 6,Zf 7,Zf 8,Zf 9,Zf 10,Zf 11,Zf 12,Zf 13,Zf 14,Zf 15,Zt 16] mixed (by kernel_rfl) ?_)|(show WP _ _ _ _ (.region 10 _ true) _ _ _ _;refine o_drawnZ [Zf 0,Zf 1,Zf 2,Zf 3,Zf 4,Zf 5,Zf 6,Zt 7] [] mixed (by kernel_rfl) (List.nil_sublist _) ?_)|(show WP _ _ _ _ (.region 11 _ true) _ _ _ _;refine o_drawnZ [Zf 0,Zf 1,Zf 2,Zf 3,Zf 4,Zf 5,Zf 6,Zt 7] [] mixed (by kernel_rfl) (List.nil_sublist _) ?_)
  · refine ⟨ms.length - (j + 1), by omega, _, .append_left (.cons _ (List.Sublist.refl _)) _, j + 1, _, Δ2, rfl, by omega, rfl, rfl, keep ⟨rfl, rfl, rfl, rfl, rfl, rfl, rfl, rfl, rfl, trivial⟩, ?_⟩
    have e := tgt_part (ms := ms) (F := F) (i := i) (k := j) (all := all) (flow := F[i]'(by omega)) (by omega)
    rw [tgt_succ, childOf_eq (by omega), if_pos (by rw [hid]; exact decide_eq_true h), ← e]
    exact ho2
  · refine ⟨ms.length - (j + 1), by omega, _, .cons _ (List.Sublist.refl _), j + 1, _, Δ, rfl, by omega, rfl, rfl, keep ⟨rfl, rfl, rfl, rfl, rfl, rfl, rfl, rfl, rfl, trivial⟩, ?_⟩
    rw [tgt_succ, childOf_eq (by omega), if_neg (by rw [hid]; simpa using h)]
    exact ho
  · have : j = ms.length := by omega
    subst this
    repeat' first|(refine gX ?_;first|refine o_v rfl rfl ?_|(refine gL ?_;first|refine o_load rfl rfl rfl rfl ?_|refine o_loadR rfl rfl rfl (by omega) rfl rfl ?_|refine o_loadW rfl rfl rfl rfl ?_|refine o_loadK rfl rfl rfl ?_)|(refine gF ?_;first|refine o_fieldI rfl rfl rfl rfl ?_|refine o_field rfl rfl rfl rfl ?_)|(refine gB ?_;first|refine o_add rfl rfl rfl rfl (by omega) ?_|refine o_eqNil rfl rfl rfl rfl rfl ?_)|(refine gI ?_;first|refine o_indexS rfl rfl rfl rfl rfl rfl (by omega) ?_|refine o_index rfl rfl rfl rfl rfl (by omega) ?_)|(refine gS ?_;first|(refine o_storeO (tightR (U[i]'(by first|done|omega)) all (F[i]'(by first|done|omega))) rfl rfl rfl hu (by omega) rfl rfl rfl rfl ?_;intro Δu2 hu2;refine ⟨_, inferInstance, ?_⟩)|(refine o_storeO (tightR (L[i]'(by first|done|omega)) all (F[i]'(by first|done|omega))) rfl rfl rfl hl (by omega) rfl rfl rfl rfl ?_;intro Δl2 hl2;refine ⟨_, inferInstance, ?_⟩)|refine o_store rfl rfl rfl rfl rfl rfl ?_|refine o_storeW rfl rfl rfl rfl rfl rfl ?_)|(refine o_allocZ rfl rfl ?_;intro _))|refine o_head0 rfl ?_|refine o_end ?_|refine o_head1 rfl ?_|refine wp_seq ?_|refine o_region ?_|refine wp_block ?_|refine wp_skip ?_|refine wp_exit ?_|(refine w_condD rfl ?_ ?_<;>intro h)|(refine w_cond rfl ?_ ?_<;>intro h<;>try exact Bool.noConfusion h)|refine w_ret (Δl2 ++ (Δu2 ++ (Δ ++ S))) (vs:=[]) rfl Res.nil ?_|refine w_ret (S) (vs:=[]) rfl Res.nil ?_|refine anyF_of (fn:=147) (by decide +kernel) ?_|refine anyF_v1 (fn:=147) (by decide +kernel) rfl ?_|refine anyF_v0 (fn:=147) (by decide +kernel) rfl ?_|(show WP _ _ _ _ (.region 2 _ true) _ _ _ _;refine o_drawnA [Zt 0,Zt 1,Zt 2,Zt 3,Zt 4,Zt 5,Zt 6,Zt 7,Zt 8,Zf 9,Zf 10,Zf 11] mixed (by kernel_rfl) ?_)|refine o_br2 (fn:=147) (l:=[(9, false), (10, false), (11, false)]) 9 10 [(10, false), (11, false)] [(9, false), (11, false)] (by kernel_rfl) rfl rfl ?_ ?_|(show WP _ _ _ _ (.region 3 _ true) _ _ _ _;refine o_drawnA [Zt 0,Zt 1,Zt 2,Zt 3,Zt 4,Zt 5,Zt 6,Zt 7,Zt 8,Zf 9,Zf 10,Zf 11] mixed (by kernel_rfl) ?_)|refine o_br2 (fn:=147) (l:=[(9, false), (10, false), (11, false)]) 9 10 [(10, false), (11, false)] [(9, false), (11, false)] (by kernel_rfl) rfl rfl ?_ ?_|(show WP _ _ _ _ (.region 7 _ true) _ _ _ _;refine o_drawnZ [Zf 0,Zf 1,Zf 2,Zf 3,Zf 4,Zf 5,Zf 6,Zf 7,Zf 8,Zf 9,Zf 10] [] mixed (by kernel_rfl) (List.nil_sublist _) ?_)|(show WP _ _ _ _ (.region 8 _ true) _ _ _ _;refine o_drawn [Zt 0,Zt 1,Zt 2,Zt 3,Zt 4,Zf 5,Zf 6,Zf 7,Zf 8,Zf 9,Zf 10,Zf 11,Zf 12,Zf 13,Zf 14,Zf 15,Zt 16] mixed (by kernel_rfl) ?_)|(show WP _ _ _ _ (.region 10 _ true) _ _ _ _;refine o_drawnZ [Zf 0,Zf 1,Zf 2,Zf 3,Zf 4,Zf 5,Zf 6,Zt 7] [] mixed (by kernel_rfl) (List.nil_sublist _) ?_)|(show WP _ _ _ _ (.region 11 _ true) _ _ _ _;refine o_drawnZ [Zf 0,Zf 1,Zf 2,Zf 3,Zf 4,Zf 5,Zf 6,Zt 7] [] mixed (by kernel_rfl) (List.nil_sublist _) ?_)
    refine w_fall (res_sem Res.nil ?_)
    rw [hfi] at hu2 hl2 ho
    exact ⟨Δu2, Δl2, Δ, by rw [partOf_get (p := U) (by omega)]; exact hu2, by rw [partOf_get (p := L) (by omega)]; exact hl2, ho, .append_left (.append_left (.append_left (.cons _ (.cons _ (.cons _ (.cons _ (List.Sublist.refl _))))) _) _) _⟩
end Go.Proofs.YtpnnmklacialgaaGreat
namespace Go.Proofs.YtpnnmklacialgaaGreat
open Go.Conc
theorem idxF_mem {α : Type} {p : α → Bool} : ∀ {l : List α} {i : Nat}, (∃ x ∈ l, p x = true) → 0 ≤ idxF p l i
  | [], i, ⟨x, hx, _⟩ => by cases hx
  | y :: l, i, ⟨x, hx, hp⟩ => by
    simp only [idxF]
    by_cases hy : p y = true
    · rw [if_pos hy]; omega
    · rw [if_neg hy]
      rcases List.mem_cons.1 hx with rfl | hx
      · exact absurd hp hy
      · exact idxF_mem ⟨x, hx, hp⟩
theorem riseF_lt {α : Type} {key : α → Int} {ok : α → Bool} : ∀ {l : List α} {was : Int}, riseF key ok was l = true → ∀ j (h : j < l.length), was < key l[j] ∧ ∀ i (hi : i < j), key l[i] < key l[j]
  | [], _, _, j, h => absurd h (by simp)
  | y :: l, was, hr, j, h => by
    simp only [riseF, Bool.and_eq_true, decide_eq_true_eq] at hr
    cases j with
    | zero => exact ⟨hr.1.1, fun i hi => absurd hi (by omega)⟩
    | succ j =>
      have ih := riseF_lt hr.2 j (by simpa using h)
      refine ⟨by have := ih.1; simp only [List.getElem_cons_succ]; have := hr.1.1; omega, fun i hi => ?_⟩
      cases i with
      | zero => exact ih.1
      | succ i => exact ih.2 i (by omega)
theorem riseN_lt {α : Type} {key : α → Int} {ok : α → Bool} {l : List α} (hr : riseN key ok l = true) : ∀ j (h : j < l.length) i (hi : i < j), key l[i] < key l[j] := by
  cases l with
  | nil => intro j h; exact absurd h (by simp)
  | cons y l =>
    simp only [riseN, Bool.and_eq_true] at hr
    intro j h i hi
    cases j with
    | zero => omega
    | succ j =>
      have ih := riseF_lt hr.2 j (by simpa using h)
      cases i with
      | zero => exact ih.1
      | succ i => exact ih.2 i (by omega)
section
variable {n : NetG} (h : Valid n) {p k : Int}
include h
theorem id_lt {i j : Nat} (hj : j < n.mains.length) (hi : i < j) : n.mains[i].id < n.mains[j].id := riseN_lt h.rise j hj i hi
theorem id_inj {i j : Nat} (hi : i < n.mains.length) (hj : j < n.mains.length) (e : n.mains[i].id = n.mains[j].id) : i = j := by
  rcases Nat.lt_trichotomy i j with hl | hl | hl
  · have := id_lt h hj hl; omega
  · exact hl
  · have := id_lt h hi hl; omega
theorem place_id {i : Nat} (hi : i < n.mains.length) : placeF n n.mains[i].id = (i : Int) := by
  have h0 : 0 ≤ placeF n n.mains[i].id := idxF_mem ⟨_, List.getElem_mem hi, by simp⟩
  obtain ⟨h1, h2, h3⟩ := idx_spec h0
  rw [h1, id_inj h h2 hi h3]
def parI (n : NetG) (q : Nat) : Int := placeF n (upOf n q)
omit h in
theorem upOf_eq {q : Nat} (hq : q < n.mains.length) : upOf n q = n.mains[q].up := by unfold upOf; rw [List.getElem?_eq_getElem hq]
omit h in
theorem idOf_eq {q : Nat} (hq : q < n.mains.length) : idOf n.mains q = n.mains[q].id := by unfold idOf; rw [List.getElem?_eq_getElem hq]
theorem par_lt {q : Nat} (hq : q < n.mains.length) : parI n q < (q : Int) := by
  rcases Int.lt_or_le (parI n q) 0 with h0 | h0
  · omega
  · obtain ⟨h1, h2, h3⟩ := idx_spec (n := n) (id := upOf n q) h0
    have hm := (h.mains _ (List.getElem_mem hq)).1
    simp only [mainOk, Bool.and_eq_true, within_iff] at hm
    have h4 := upOf_eq hq
    unfold parI
    rw [h1]
    generalize idx n (upOf n q) = r at h2 h3 ⊢
    rw [h4] at h3
    rcases Nat.lt_or_ge r q with hl | hl
    · omega
    · exfalso
      rcases Nat.lt_or_eq_of_le hl with hl | hl
      · have := id_lt h h2 hl; omega
      · subst hl; omega
theorem child_iff {i q : Nat} (hi : i < n.mains.length) (hq : q < n.mains.length) : n.mains[q].up = n.mains[i].id ↔ parI n q = (i : Int) := by
  unfold parI
  rw [upOf_eq hq]
  constructor
  · intro e; rw [e]; exact place_id h hi
  · intro e
    have h0 : 0 ≤ placeF n n.mains[q].up := by omega
    obtain ⟨h1, h2, h3⟩ := idx_spec h0
    have e2 : idx n n.mains[q].up = i := by omega
    have e3 : n.mains[idx n n.mains[q].up].id = n.mains[i].id := by congr 1; simp only [e2]
    omega
end
theorem sum_but {f : Nat → RangeG} {q : Nat} : ∀ {l : List Nat}, l.Nodup → q ∈ l → (sumR (l.map f)).lo = (f q).lo + (sumR ((l.filter fun (k : Nat) => decide ((k : Int) ≠ (q : Int))).map f)).lo ∧ (sumR (l.map f)).hi = (f q).hi + (sumR ((l.filter fun (k : Nat) => decide ((k : Int) ≠ (q : Int))).map f)).hi
  | [], _, h => by cases h
  | x :: l, hn, h => by
    obtain ⟨hx, hn⟩ := List.nodup_cons.1 hn
    by_cases e : x = q
    · subst e
      have : l.filter (fun (k : Nat) => decide ((k : Int) ≠ (x : Int))) = l := List.filter_eq_self.2 fun a ha => by
        have : a ≠ x := fun e => hx (e ▸ ha)
        exact decide_eq_true (by omega)
      rw [List.filter_cons, if_neg (by simp), this]
      exact ⟨rfl, rfl⟩
    · have hq : q ∈ l := by
        rcases List.mem_cons.1 h with h | h
        · exact absurd h.symm e
        · exact h
      obtain ⟨h1, h2⟩ := sum_but (f := f) hn hq
      rw [List.filter_cons, if_pos (decide_eq_true (by omega))]
      simp only [List.map_cons, sumR]
      omega
theorem rest_but {ms : List MainG} {u P : List RangeG} {i q : Nat} (hq : q ∈ belowN ms (idOf ms i)) : (restR ms u P i (-3)).lo = (partOf P q).lo + (restR ms u P i (q : Int)).lo ∧ (restR ms u P i (-3)).hi = (partOf P q).hi + (restR ms u P i (q : Int)).hi := by
  have hn : (belowN ms (idOf ms i)).Nodup := by
    unfold belowN belowT
    exact List.Nodup.sublist List.filter_sublist List.nodup_range
  have h1 := sum_but (f := partOf P) hn hq
  have h2 : ((belowN ms (idOf ms i)).filter fun (k : Nat) => decide ((k : Int) ≠ (-3 : Int))) = belowN ms (idOf ms i) := List.filter_eq_self.2 fun a _ => decide_eq_true (by omega)
  unfold restR restL
  rw [h2, sumR_app, sumR_app, sumR_app, sumR_app, if_pos (show (-3 : Int) ≠ -1 by decide), if_pos (show (-3 : Int) ≠ -2 by decide), if_pos (show (q : Int) ≠ -1 by omega), if_pos (show (q : Int) ≠ -2 by omega)]
  constructor <;> simp only <;> omega
section
variable {n : NetG} (h : Valid n) {by' : ReadG → Bool} {p k : Int}
theorem thrT_keep {q : Nat} : ∀ {j : Nat}, q < j → partOf (thrT n by' p k j) q = partOf (thrT n by' p k (q + 1)) q
  | 0, h => by omega
  | j + 1, hj => by
    rcases Nat.lt_or_eq_of_le (Nat.le_of_lt_succ hj) with hl | hl
    · rw [← thrT_keep hl]
      show partOf (stepH n by' p k (thrT n by' p k j) j) q = _
      unfold stepH partOf
      simp only
      split <;> simp [List.getD, List.getElem?_set_ne (show j ≠ q by omega)]
    · subst hl; rfl
include h
theorem thr_root {q : Nat} (hq : q < n.mains.length) (hp : parI n q < 0) : partOf (thrN n by' p k) q = partOf (upsN n by' p k) q := by
  have h12 := h.m12
  unfold thrN
  rw [thrT_keep hq]
  show partOf (stepH n by' p k (thrT n by' p k q) q) q = _
  unfold stepH
  simp only
  rw [if_neg (by unfold parI at hp; omega), partOf_get (by rw [List.length_set, thrT_len]; omega), List.getElem_set_self]
theorem thr_child {q r : Nat} (hq : q < n.mains.length) (hr : r < n.mains.length) (hp : parI n q = (r : Int)) : partOf (thrN n by' p k) q = tightR (partOf (upsN n by' p k) q) (restR n.mains (usedN n p k) (upsN n by' p k) r (-3)) (partOf (thrN n by' p k) r) := by
  have h12 := h.m12
  have hlt := par_lt h hq
  have e1 : idx n (upOf n q) = r := by unfold idx; unfold parI at hp; rw [hp]; simp
  have e2 : partOf (thrN n by' p k) r = partOf (thrT n by' p k q) r := by
    unfold thrN
    rw [thrT_keep hr, thrT_keep (j := q) (by omega)]
  have hmem : q ∈ belowN n.mains (idOf n.mains r) := by
    unfold belowN belowT
    refine List.mem_filter.2 ⟨List.mem_range.2 hq, ?_⟩
    rw [List.getElem?_eq_getElem hq, idOf_eq hr]
    exact decide_eq_true ((child_iff h hr hq).2 hp)
  obtain ⟨b1, b2⟩ := rest_but (u := usedN n p k) (P := upsN n by' p k) hmem
  conv => lhs; unfold thrN
  rw [thrT_keep hq]
  show partOf (stepH n by' p k (thrT n by' p k q) q) q = _
  unfold stepH
  simp only
  rw [if_pos (by unfold parI at hp; omega), partOf_get (by rw [List.length_set, List.length_set, thrT_len]; omega), List.getElem_set_self, e1, e2]
  have e3 : partOf ((thrT n by' p k q).set q (partOf (upsN n by' p k) q)) r = partOf (thrT n by' p k q) r := by
    unfold partOf
    simp [List.getD, List.getElem?_set_ne (show q ≠ r by omega)]
  rw [e3]
  unfold tightR lessR
  have d1 : ∀ (a b c d : Int), a = b + c → d - (a - b) = d - c := by intro a b c d e; omega
  rw [d1 _ _ _ _ b1, d1 _ _ _ _ b2]
end
def sprF (n : NetG) (by' : ReadG → Bool) (p k : Int) (i : Nat) : List RangeG := (List.range n.mains.length).map fun q => if parI n q < (i : Int) then partOf (thrN n by' p k) q else partOf (upsN n by' p k) q
def tgtU (n : NetG) (by' : ReadG → Bool) (p k : Int) (q : Nat) : RangeG := tightR (partOf (usedN n p k) q) (restR n.mains (usedN n p k) (upsN n by' p k) q (-3)) (partOf (thrN n by' p k) q)
def tgtL (n : NetG) (by' : ReadG → Bool) (p k : Int) (q : Nat) : RangeG := tightR (leakOf n.mains q) (restR n.mains (usedN n p k) (upsN n by' p k) q (-3)) (partOf (thrN n by' p k) q)
def sprU (n : NetG) (by' : ReadG → Bool) (p k : Int) (i : Nat) : List RangeG := (List.range n.mains.length).map fun q => if q < i then tgtU n by' p k q else partOf (usedN n p k) q
def sprL (n : NetG) (by' : ReadG → Bool) (p k : Int) (i : Nat) : List RangeG := (List.range n.mains.length).map fun q => if q < i then tgtL n by' p k q else leakOf n.mains q
theorem part_map {f : Nat → RangeG} {m q : Nat} (hq : q < m) : partOf ((List.range m).map f) q = f q := by
  rw [partOf_get (by simpa using hq)]
  simp
theorem list_ext {l l' : List RangeG} (hl : l.length = l'.length) (h : ∀ q, q < l.length → partOf l q = partOf l' q) : l = l' := by
  apply List.ext_getElem hl
  intro q h1 h2
  have := h q h1
  rwa [partOf_get h1, partOf_get h2] at this
theorem part_set {l : List RangeG} {i q : Nat} {x : RangeG} (hi : i < l.length) : partOf (l.set i x) q = if q = i then x else partOf l q := by
  by_cases e : q = i
  · subst e
    rw [if_pos rfl, partOf_get (by rw [List.length_set]; exact hi), List.getElem_set_self]
  · rw [if_neg e]
    unfold partOf
    simp [List.getD, List.getElem?_set_ne (Ne.symm e)]
theorem tgt_at {ms : List MainG} {F : List RangeG} {i : Nat} {all flow : RangeG} : ∀ {k q : Nat}, k ≤ F.length → partOf (tgt ms F i all flow k) q = if q < k ∧ childOf ms i q = true then tightR (partOf F q) all flow else partOf F q
  | 0, q, _ => by rw [if_neg (by omega)]; rfl
  | k + 1, q, hk => by
    have ih := tgt_at (ms := ms) (F := F) (i := i) (all := all) (flow := flow) (k := k) (q := q) (by omega)
    unfold tgt
    by_cases hc : childOf ms i k = true
    · rw [if_pos hc, part_set (by rw [tgt_len]; omega)]
      by_cases e : q = k
      · subst e
        rw [if_pos rfl, if_pos ⟨by omega, hc⟩]
      · rw [if_neg e, ih]
        by_cases h1 : q < k ∧ childOf ms i q = true
        · rw [if_pos h1, if_pos ⟨by omega, h1.2⟩]
        · rw [if_neg h1, if_neg (by rintro ⟨h2, h3⟩; exact h1 ⟨by omega, h3⟩)]
    · rw [if_neg hc, ih]
      by_cases h1 : q < k ∧ childOf ms i q = true
      · rw [if_pos h1, if_pos ⟨by omega, h1.2⟩]
      · rw [if_neg h1, if_neg]
        rintro ⟨h2, h3⟩
        rcases Nat.lt_or_eq_of_le (Nat.le_of_lt_succ h2) with hl | hl
        · exact h1 ⟨hl, h3⟩
        · subst hl; exact hc h3
section
variable {n : NetG} (h : Valid n) {by' : ReadG → Bool} {p k : Int}
theorem sprF_len {i : Nat} : (sprF n by' p k i).length = n.mains.length := by simp [sprF]
theorem sprU_len {i : Nat} : (sprU n by' p k i).length = n.mains.length := by simp [sprU]
theorem sprL_len {i : Nat} : (sprL n by' p k i).length = n.mains.length := by simp [sprL]
theorem sprF_at {i q : Nat} (hq : q < n.mains.length) : partOf (sprF n by' p k i) q = if parI n q < (i : Int) then partOf (thrN n by' p k) q else partOf (upsN n by' p k) q := part_map hq
theorem sprU_at {i q : Nat} (hq : q < n.mains.length) : partOf (sprU n by' p k i) q = if q < i then tgtU n by' p k q else partOf (usedN n p k) q := part_map hq
theorem sprL_at {i q : Nat} (hq : q < n.mains.length) : partOf (sprL n by' p k i) q = if q < i then tgtL n by' p k q else leakOf n.mains q := part_map hq
theorem sprU_succ {i : Nat} (hi : i < n.mains.length) : (sprU n by' p k i).set i (tgtU n by' p k i) = sprU n by' p k (i + 1) := by
  refine list_ext (by rw [List.length_set, sprU_len, sprU_len]) fun q hq => ?_
  rw [List.length_set, sprU_len] at hq
  rw [part_set (by rw [sprU_len]; exact hi), sprU_at hq, sprU_at hq]
  by_cases e : q = i
  · subst e; rw [if_pos rfl, if_pos (by omega)]
  · rw [if_neg e]
    by_cases hl : q < i
    · rw [if_pos hl, if_pos (by omega)]
    · rw [if_neg hl, if_neg (by omega)]
theorem sprL_succ {i : Nat} (hi : i < n.mains.length) : (sprL n by' p k i).set i (tgtL n by' p k i) = sprL n by' p k (i + 1) := by
  refine list_ext (by rw [List.length_set, sprL_len, sprL_len]) fun q hq => ?_
  rw [List.length_set, sprL_len] at hq
  rw [part_set (by rw [sprL_len]; exact hi), sprL_at hq, sprL_at hq]
  by_cases e : q = i
  · subst e; rw [if_pos rfl, if_pos (by omega)]
  · rw [if_neg e]
    by_cases hl : q < i
    · rw [if_pos hl, if_pos (by omega)]
    · rw [if_neg hl, if_neg (by omega)]
include h
theorem flow_at {i : Nat} (hi : i < n.mains.length) : partOf (sprF n by' p k i) i = partOf (thrN n by' p k) i := by
  rw [sprF_at hi, if_pos (par_lt h hi)]
theorem part_spr {i : Nat} (hi : i < n.mains.length) : partB n.mains (sprU n by' p k i) (sprL n by' p k i) (sprF n by' p k i) i = restL n.mains (usedN n p k) (upsN n by' p k) i (-3) := by
  unfold partB partT restL
  rw [sprU_at hi, if_neg (by omega), sprL_at hi, if_neg (by omega), if_pos (by decide), if_pos (by decide)]
  have h2 : ((belowN n.mains (idOf n.mains i)).filter fun (k : Nat) => decide ((k : Int) ≠ (-3 : Int))) = belowN n.mains (idOf n.mains i) := List.filter_eq_self.2 fun a _ => decide_eq_true (by omega)
  rw [h2]
  congr 1
  refine List.map_congr_left fun q hq => ?_
  have hql := mem_below hq
  have hc : n.mains[q].up = n.mains[i].id := by
    have hq2 := (List.mem_filter.1 hq).2
    rw [List.getElem?_eq_getElem hql, idOf_eq hi] at hq2
    exact of_decide_eq_true hq2
  rw [sprF_at hql, if_neg]
  rw [(child_iff h hi hql).1 hc]
  omega
theorem tgt_spr {i : Nat} (hi : i < n.mains.length) : tgt n.mains (sprF n by' p k i) i (restR n.mains (usedN n p k) (upsN n by' p k) i (-3)) (partOf (thrN n by' p k) i) n.mains.length = sprF n by' p k (i + 1) := by
  refine list_ext (by rw [tgt_len, sprF_len, sprF_len]) fun q hq => ?_
  rw [tgt_len, sprF_len] at hq
  rw [tgt_at (by rw [sprF_len]; omega), sprF_at hq, sprF_at hq, childOf_eq hq, idOf_eq hi]
  by_cases hc : n.mains[q].up = n.mains[i].id
  · have hp := (child_iff h hi hq).1 hc
    rw [if_pos ⟨hq, decide_eq_true hc⟩, hp, if_neg (by omega), if_pos (by omega)]
    exact (thr_child h hq hi hp).symm
  · have hp : parI n q ≠ (i : Int) := fun e => hc ((child_iff h hi hq).2 e)
    rw [if_neg (by rintro ⟨_, h2⟩; exact hc (of_decide_eq_true h2))]
    by_cases hl : parI n q < (i : Int)
    · rw [if_pos hl, if_pos (by omega)]
    · rw [if_neg hl, if_neg (by omega)]
theorem sprF_zero : sprF n by' p k 0 = (upsN n by' p k).take n.mains.length := by
  have h12 := h.m12
  refine list_ext (by rw [sprF_len, List.length_take, show (upsN n by' p k).length = 12 from upsD_len]; omega) fun q hq => ?_
  rw [sprF_len] at hq
  rw [sprF_at hq]
  have e : partOf ((upsN n by' p k).take n.mains.length) q = partOf (upsN n by' p k) q := by
    unfold partOf
    simp [List.getD, List.getElem?_take, hq]
  rw [e]
  split
  · exact thr_root h hq (by omega)
  · rfl
theorem sprU_zero : sprU n by' p k 0 = (usedN n p k).take n.mains.length := by
  have h12 := h.m12
  refine list_ext (by rw [sprU_len, List.length_take, show (usedN n p k).length = 12 from usedT_len]; omega) fun q hq => ?_
  rw [sprU_len] at hq
  rw [sprU_at hq, if_neg (by omega)]
  unfold partOf
  simp [List.getD, List.getElem?_take, hq]
omit h in
theorem sprL_zero : sprL n by' p k 0 = n.mains.map (·.leak) := by
  refine list_ext (by rw [sprL_len, List.length_map]) fun q hq => ?_
  rw [sprL_len] at hq
  rw [sprL_at hq, if_neg (by omega), partOf_get (by rw [List.length_map]; exact hq), List.getElem_map]
  unfold leakOf
  rw [List.getElem?_eq_getElem hq]
end
end Go.Proofs.YtpnnmklacialgaaGreat
namespace Go.Proofs.YtpnnmklacialgaaGreat
open Go.Conc
attribute [local irreducible] WP OpF OpX CallW SemH retQ AnyF RoundW
def tt : ReadG → Bool := fun _ => true
def endI (n : NetG) (p k : Int) : Nat := if evenN n tt p k = true then n.mains.length else 0
theorem partB_take {n : NetG} (hV : Valid n) {p k : Int} {P : List RangeG} (hP : P.length = 12) {i : Nat} (hi : i < n.mains.length) : partB n.mains ((usedN n p k).take n.mains.length) (n.mains.map (·.leak)) (P.take n.mains.length) i = restL n.mains (usedN n p k) P i (-3) := by
  have h12 := hV.m12
  have ht : ∀ (Q : List RangeG) q, q < n.mains.length → partOf (Q.take n.mains.length) q = partOf Q q := fun Q q hq => by
    unfold partOf
    simp [List.getD, List.getElem?_take, hq]
  unfold partB partT restL
  rw [ht _ _ hi, if_pos (by decide), if_pos (by decide)]
  have h2 : ((belowN n.mains (idOf n.mains i)).filter fun (k : Nat) => decide ((k : Int) ≠ (-3 : Int))) = belowN n.mains (idOf n.mains i) := List.filter_eq_self.2 fun a _ => decide_eq_true (by omega)
  have h3 : partOf (n.mains.map (·.leak)) i = leakOf n.mains i := by
    rw [partOf_get (by rw [List.length_map]; exact hi), List.getElem_map]
    unfold leakOf
    rw [List.getElem?_eq_getElem hi]
  rw [h2, h3]
  congr 1
  exact List.map_congr_left fun q hq => ht _ _ (mem_below hq)
theorem tight_bd {x y z : RangeG} (hx : Bd 1000000000000 x) (hy : Bd 1000000000000 y) (hz : Bd 13000000000000 z) : Bd 1000000000000000 (tightR x y z) := by
  unfold Bd at *
  unfold tightR meetR
  simp only
  omega
section
variable {n : NetG} (h : Valid n) {by' : ReadG → Bool} {p k : Int} {i : Nat}
include h
theorem all_bd {q : Nat} : Bd 1000000000000 (restR n.mains (usedN n p k) (upsN n by' p k) q (-3)) := by
  have h12 := h.m12
  have h1 := upsD_bd h (by' := by') (p := p) (k := k) (d := n.mains.length) h12
  have h2 := restR_nn h (p := p) (k := k) (P := upsN n by' p k) upsD_len (upsD_nn h).1 (i := q) (but := -3)
  have h3 : (sumR (upsN n by' p k)).lo ≤ 900000000000 := h1.2.1
  have h4 : (sumR (upsN n by' p k)).hi ≤ 900000000000 := h1.2.2
  unfold Bd
  omega
theorem sprU_bd : ∀ x ∈ sprU n by' p k i, Bd 1000000000000000 x := fun x hx => by
  obtain ⟨q, _, rfl⟩ := List.mem_map.1 hx
  have hu : Bd 1000000000000 (partOf (usedN n p k) q) := bd_part (by omega) fun x hx => (usedT_nn h x hx).bd.mono (by omega)
  split
  · exact tight_bd hu (all_bd h) (bd_part (by omega) (thrN_bd h))
  · exact hu.mono (by omega)
theorem sprL_bd : ∀ x ∈ sprL n by' p k i, Bd 1000000000000000 x := fun x hx => by
  obtain ⟨q, _, rfl⟩ := List.mem_map.1 hx
  have hu : Bd 1000000000000 (leakOf n.mains q) := (leak_nn h).bd.mono (by omega)
  split
  · exact tight_bd hu (all_bd h) (bd_part (by omega) (thrN_bd h))
  · exact hu.mono (by omega)
theorem sprF_bd : ∀ x ∈ sprF n by' p k i, Bd 1000000000000000 x := fun x hx => by
  obtain ⟨q, _, rfl⟩ := List.mem_map.1 hx
  split
  · exact (bd_part (by omega) (thrN_bd h)).mono (by omega)
  · exact bd_part (by omega) fun x hx => ((upsD_bd h (h.m12)).1 x hx).bd.mono (by omega)
end
theorem c79 (E : Env) (S : Ents) (n : NetG) (a b c d e : Value) (p k : Int) (hn : NetV S a b c d e n) (hV : Valid n) :
    CallW Tryz.prog E 79 #[.agg #[a, b, c, d, e], .agg #[iv p, iv k]] S fun r S' => ∃ vu vl vf Δu Δl Δf, r = .agg #[a, vu, vl, vf, .bool (evenN n tt p k)] ∧ Own vu (sprU n tt p k (endI n p k)) Δu ∧ Own vl (sprL n tt p k (endI n p k)) Δl ∧ Own vf (sprF n tt p k (endI n p k)) Δf ∧ S' = Δl ++ (Δu ++ (Δf ++ S)) := by
  have hn0 := hn
  have hm12 := hV.m12
  have hu60 := hV.u60
  have hr60 := hV.r60
  obtain ⟨⟨qm, cm, rfl, _, hrm⟩, ⟨qu, cu, rfl, _, hru⟩, ⟨qr, cr, rfl, _, hrr⟩, _, _, _, _, _, _, _⟩ := hn
  have hsm : SlV S (.slice qm n.mains.length cm) n.mains := hn0.mains
  have i1 := SlI.mk hrm
  have i2 := SlI.mk hru
  have i3 := SlI.mk hrr
  refine call_in (args := [.agg #[.slice qm n.mains.length cm, .slice qu n.uses.length cu, .slice qr n.readings.length cr, d, e], .agg #[iv p, iv k]]) Tryz.func79 (by decide) rfl rfl ?_
  repeat' first|(refine gX ?_;first|refine o_v rfl rfl ?_|(refine o_splitD rfl rfl rfl ?_ ?_<;>intro h)|(refine o_split rfl rfl rfl ?_ ?_<;>intro h<;>fail_if_success exact Bool.noConfusion h)|(refine gL ?_;first|refine o_load rfl rfl rfl rfl ?_|refine o_loadR rfl rfl rfl (by omega) rfl rfl ?_|refine o_loadW rfl rfl rfl rfl ?_|refine o_loadK rfl rfl rfl ?_)|(refine gF ?_;first|refine o_fieldI rfl rfl rfl rfl ?_|refine o_field rfl rfl rfl rfl ?_)|(refine gB ?_;first|refine o_add rfl rfl rfl rfl (by omega) ?_|refine o_sub rfl rfl rfl rfl (by omega) ?_|refine o_eqNil rfl rfl rfl rfl rfl ?_)|(refine gI ?_;first|refine o_indexS rfl rfl rfl rfl rfl rfl (by omega) ?_|refine o_index rfl rfl rfl rfl rfl (by omega) ?_)|(refine gS ?_;first|refine o_store rfl rfl rfl rfl rfl rfl ?_|refine o_storeW rfl rfl rfl rfl rfl rfl ?_)|(refine o_allocZ rfl rfl ?_;intro _)|(refine o_box rfl rfl rfl ?_;intro _)|refine o_skip rfl rfl ?_|refine o_skipN rfl rfl ?_|refine o_build rfl rfl rfl rfl rfl ?_|(refine o_bslice rfl rfl rfl rfl rfl rfl rfl ?_;intro _)|(refine o_splitP rfl ?_ ?_<;>intro h<;>fail_if_success exact Bool.noConfusion h))|refine o_head0 rfl ?_|refine o_end ?_|refine o_head1 rfl ?_|refine wp_seq ?_|refine o_region ?_|refine wp_block ?_|refine wp_skip ?_|refine wp_exit ?_|(refine w_condD rfl ?_ ?_<;>intro h)|(refine w_cond rfl ?_ ?_<;>intro h<;>try exact Bool.noConfusion h)|refine w_ret (S) (vs:=[_]) rfl (Res.cell rfl rfl Res.nil) ?_|(show WP _ _ _ _ (.region 15 _ true) _ _ _ _;refine o_drawnZ [Zf 0,Zf 1,Zf 2,Zf 3,Zf 4,Zf 5,Zf 6,Zf 7,Zf 8,Zf 9,Zf 10,Zf 11,Zf 12,Zf 13,Zf 14,Zf 15,Zf 16,Zf 17,Zf 18,Zf 19,Zf 20,Zf 21,Zf 22,Zt 23] [] mixed (by kernel_rfl) (List.nil_sublist _) ?_)|(show WP _ _ _ _ (.region 24 _ true) _ _ _ _;refine o_drawnZ [Zf 0,Zf 1,Zf 2,Zf 3,Zf 4,Zf 5,Zf 6,Zf 7,Zf 8,Zf 9,Zf 10,Zf 11,Zf 12,Zf 13,Zf 14,Zf 15,Zf 16,Zf 17,Zf 18,Zf 19,Zf 20,Zf 21,Zf 22,Zt 23,Zf 24] [] mixed (by kernel_rfl) (List.nil_sublist _) ?_)
  rename_i b2 b3 b4 b5
  refine wp_loop (fun i t ds S' => ∃ (j : Nat) (t0 : Tm) (u l f : Value) (Δu Δl Δf : Ents), i = n.mains.length - j ∧ j ≤ n.mains.length ∧ [] = ds ∧ Δf ++ (Δl ++ (Δu ++ ⟨b5, true, .cells #[.slice qm n.mains.length cm, u, l, f, .bool true] 130 (0, 0)⟩ :: ⟨b4, true, .cells #[.slice none 0 0, .slice none 0 0, .slice none 0 0, .slice none 0 0, .bool false] 130 (0, 0)⟩ :: ⟨b3, true, .cells #[.int .i64 p, .int .i64 k] 30 (0, 0)⟩ :: ⟨b2, true, .cells #[.slice qm n.mains.length cm, .slice qu n.uses.length cu, .slice qr n.readings.length cr, d, e] 28 (0, 0)⟩ :: S)) = S' ∧
      t = den [(23, iv j), (22, iv n.mains.length), (21, .slice qm n.mains.length cm), (2, .pointer (some ⟨b2, 0, none⟩)), (3, .pointer (some ⟨b3, 0, none⟩)), (4, .pointer (some ⟨b4, 0, none⟩)), (5, .pointer (some ⟨b5, 0, none⟩))] t0 ∧ Own u (List.replicate j zR) Δu ∧ Own l ((n.mains.take j).map (·.leak)) Δl ∧ Own f (List.replicate j zR) Δf)
    n.mains.length ⟨0, _, _, _, _, [], [], [], rfl, Nat.zero_le _, rfl, rfl, keep ⟨rfl, rfl, rfl, rfl, rfl, rfl, rfl, trivial⟩, .nil, .nil, .nil⟩ ?_
  rintro i t ds S' ⟨j, t0, u, l, f, Δu, Δl, Δf, rfl, hj, rfl, rfl, rfl, hou, hol, hof⟩
  obtain ⟨ua, uc, rfl, _, _⟩ := hou.slv
  obtain ⟨la, lc, rfl, _, _⟩ := hol.slv
  obtain ⟨fa, fc, rfl, _, _⟩ := hof.slv
  repeat' first|(refine gX ?_;first|refine o_v rfl rfl ?_|(refine o_splitD rfl rfl rfl ?_ ?_<;>intro h)|(refine o_split rfl rfl rfl ?_ ?_<;>intro h<;>fail_if_success exact Bool.noConfusion h)|(refine gL ?_;first|refine o_load rfl rfl rfl rfl ?_|refine o_loadR rfl rfl rfl (by omega) rfl rfl ?_|refine o_loadW rfl rfl rfl rfl ?_|refine o_loadK rfl rfl rfl ?_)|(refine gF ?_;first|refine o_fieldI rfl rfl rfl rfl ?_|refine o_field rfl rfl rfl rfl ?_)|(refine gB ?_;first|refine o_add rfl rfl rfl rfl (by omega) ?_|refine o_sub rfl rfl rfl rfl (by omega) ?_|refine o_eqNil rfl rfl rfl rfl rfl ?_)|(refine gC ?_;first|(refine o_append1 zR rfl rfl rfl rfl hou rfl (by rw [List.length_replicate]; omega) rfl rfl rfl rfl ?_;intro w2 Δu2 hou2;obtain ⟨ua2, uc2, rfl, _, _⟩ := hou2.slv;refine ⟨inferInstance, ?_⟩)|(refine o_append1 (n.mains[j]'(by first|done|omega)).leak rfl rfl rfl rfl hol rfl (by rw [List.length_map, List.length_take]; omega) rfl rfl rfl rfl ?_;intro w2 Δl2 hol2;obtain ⟨la2, lc2, rfl, _, _⟩ := hol2.slv;refine ⟨inferInstance, ?_⟩)|(refine o_append1 zR rfl rfl rfl rfl hof rfl (by rw [List.length_replicate]; omega) rfl rfl rfl rfl ?_;intro w2 Δf2 hof2;obtain ⟨fa2, fc2, rfl, _, _⟩ := hof2.slv;refine ⟨inferInstance, ?_⟩))|(refine gI ?_;first|refine o_indexS rfl rfl rfl rfl rfl rfl (by omega) ?_|refine o_index rfl rfl rfl rfl rfl (by omega) ?_)|(refine gS ?_;first|refine o_store rfl rfl rfl rfl rfl rfl ?_|refine o_storeW rfl rfl rfl rfl rfl rfl ?_)|(refine o_allocZ rfl rfl ?_;intro _)|(refine o_box rfl rfl rfl ?_;intro _)|refine o_skip rfl rfl ?_|refine o_skipN rfl rfl ?_|refine o_build rfl rfl rfl rfl rfl ?_|(refine o_bslice rfl rfl rfl rfl rfl rfl rfl ?_;intro _)|(refine o_splitP rfl ?_ ?_<;>intro h<;>fail_if_success exact Bool.noConfusion h))|refine o_head0 rfl ?_|refine o_end ?_|refine o_head1 rfl ?_|refine wp_seq ?_|refine o_region ?_|refine wp_block ?_|refine wp_skip ?_|refine wp_exit ?_|(refine w_condD rfl ?_ ?_<;>intro h)|(refine w_cond rfl ?_ ?_<;>intro h<;>try exact Bool.noConfusion h)|refine w_ret (S) (vs:=[_]) rfl (Res.cell rfl rfl Res.nil) ?_|(show WP _ _ _ _ (.region 15 _ true) _ _ _ _;refine o_drawnZ [Zf 0,Zf 1,Zf 2,Zf 3,Zf 4,Zf 5,Zf 6,Zf 7,Zf 8,Zf 9,Zf 10,Zf 11,Zf 12,Zf 13,Zf 14,Zf 15,Zf 16,Zf 17,Zf 18,Zf 19,Zf 20,Zf 21,Zf 22,Zt 23] [] mixed (by kernel_rfl) (List.nil_sublist _) ?_)|(show WP _ _ _ _ (.region 24 _ true) _ _ _ _;refine o_drawnZ [Zf 0,Zf 1,Zf 2,Zf 3,Zf 4,Zf 5,Zf 6,Zf 7,Zf 8,Zf 9,Zf 10,Zf 11,Zf 12,Zf 13,Zf 14,Zf 15,Zf 16,Zf 17,Zf 18,Zf 19,Zf 20,Zf 21,Zf 22,Zt 23,Zf 24] [] mixed (by kernel_rfl) (List.nil_sublist _) ?_)
  · refine ⟨n.mains.length - (j + 1), by omega, _, .append_left (.cons _ (.append_left (.cons _ (.append_left (.cons _ (.cons _ (List.Sublist.refl _))) _)) _)) _, j + 1, _, _, _, _, Δu2, Δl2, Δf2, rfl, by omega, rfl, rfl, keep ⟨rfl, rfl, rfl, rfl, rfl, rfl, rfl, trivial⟩, ?_, ?_, ?_⟩
    · rw [List.replicate_succ']; exact hou2
    · rw [List.take_succ_eq_append_getElem (by omega), List.map_append]; exact hol2
    · rw [List.replicate_succ']; exact hof2
  have hjm : j = n.mains.length := by omega
  subst hjm
  have hlU : ∀ {j}, ((usedT n p k j).take n.mains.length).length = n.mains.length := fun {j} => by rw [List.length_take, usedT_len]; omega
  have hU0 : (usedT n p k 0).take n.mains.length = List.replicate n.mains.length zR := by
    show (List.replicate 12 zR).take n.mains.length = _
    rw [List.take_replicate, Nat.min_eq_left hm12]
  refine WP.perm ?_ (FrS.h (Δ := Δu))
  refine wp_loop (fun i t ds S' => ∃ (j : Nat) (t0 : Tm) (Δu : Ents), i = n.uses.length - j ∧ j ≤ n.uses.length ∧ [] = ds ∧ Δu ++ (Δf ++ (Δl ++ ⟨b5, true, .cells #[.slice qm n.mains.length cm, .slice ua n.mains.length uc, .slice la n.mains.length lc, .slice fa n.mains.length fc, .bool true] 130 (0, 0)⟩ :: ⟨b4, true, .cells #[.slice none 0 0, .slice none 0 0, .slice none 0 0, .slice none 0 0, .bool false] 130 (0, 0)⟩ :: ⟨b3, true, .cells #[.int .i64 p, .int .i64 k] 30 (0, 0)⟩ :: ⟨b2, true, .cells #[.slice qm n.mains.length cm, .slice qu n.uses.length cu, .slice qr n.readings.length cr, d, e] 28 (0, 0)⟩ :: S)) = S' ∧
      t = den [(50, iv j), (49, iv n.uses.length), (48, .slice qu n.uses.length cu), (2, .pointer (some ⟨b2, 0, none⟩)), (3, .pointer (some ⟨b3, 0, none⟩)), (4, .pointer (some ⟨b4, 0, none⟩)), (5, .pointer (some ⟨b5, 0, none⟩))] t0 ∧ Own (.slice ua n.mains.length uc) ((usedT n p k j).take n.mains.length) Δu)
    n.uses.length ⟨0, _, Δu, rfl, Nat.zero_le _, rfl, by simp only [List.take_length, List.length_map, List.length_replicate], keep ⟨rfl, rfl, rfl, rfl, rfl, rfl, rfl, trivial⟩, by rw [hU0]; simpa only [List.length_replicate] using hou⟩ ?_
  replace hol : Own (.slice la n.mains.length lc) (n.mains.map (·.leak)) Δl := by simpa only [List.take_length, List.length_map] using hol
  replace hof : Own (.slice fa n.mains.length fc) (List.replicate n.mains.length zR) Δf := by simpa only [List.length_replicate] using hof
  clear hou
  rintro i t ds S' ⟨j, t0, Δu, rfl, hj, rfl, rfl, rfl, hou⟩
  have hlV := hlU (j := j)
  by_cases hjl : j < n.uses.length
  · obtain ⟨huo, hpl⟩ := hV.uses _ (List.getElem_mem hjl)
    have hst := usedT_succ (n := n) (p := p) (k := k) hjl
    have hbV : ∀ x ∈ (usedT n p k j).take n.mains.length, Nn 60000000 x := fun x hx => usedT_nn hV x (List.mem_of_mem_take hx)
    obtain ⟨hpe, hil, _⟩ := idx_spec hpl
    have hpu : ∀ h : idx n n.uses[j].main < ((usedT n p k j).take n.mains.length).length, partOf (usedT n p k j) (idx n n.uses[j].main) = ((usedT n p k j).take n.mains.length)[idx n n.uses[j].main]'h := fun h => by
      rw [partOf_get (by rw [usedT_len]; omega), List.getElem_take]
    have hsU : (stepU n (usedT n p k j) n.uses[j]).take n.mains.length = ((usedT n p k j).take n.mains.length).set (idx n n.uses[j].main) (sumR [partOf (usedT n p k j) (idx n n.uses[j].main), volR n.uses[j]]) := by
      unfold stepU
      rw [List.take_set]
    generalize hVe : (usedT n p k j).take n.mains.length = V at hou hlV hbV hpu hsU ⊢
    unfold placeF at hpe
    generalize idx n n.uses[j].main = q at hpe hil hpu hsU
    have hb1 := hbV (V[q]'(by omega)) (List.getElem_mem _)
    have hb2 := vol_nn huo
    unfold Nn at hb1 hb2
    obtain ⟨_, hrt⟩ := hou.sla
    have i6 := SlI.mk hrt
    repeat' first|(refine gX ?_;first|refine o_v rfl rfl ?_|(refine o_splitD rfl rfl rfl ?_ ?_<;>intro h)|(refine o_split rfl rfl rfl ?_ ?_<;>intro h<;>fail_if_success exact Bool.noConfusion h)|(refine gL ?_;first|refine o_load rfl rfl rfl rfl ?_|refine o_loadR rfl rfl rfl (by omega) rfl rfl ?_|refine o_loadW rfl rfl rfl rfl ?_|refine o_loadK rfl rfl rfl ?_)|(refine gF ?_;first|refine o_fieldI rfl rfl rfl rfl ?_|refine o_field rfl rfl rfl rfl ?_)|(refine gB ?_;first|refine o_add rfl rfl rfl rfl (by omega) ?_|refine o_sub rfl rfl rfl rfl (by omega) ?_|refine o_eqNil rfl rfl rfl rfl rfl ?_)|(refine gC ?_;first|refine o_callF rfl rfl rfl (c109 _ _ _ _ _) ?_|refine o_callF rfl rfl rfl (c91 _ _ n.mains _ _ (hsm.sub Sb.h) (by omega)) ?_|refine o_callF rfl rfl rfl (c124 _ _ n.uses[j] huo) ?_)|(refine gI ?_;first|refine o_indexZ q rfl rfl rfl rfl rfl hlV.symm hpe (by omega) ?_|refine o_indexS rfl rfl rfl rfl rfl rfl (by omega) ?_|refine o_index rfl rfl rfl rfl rfl (by omega) ?_)|(refine gS ?_;first|(refine o_storeO (⟨(V[q]'(by first|done|omega)).lo + (volR n.uses[j]).lo, (V[q]'(by first|done|omega)).hi + (volR n.uses[j]).hi⟩ : RangeG) rfl rfl rfl hou (by omega) rfl rfl rfl rfl ?_;intro Δu2 hou2;refine ⟨_, inferInstance, ?_⟩)|refine o_store rfl rfl rfl rfl rfl rfl ?_|refine o_storeW rfl rfl rfl rfl rfl rfl ?_)|(refine o_allocZ rfl rfl ?_;intro _)|(refine o_box rfl rfl rfl ?_;intro _)|refine o_skip rfl rfl ?_|refine o_skipN rfl rfl ?_|refine o_build rfl rfl rfl rfl rfl ?_|(refine o_bslice rfl rfl rfl rfl rfl rfl rfl ?_;intro _)|(refine o_splitP rfl ?_ ?_<;>intro h<;>fail_if_success exact Bool.noConfusion h))|refine o_head0 rfl ?_|refine o_end ?_|refine o_head1 rfl ?_|(refine w_condD rfl ?_ ?_<;>intro h<;>try (exact absurd (by omega) h))|refine wp_seq ?_|refine o_region ?_|refine wp_block ?_|refine wp_skip ?_|refine wp_exit ?_|(refine w_condD rfl ?_ ?_<;>intro h)|(refine w_cond rfl ?_ ?_<;>intro h<;>try exact Bool.noConfusion h)|refine w_ret (S) (vs:=[_]) rfl (Res.cell rfl rfl Res.nil) ?_|(show WP _ _ _ _ (.region 15 _ true) _ _ _ _;refine o_drawnZ [Zf 0,Zf 1,Zf 2,Zf 3,Zf 4,Zf 5,Zf 6,Zf 7,Zf 8,Zf 9,Zf 10,Zf 11,Zf 12,Zf 13,Zf 14,Zf 15,Zf 16,Zf 17,Zf 18,Zf 19,Zf 20,Zf 21,Zf 22,Zt 23] [] mixed (by kernel_rfl) (List.nil_sublist _) ?_)|(show WP _ _ _ _ (.region 24 _ true) _ _ _ _;refine o_drawnZ [Zf 0,Zf 1,Zf 2,Zf 3,Zf 4,Zf 5,Zf 6,Zf 7,Zf 8,Zf 9,Zf 10,Zf 11,Zf 12,Zf 13,Zf 14,Zf 15,Zf 16,Zf 17,Zf 18,Zf 19,Zf 20,Zf 21,Zf 22,Zt 23,Zf 24] [] mixed (by kernel_rfl) (List.nil_sublist _) ?_)
    · refine ⟨n.uses.length - (j + 1), by omega, _, .append_left (.cons _ (.cons _ (List.Sublist.refl _))) _, j + 1, _, Δu2, rfl, by omega, rfl, rfl, keep ⟨rfl, rfl, rfl, rfl, rfl, rfl, rfl, trivial⟩, ?_⟩
      rw [hst, if_pos (by simp only [countsU, countsB]; simp [*]), hsU, hpu (by omega)]
      simpa [sumR] using hou2
    · refine ⟨n.uses.length - (j + 1), by omega, _, .cons _ (List.Sublist.refl _), j + 1, _, Δu, rfl, by omega, rfl, rfl, keep ⟨rfl, rfl, rfl, rfl, rfl, rfl, rfl, trivial⟩, ?_⟩
      rw [hst, if_neg (by simp only [countsU, countsB, Bool.and_eq_true, decide_eq_true_eq]; exact fun hc => h hc.2), hVe]
      exact hou
    · refine ⟨n.uses.length - (j + 1), by omega, _, .cons _ (List.Sublist.refl _), j + 1, _, Δu, rfl, by omega, rfl, rfl, keep ⟨rfl, rfl, rfl, rfl, rfl, rfl, rfl, trivial⟩, ?_⟩
      rename_i hper
      rw [hst, if_neg (by simp only [countsU, countsB, Bool.and_eq_true, decide_eq_true_eq]; exact fun hc => hper hc.1), hVe]
      exact hou
  · have hjm : j = n.uses.length := by omega
    subst hjm
    repeat' first|(refine gX ?_;first|refine o_v rfl rfl ?_|(refine o_splitD rfl rfl rfl ?_ ?_<;>intro h)|(refine o_split rfl rfl rfl ?_ ?_<;>intro h<;>fail_if_success exact Bool.noConfusion h)|(refine gL ?_;first|refine o_load rfl rfl rfl rfl ?_|refine o_loadR rfl rfl rfl (by omega) rfl rfl ?_|refine o_loadW rfl rfl rfl rfl ?_|refine o_loadK rfl rfl rfl ?_)|(refine gF ?_;first|refine o_fieldI rfl rfl rfl rfl ?_|refine o_field rfl rfl rfl rfl ?_)|(refine gB ?_;first|refine o_add rfl rfl rfl rfl (by omega) ?_|refine o_sub rfl rfl rfl rfl (by omega) ?_|refine o_eqNil rfl rfl rfl rfl rfl ?_)|(refine gI ?_;first|refine o_indexS rfl rfl rfl rfl rfl rfl (by omega) ?_|refine o_index rfl rfl rfl rfl rfl (by omega) ?_)|(refine gS ?_;first|refine o_store rfl rfl rfl rfl rfl rfl ?_|refine o_storeW rfl rfl rfl rfl rfl rfl ?_)|(refine o_allocZ rfl rfl ?_;intro _)|(refine o_box rfl rfl rfl ?_;intro _)|refine o_skip rfl rfl ?_|refine o_skipN rfl rfl ?_|refine o_build rfl rfl rfl rfl rfl ?_|(refine o_bslice rfl rfl rfl rfl rfl rfl rfl ?_;intro _)|(refine o_splitP rfl ?_ ?_<;>intro h<;>fail_if_success exact Bool.noConfusion h))|refine o_head0 rfl ?_|refine o_end ?_|refine o_head1 rfl ?_|(refine w_condD rfl ?_ ?_<;>intro h<;>try (exact absurd h (by omega)))|refine wp_seq ?_|refine o_region ?_|refine wp_block ?_|refine wp_skip ?_|refine wp_exit ?_|(refine w_condD rfl ?_ ?_<;>intro h)|(refine w_cond rfl ?_ ?_<;>intro h<;>try exact Bool.noConfusion h)|refine w_ret (S) (vs:=[_]) rfl (Res.cell rfl rfl Res.nil) ?_|(show WP _ _ _ _ (.region 15 _ true) _ _ _ _;refine o_drawnZ [Zf 0,Zf 1,Zf 2,Zf 3,Zf 4,Zf 5,Zf 6,Zf 7,Zf 8,Zf 9,Zf 10,Zf 11,Zf 12,Zf 13,Zf 14,Zf 15,Zf 16,Zf 17,Zf 18,Zf 19,Zf 20,Zf 21,Zf 22,Zt 23] [] mixed (by kernel_rfl) (List.nil_sublist _) ?_)|(show WP _ _ _ _ (.region 24 _ true) _ _ _ _;refine o_drawnZ [Zf 0,Zf 1,Zf 2,Zf 3,Zf 4,Zf 5,Zf 6,Zf 7,Zf 8,Zf 9,Zf 10,Zf 11,Zf 12,Zf 13,Zf 14,Zf 15,Zf 16,Zf 17,Zf 18,Zf 19,Zf 20,Zf 21,Zf 22,Zt 23,Zf 24] [] mixed (by kernel_rfl) (List.nil_sublist _) ?_)
    change Own (.slice ua n.mains.length uc) ((usedN n p k).take n.mains.length) Δu at hou
    have hlP : ∀ {d'}, ((upsD n tt p k d').take n.mains.length).length = n.mains.length := fun {d'} => by rw [List.length_take, upsD_len]; omega
    have hU0' : (upsD n tt p k 0).take n.mains.length = List.replicate n.mains.length zR := hU0
    have hlm : (n.mains.map (·.leak)).length = n.mains.length := List.length_map ..
    refine WP.perm ?_ (FrS.h (Δ := Δf))
    refine wp_loop (fun i t ds S' => ∃ (d' : Nat) (t0 : Tm) (Δf : Ents), i = n.mains.length - d' ∧ d' ≤ n.mains.length ∧ [] = ds ∧ Δf ++ (Δu ++ (Δl ++ ⟨b5, true, .cells #[.slice qm n.mains.length cm, .slice ua n.mains.length uc, .slice la n.mains.length lc, .slice fa n.mains.length fc, .bool (evD n tt p k d')] 130 (0, 0)⟩ :: ⟨b4, true, .cells #[.slice none 0 0, .slice none 0 0, .slice none 0 0, .slice none 0 0, .bool false] 130 (0, 0)⟩ :: ⟨b3, true, .cells #[.int .i64 p, .int .i64 k] 30 (0, 0)⟩ :: ⟨b2, true, .cells #[.slice qm n.mains.length cm, .slice qu n.uses.length cu, .slice qr n.readings.length cr, d, e] 28 (0, 0)⟩ :: S)) = S' ∧
        t = den [(12, iv ((n.mains.length : Int) - 1 - (d' : Int))), (2, .pointer (some ⟨b2, 0, none⟩)), (3, .pointer (some ⟨b3, 0, none⟩)), (4, .pointer (some ⟨b4, 0, none⟩)), (5, .pointer (some ⟨b5, 0, none⟩))] t0 ∧ Own (.slice fa n.mains.length fc) ((upsD n tt p k d').take n.mains.length) Δf)
      n.mains.length ⟨0, _, Δf, rfl, Nat.zero_le _, rfl, rfl, keep ⟨by rw [show ((n.mains.length : Int) - 1 - ((0 : Nat) : Int)) = (n.mains.length : Int) - 1 by omega]; rfl, rfl, rfl, rfl, rfl, trivial⟩, by rw [hU0']; exact hof⟩ ?_
    clear hof
    rintro i t ds S' ⟨d', t0, Δf, rfl, hd', rfl, rfl, rfl, hof⟩
    by_cases hdl : d' < n.mains.length
    · have e13 : ((n.mains.length : Int) - 1 - (d' : Int)) = ((n.mains.length - 1 - d' : Nat) : Int) := by omega
      rw [e13]
      have hii : n.mains.length - 1 - d' < n.mains.length := by omega
      have hii' : upStep n tt p k (upsD n tt p k d') (n.mains.length - 1 - d') = upsD n tt p k (d' + 1) := rfl
      have hev' : evD n tt p k (d' + 1) = (evD n tt p k d' && decide ((partOf (upsD n tt p k (d' + 1)) (n.mains.length - 1 - d')).lo ≤ (partOf (upsD n tt p k (d' + 1)) (n.mains.length - 1 - d')).hi)) := rfl
      have e14 : ((n.mains.length : Int) - 1 - ((d' + 1 : Nat) : Int)) = ((n.mains.length - 1 - d' : Nat) : Int) - 1 := by omega
      generalize n.mains.length - 1 - d' = ii at hii hii' hev' e14 ⊢
      have hid : idOf n.mains ii = n.mains[ii].id := idOf_eq hii
      have hpt := partB_take hV (p := p) (k := k) (P := upsD n tt p k d') upsD_len hii
      have hub : ∀ x ∈ usedN n p k, Bd 1000000000000000 x := fun x hx => (usedT_nn hV x hx).bd.mono (by omega)
      have hpb : ∀ x ∈ upsD n tt p k d', Bd 1000000000000000 x := fun x hx => ((upsD_bd hV (by omega)).1 x hx).bd.mono (by omega)
      have hkb : ∀ m ∈ n.mains, Bd 1000000000000000 m.leak := fun m hm => by
        obtain ⟨q, hq, rfl⟩ := List.getElem_of_mem hm
        have := leak_nn hV (i := q)
        unfold leakOf at this
        rw [List.getElem?_eq_getElem hq] at this
        exact this.bd.mono (by omega)
      have hrl := restL_len (ms := n.mains) (u := usedN n p k) (p := upsD n tt p k d') (i := ii) (but := -3)
      generalize hx0 : restR n.mains (usedN n p k) (upsD n tt p k d') ii (-3) = x0
      have c103' : ∀ E S v, SlV S v (restL n.mains (usedN n p k) (upsD n tt p k d') ii (-3)) → CallW Tryz.prog E 103 #[v] S fun r S' => r = .agg (rangeC x0) ∧ S' = S := fun E S v hv => by
        rw [← hx0]; exact c103 E S _ v hv (by omega) (restL_bd (by omega) hub hpb hkb)
      repeat' first|(refine gX ?_;first|refine o_v rfl rfl ?_|(refine o_splitD rfl rfl rfl ?_ ?_<;>intro h)|(refine o_split rfl rfl rfl ?_ ?_<;>intro h<;>fail_if_success exact Bool.noConfusion h)|(refine gL ?_;first|refine o_load rfl rfl rfl rfl ?_|refine o_loadR rfl rfl rfl (by omega) rfl rfl ?_|refine o_loadW rfl rfl rfl rfl ?_|refine o_loadK rfl rfl rfl ?_)|(refine gF ?_;first|refine o_fieldI rfl rfl rfl rfl ?_|refine o_field rfl rfl rfl rfl ?_)|(refine gB ?_;first|refine o_add rfl rfl rfl rfl (by omega) ?_|refine o_sub rfl rfl rfl rfl (by omega) ?_|refine o_eqNil rfl rfl rfl rfl rfl ?_)|(refine gC ?_;first|(refine o_callZ rfl rfl rfl (c145 _ _ b5 true (0, 0) n.mains ((usedN n p k).take n.mains.length) (n.mains.map (·.leak)) ((upsD n tt p k d').take n.mains.length) _ _ _ _ _ ii InS.h (hsm.sub Sb.h) (hou.slv.sub Sb.h) (hol.slv.sub Sb.h) (hof.slv.sub Sb.h) hlU hlm hlP hii hm12) ?_;rintro r _ ⟨Δp, hop, rfl⟩;rw [hpt] at hop;refine ⟨inferInstance, ?_⟩)|refine o_callF rfl rfl rfl (c103' _ _ _ (hop.slv.sub Sb.h)) ?_)|(refine gI ?_;first|refine o_indexS rfl rfl rfl rfl rfl rfl (by omega) ?_|refine o_index rfl rfl rfl rfl rfl (by omega) ?_)|(refine gS ?_;first|refine o_store rfl rfl rfl rfl rfl rfl ?_|refine o_storeW rfl rfl rfl rfl rfl rfl ?_)|(refine o_allocZ rfl rfl ?_;intro _)|(refine o_box rfl rfl rfl ?_;intro _)|refine o_skip rfl rfl ?_|refine o_skipN rfl rfl ?_|refine o_build rfl rfl rfl rfl rfl ?_|(refine o_bslice rfl rfl rfl rfl rfl rfl rfl ?_;intro _)|(refine o_splitP rfl ?_ ?_<;>intro h<;>fail_if_success exact Bool.noConfusion h))|refine o_head0 rfl ?_|refine o_end ?_|refine o_head1 rfl ?_|(refine w_condD rfl ?_ ?_<;>intro h<;>try (exact absurd (by omega) h))|refine wp_seq ?_|refine o_region ?_|refine wp_block ?_|refine wp_skip ?_|refine wp_exit ?_|(refine w_condD rfl ?_ ?_<;>intro h)|(refine w_cond rfl ?_ ?_<;>intro h<;>try exact Bool.noConfusion h)|refine w_ret (S) (vs:=[_]) rfl (Res.cell rfl rfl Res.nil) ?_|(show WP _ _ _ _ (.region 15 _ true) _ _ _ _;refine o_drawnZ [Zf 0,Zf 1,Zf 2,Zf 3,Zf 4,Zf 5,Zf 6,Zf 7,Zf 8,Zf 9,Zf 10,Zf 11,Zf 12,Zf 13,Zf 14,Zf 15,Zf 16,Zf 17,Zf 18,Zf 19,Zf 20,Zf 21,Zf 22,Zt 23] [] mixed (by kernel_rfl) (List.nil_sublist _) ?_)|(show WP _ _ _ _ (.region 24 _ true) _ _ _ _;refine o_drawnZ [Zf 0,Zf 1,Zf 2,Zf 3,Zf 4,Zf 5,Zf 6,Zf 7,Zf 8,Zf 9,Zf 10,Zf 11,Zf 12,Zf 13,Zf 14,Zf 15,Zf 16,Zf 17,Zf 18,Zf 19,Zf 20,Zf 21,Zf 22,Zt 23,Zf 24] [] mixed (by kernel_rfl) (List.nil_sublist _) ?_)
      rename_i b13
      refine w_drop (⟨b13, true, .cells #[.int .i64 x0.lo, .int .i64 x0.hi] 70 (0, 0)⟩ :: (Δf ++ (Δu ++ (Δl ++ ⟨b5, true, .cells #[.slice qm n.mains.length cm, .slice ua n.mains.length uc, .slice la n.mains.length lc, .slice fa n.mains.length fc, .bool (evD n tt p k d')] 130 (0, 0)⟩ :: ⟨b4, true, .cells #[.slice none 0 0, .slice none 0 0, .slice none 0 0, .slice none 0 0, .bool false] 130 (0, 0)⟩ :: ⟨b3, true, .cells #[.int .i64 p, .int .i64 k] 30 (0, 0)⟩ :: ⟨b2, true, .cells #[.slice qm n.mains.length cm, .slice qu n.uses.length cu, .slice qr n.readings.length cr, d, e] 28 (0, 0)⟩ :: S)))) (.cons_cons _ (List.sublist_append_right _ _)) ?_
      clear c103' hop
      refine wp_loop (fun i t ds S' => ∃ (j : Nat) (t0 : Tm), i = n.readings.length - j ∧ j ≤ n.readings.length ∧ [] = ds ∧ ⟨b13, true, .cells #[.int .i64 (readT n tt p k ii x0 j).lo, .int .i64 (readT n tt p k ii x0 j).hi] 70 (0, 0)⟩ :: (Δf ++ (Δu ++ (Δl ++ ⟨b5, true, .cells #[.slice qm n.mains.length cm, .slice ua n.mains.length uc, .slice la n.mains.length lc, .slice fa n.mains.length fc, .bool (evD n tt p k d')] 130 (0, 0)⟩ :: ⟨b4, true, .cells #[.slice none 0 0, .slice none 0 0, .slice none 0 0, .slice none 0 0, .bool false] 130 (0, 0)⟩ :: ⟨b3, true, .cells #[.int .i64 p, .int .i64 k] 30 (0, 0)⟩ :: ⟨b2, true, .cells #[.slice qm n.mains.length cm, .slice qu n.uses.length cu, .slice qr n.readings.length cr, d, e] 28 (0, 0)⟩ :: S))) = S' ∧
          t = den [(113, iv j), (112, iv n.readings.length), (111, .slice qr n.readings.length cr), (13, .pointer (some ⟨b13, 0, none⟩)), (12, iv ii), (2, .pointer (some ⟨b2, 0, none⟩)), (3, .pointer (some ⟨b3, 0, none⟩)), (4, .pointer (some ⟨b4, 0, none⟩)), (5, .pointer (some ⟨b5, 0, none⟩))] t0)
        n.readings.length ⟨0, _, rfl, Nat.zero_le _, rfl, rfl, keep ⟨rfl, rfl, rfl, rfl, rfl, rfl, rfl, rfl, rfl, trivial⟩⟩ ?_
      rintro i t ds S' ⟨j, t0, rfl, hj, rfl, rfl, rfl⟩
      by_cases hjr : j < n.readings.length
      · have hst := readT_succ (n := n) (by' := tt) (p := p) (k := k) (i := ii) (x := x0) hjr
        generalize hq : readT n tt p k ii x0 j = x at hst ⊢
        repeat' first|(refine gX ?_;first|refine o_v rfl rfl ?_|(refine o_splitD rfl rfl rfl ?_ ?_<;>intro h)|(refine o_split rfl rfl rfl ?_ ?_<;>intro h<;>fail_if_success exact Bool.noConfusion h)|(refine gL ?_;first|refine o_load rfl rfl rfl rfl ?_|refine o_loadR rfl rfl rfl (by omega) rfl rfl ?_|refine o_loadW rfl rfl rfl rfl ?_|refine o_loadK rfl rfl rfl ?_)|(refine gF ?_;first|refine o_fieldI rfl rfl rfl rfl ?_|refine o_field rfl rfl rfl rfl ?_)|(refine gB ?_;first|refine o_add rfl rfl rfl rfl (by omega) ?_|refine o_sub rfl rfl rfl rfl (by omega) ?_|refine o_eqNil rfl rfl rfl rfl rfl ?_)|(refine gC ?_;first|refine o_callF rfl rfl rfl (c109 _ _ _ _ _) ?_|refine o_callF rfl rfl rfl (c146 _ _ x (n.readings[j]'(by first|done|omega)).volume) ?_)|(refine gI ?_;first|refine o_indexS rfl rfl rfl rfl rfl rfl (by omega) ?_|refine o_index rfl rfl rfl rfl rfl (by omega) ?_)|(refine gS ?_;first|refine o_store rfl rfl rfl rfl rfl rfl ?_|refine o_storeW rfl rfl rfl rfl rfl rfl ?_)|(refine o_allocZ rfl rfl ?_;intro _)|(refine o_box rfl rfl rfl ?_;intro _)|refine o_skip rfl rfl ?_|refine o_skipN rfl rfl ?_|refine o_build rfl rfl rfl rfl rfl ?_|(refine o_bslice rfl rfl rfl rfl rfl rfl rfl ?_;intro _)|(refine o_splitP rfl ?_ ?_<;>intro h<;>fail_if_success exact Bool.noConfusion h))|refine o_head0 rfl ?_|refine o_end ?_|refine o_head1 rfl ?_|(refine w_condD rfl ?_ ?_<;>intro h<;>try (exact absurd (by omega) h))|refine wp_seq ?_|refine o_region ?_|refine wp_block ?_|refine wp_skip ?_|refine wp_exit ?_|(refine w_condD rfl ?_ ?_<;>intro h)|(refine w_cond rfl ?_ ?_<;>intro h<;>try exact Bool.noConfusion h)|refine w_ret (S) (vs:=[_]) rfl (Res.cell rfl rfl Res.nil) ?_|(show WP _ _ _ _ (.region 15 _ true) _ _ _ _;refine o_drawnZ [Zf 0,Zf 1,Zf 2,Zf 3,Zf 4,Zf 5,Zf 6,Zf 7,Zf 8,Zf 9,Zf 10,Zf 11,Zf 12,Zf 13,Zf 14,Zf 15,Zf 16,Zf 17,Zf 18,Zf 19,Zf 20,Zf 21,Zf 22,Zt 23] [] mixed (by kernel_rfl) (List.nil_sublist _) ?_)|(show WP _ _ _ _ (.region 24 _ true) _ _ _ _;refine o_drawnZ [Zf 0,Zf 1,Zf 2,Zf 3,Zf 4,Zf 5,Zf 6,Zf 7,Zf 8,Zf 9,Zf 10,Zf 11,Zf 12,Zf 13,Zf 14,Zf 15,Zf 16,Zf 17,Zf 18,Zf 19,Zf 20,Zf 21,Zf 22,Zt 23,Zf 24] [] mixed (by kernel_rfl) (List.nil_sublist _) ?_)
        all_goals refine ⟨n.readings.length - (j + 1), by omega, _, .cons _ (List.Sublist.refl _), j + 1, _, rfl, by omega, rfl, ?_, keep ⟨rfl, rfl, rfl, rfl, rfl, rfl, rfl, rfl, rfl, trivial⟩⟩
        · rw [hst, if_pos (by simp only [countsR, countsB, Bool.and_eq_true, decide_eq_true_eq]; exact ⟨by assumption, h⟩), if_pos ⟨by rw [hid]; assumption, rfl⟩]
        · rw [hst, if_neg (by simp only [countsR, countsB, Bool.and_eq_true, decide_eq_true_eq]; exact fun hc => h hc.2)]
        · rename_i hper
          rw [hst, if_neg (by simp only [countsR, countsB, Bool.and_eq_true, decide_eq_true_eq]; exact fun hc => hper hc.1)]
        · rename_i hmn
          by_cases hc : countsR p k n.readings[j] = true
          · rw [hst, if_pos hc, if_neg (fun hc => hmn (by rw [← hid]; exact hc.1))]
          · rw [hst, if_neg hc]
      · have hjm : j = n.readings.length := by omega
        subst hjm
        have hpx : partOf (upsD n tt p k (d' + 1)) ii = readT n tt p k ii x0 n.readings.length := by
          rw [← hii', ← hx0]; unfold upStep
          rw [part_set (by rw [upsD_len]; omega), if_pos rfl]
          rfl
        have hFs : ((upsD n tt p k d').take n.mains.length).set ii (readT n tt p k ii x0 n.readings.length) = (upsD n tt p k (d' + 1)).take n.mains.length := by
          rw [← hii', ← hx0]; unfold upStep
          rw [List.take_set]; rfl
        generalize readT n tt p k ii x0 n.readings.length = x at hpx hFs ⊢
        obtain ⟨_, hrt⟩ := hof.sla
        have i6 := SlI.mk hrt
        repeat' first|(refine gX ?_;first|refine o_v rfl rfl ?_|(refine o_splitD rfl rfl rfl ?_ ?_<;>intro h)|(refine o_split rfl rfl rfl ?_ ?_<;>intro h<;>fail_if_success exact Bool.noConfusion h)|(refine gL ?_;first|refine o_load rfl rfl rfl rfl ?_|refine o_loadR rfl rfl rfl (by omega) rfl rfl ?_|refine o_loadW rfl rfl rfl rfl ?_|refine o_loadK rfl rfl rfl ?_)|(refine gF ?_;first|refine o_fieldI rfl rfl rfl rfl ?_|refine o_field rfl rfl rfl rfl ?_)|(refine gB ?_;first|refine o_add rfl rfl rfl rfl (by omega) ?_|refine o_sub rfl rfl rfl rfl (by omega) ?_|refine o_eqNil rfl rfl rfl rfl rfl ?_)|(refine gI ?_;first|refine o_indexS rfl rfl rfl rfl rfl hlP.symm (by rw [hlP]; omega) ?_|refine o_indexS rfl rfl rfl rfl rfl rfl (by omega) ?_|refine o_index rfl rfl rfl rfl rfl (by omega) ?_)|(refine gS ?_;first|(refine o_storeO x rfl rfl rfl hof (by rw [hlP]; omega) rfl rfl rfl rfl ?_;intro Δf2 hof2;refine ⟨_, inferInstance, ?_⟩)|refine o_store rfl rfl rfl rfl rfl rfl ?_|refine o_storeW rfl rfl rfl rfl rfl rfl ?_)|(refine o_allocZ rfl rfl ?_;intro _)|(refine o_box rfl rfl rfl ?_;intro _)|refine o_skip rfl rfl ?_|refine o_skipN rfl rfl ?_|refine o_build rfl rfl rfl rfl rfl ?_|(refine o_bslice rfl rfl rfl rfl rfl rfl rfl ?_;intro _)|(refine o_splitP rfl ?_ ?_<;>intro h<;>fail_if_success exact Bool.noConfusion h))|refine o_head0 rfl ?_|refine o_end ?_|refine o_head1 rfl ?_|(refine w_condD rfl ?_ ?_<;>intro h<;>try (exact absurd h (by omega)))|refine wp_seq ?_|refine o_region ?_|refine wp_block ?_|refine wp_skip ?_|refine wp_exit ?_|(refine w_condD rfl ?_ ?_<;>intro h)|(refine w_cond rfl ?_ ?_<;>intro h<;>try exact Bool.noConfusion h)|refine w_ret (S) (vs:=[_]) rfl (Res.cell rfl rfl Res.nil) ?_|(show WP _ _ _ _ (.region 15 _ true) _ _ _ _;refine o_drawnZ [Zf 0,Zf 1,Zf 2,Zf 3,Zf 4,Zf 5,Zf 6,Zf 7,Zf 8,Zf 9,Zf 10,Zf 11,Zf 12,Zf 13,Zf 14,Zf 15,Zf 16,Zf 17,Zf 18,Zf 19,Zf 20,Zf 21,Zf 22,Zt 23] [] mixed (by kernel_rfl) (List.nil_sublist _) ?_)|(show WP _ _ _ _ (.region 24 _ true) _ _ _ _;refine o_drawnZ [Zf 0,Zf 1,Zf 2,Zf 3,Zf 4,Zf 5,Zf 6,Zf 7,Zf 8,Zf 9,Zf 10,Zf 11,Zf 12,Zf 13,Zf 14,Zf 15,Zf 16,Zf 17,Zf 18,Zf 19,Zf 20,Zf 21,Zf 22,Zt 23,Zf 24] [] mixed (by kernel_rfl) (List.nil_sublist _) ?_)
        all_goals refine ⟨n.mains.length - (d' + 1), by omega, _, .append_left (.cons _ (List.Sublist.refl _)) _, d' + 1, _, Δf2, rfl, by omega, rfl, ?_, keep ⟨by rw [e14]; rfl, rfl, rfl, rfl, rfl, trivial⟩, by rw [← hFs]; exact hof2⟩
        · rw [hev', h, Bool.true_and, hpx]
        · rw [hev', h, Bool.false_and]
    · have hdm : d' = n.mains.length := by omega
      subst hdm
      repeat' first|(refine gX ?_;first|refine o_v rfl rfl ?_|(refine o_splitD rfl rfl rfl ?_ ?_<;>intro h)|(refine o_split rfl rfl rfl ?_ ?_<;>intro h<;>fail_if_success exact Bool.noConfusion h)|(refine gL ?_;first|refine o_load rfl rfl rfl rfl ?_|refine o_loadR rfl rfl rfl (by omega) rfl rfl ?_|refine o_loadW rfl rfl rfl rfl ?_|refine o_loadK rfl rfl rfl ?_)|(refine gF ?_;first|refine o_fieldI rfl rfl rfl rfl ?_|refine o_field rfl rfl rfl rfl ?_)|(refine gB ?_;first|refine o_add rfl rfl rfl rfl (by omega) ?_|refine o_sub rfl rfl rfl rfl (by omega) ?_|refine o_eqNil rfl rfl rfl rfl rfl ?_)|(refine gI ?_;first|refine o_indexS rfl rfl rfl rfl rfl rfl (by omega) ?_|refine o_index rfl rfl rfl rfl rfl (by omega) ?_)|(refine gS ?_;first|refine o_store rfl rfl rfl rfl rfl rfl ?_|refine o_storeW rfl rfl rfl rfl rfl rfl ?_)|(refine o_allocZ rfl rfl ?_;intro _)|(refine o_box rfl rfl rfl ?_;intro _)|refine o_skip rfl rfl ?_|refine o_skipN rfl rfl ?_|refine o_build rfl rfl rfl rfl rfl ?_|(refine o_bslice rfl rfl rfl rfl rfl rfl rfl ?_;intro _)|(refine o_splitP rfl ?_ ?_<;>intro h<;>fail_if_success exact Bool.noConfusion h))|refine o_head0 rfl ?_|refine o_end ?_|refine o_head1 rfl ?_|(refine w_condD rfl ?_ ?_<;>intro h<;>try (exact absurd h (by omega)))|refine wp_seq ?_|refine o_region ?_|refine wp_block ?_|refine wp_skip ?_|refine wp_exit ?_|(refine w_condD rfl ?_ ?_<;>intro h)|(refine w_cond rfl ?_ ?_<;>intro h<;>try exact Bool.noConfusion h)|refine w_ret (S) (vs:=[_]) rfl (Res.cell rfl rfl Res.nil) ?_|(show WP _ _ _ _ (.region 15 _ true) _ _ _ _;refine o_drawnZ [Zf 0,Zf 1,Zf 2,Zf 3,Zf 4,Zf 5,Zf 6,Zf 7,Zf 8,Zf 9,Zf 10,Zf 11,Zf 12,Zf 13,Zf 14,Zf 15,Zf 16,Zf 17,Zf 18,Zf 19,Zf 20,Zf 21,Zf 22,Zt 23] [] mixed (by kernel_rfl) (List.nil_sublist _) ?_)|(show WP _ _ _ _ (.region 24 _ true) _ _ _ _;refine o_drawnZ [Zf 0,Zf 1,Zf 2,Zf 3,Zf 4,Zf 5,Zf 6,Zf 7,Zf 8,Zf 9,Zf 10,Zf 11,Zf 12,Zf 13,Zf 14,Zf 15,Zf 16,Zf 17,Zf 18,Zf 19,Zf 20,Zf 21,Zf 22,Zt 23,Zf 24] [] mixed (by kernel_rfl) (List.nil_sublist _) ?_)
      refine WP.perm ?_ (FrS.h (Δ := Δu))
      refine WP.perm ?_ (FrS.h (Δ := Δl))
      change Own _ ((upsN n tt p k).take n.mains.length) Δf at hof
      rw [← sprF_zero hV] at hof
      rw [← sprU_zero hV (by' := tt)] at hou
      rw [← sprL_zero (by' := tt) (p := p) (k := k)] at hol
      have hin5 : (⟨b5, true, .cells #[.slice qm n.mains.length cm, .slice ua n.mains.length uc, .slice la n.mains.length lc, .slice fa n.mains.length fc, .bool (evenN n tt p k)] 130 (0, 0)⟩ : Ent) ∈ (⟨b5, true, .cells #[.slice qm n.mains.length cm, .slice ua n.mains.length uc, .slice la n.mains.length lc, .slice fa n.mains.length fc, .bool (evenN n tt p k)] 130 (0, 0)⟩ :: ⟨b4, true, .cells #[.slice none 0 0, .slice none 0 0, .slice none 0 0, .slice none 0 0, .bool false] 130 (0, 0)⟩ :: ⟨b3, true, .cells #[.int .i64 p, .int .i64 k] 30 (0, 0)⟩ :: ⟨b2, true, .cells #[.slice qm n.mains.length cm, .slice qu n.uses.length cu, .slice qr n.readings.length cr, d, e] 28 (0, 0)⟩ :: S : Ents) := .head _
      refine wp_loop (fun i t ds S' => ∃ (j : Nat) (t0 : Tm) (Δu Δl Δf : Ents), i = n.mains.length - j ∧ j ≤ n.mains.length ∧ [] = ds ∧ Δl ++ (Δu ++ (Δf ++ ⟨b5, true, .cells #[.slice qm n.mains.length cm, .slice ua n.mains.length uc, .slice la n.mains.length lc, .slice fa n.mains.length fc, .bool (evenN n tt p k)] 130 (0, 0)⟩ :: ⟨b4, true, .cells #[.slice none 0 0, .slice none 0 0, .slice none 0 0, .slice none 0 0, .bool false] 130 (0, 0)⟩ :: ⟨b3, true, .cells #[.int .i64 p, .int .i64 k] 30 (0, 0)⟩ :: ⟨b2, true, .cells #[.slice qm n.mains.length cm, .slice qu n.uses.length cu, .slice qr n.readings.length cr, d, e] 28 (0, 0)⟩ :: S)) = S' ∧
          t = den [(165, iv j), (164, iv n.mains.length), (163, .slice qm n.mains.length cm), (2, .pointer (some ⟨b2, 0, none⟩)), (3, .pointer (some ⟨b3, 0, none⟩)), (4, .pointer (some ⟨b4, 0, none⟩)), (5, .pointer (some ⟨b5, 0, none⟩))] t0 ∧ Own (.slice ua n.mains.length uc) (sprU n tt p k j) Δu ∧ Own (.slice la n.mains.length lc) (sprL n tt p k j) Δl ∧ Own (.slice fa n.mains.length fc) (sprF n tt p k j) Δf ∧ (evenN n tt p k = true ∨ j = 0))
        n.mains.length ⟨0, _, Δu, Δl, Δf, rfl, Nat.zero_le _, rfl, rfl, keep ⟨rfl, rfl, rfl, rfl, rfl, rfl, rfl, trivial⟩, hou, hol, hof, .inr rfl⟩ ?_
      clear hou hol hof
      rintro i t ds S' ⟨j, t0, Δu, Δl, Δf, rfl, hj, rfl, rfl, rfl, hou, hol, hof, hej⟩
      by_cases hjl : j < n.mains.length
      · skip
        repeat' first|(refine gX ?_;first|refine o_v rfl rfl ?_|(refine o_splitD rfl rfl rfl ?_ ?_<;>intro h)|(refine o_split rfl rfl rfl ?_ ?_<;>intro h<;>fail_if_success exact Bool.noConfusion h)|(refine gL ?_;first|refine o_load rfl rfl rfl rfl ?_|refine o_loadR rfl rfl rfl (by omega) rfl rfl ?_|refine o_loadW rfl rfl rfl rfl ?_|refine o_loadK rfl rfl rfl ?_)|(refine gF ?_;first|refine o_fieldI rfl rfl rfl rfl ?_|refine o_field rfl rfl rfl rfl ?_)|(refine gB ?_;first|refine o_add rfl rfl rfl rfl (by omega) ?_|refine o_sub rfl rfl rfl rfl (by omega) ?_|refine o_eqNil rfl rfl rfl rfl rfl ?_)|(refine gC ?_;first|(refine o_callZ rfl rfl rfl (c147 _ _ b5 true (0, 0) n.mains (sprU n tt p k j) (sprL n tt p k j) (sprF n tt p k j) _ _ _ _ _ Δu Δl Δf j hin5 (hsm.sub Sb.h) hou hol hof sprU_len sprL_len sprF_len hjl hm12 (sprU_bd hV) (sprL_bd hV) (sprF_bd hV)) ?_;rintro r _ ⟨Δu2, Δl2, Δf2, hou2, hol2, hof2, rfl⟩;refine ⟨inferInstance, ?_⟩))|(refine gI ?_;first|refine o_indexS rfl rfl rfl rfl rfl rfl (by omega) ?_|refine o_index rfl rfl rfl rfl rfl (by omega) ?_)|(refine gS ?_;first|refine o_store rfl rfl rfl rfl rfl rfl ?_|refine o_storeW rfl rfl rfl rfl rfl rfl ?_)|(refine o_allocZ rfl rfl ?_;intro _)|(refine o_box rfl rfl rfl ?_;intro _)|refine o_skip rfl rfl ?_|refine o_skipN rfl rfl ?_|refine o_build rfl rfl rfl rfl rfl ?_|(refine o_bslice rfl rfl rfl rfl rfl rfl rfl ?_;intro _)|(refine o_splitP rfl ?_ ?_<;>intro h<;>fail_if_success exact Bool.noConfusion h))|refine o_head0 rfl ?_|refine o_end ?_|refine o_head1 rfl ?_|(refine w_condD rfl ?_ ?_<;>intro h<;>try (exact absurd (by omega) h))|refine wp_seq ?_|refine o_region ?_|refine wp_block ?_|refine wp_skip ?_|refine wp_exit ?_|(refine w_condD rfl ?_ ?_<;>intro h)|(refine w_cond rfl ?_ ?_<;>intro h<;>try exact Bool.noConfusion h)|refine w_ret (Δl ++ (Δu ++ (Δf ++ S))) (vs:=[_]) rfl (Res.cell rfl rfl Res.nil) ?_|refine w_ret (S) (vs:=[_]) rfl (Res.cell rfl rfl Res.nil) ?_|(show WP _ _ _ _ (.region 15 _ true) _ _ _ _;refine o_drawnZ [Zf 0,Zf 1,Zf 2,Zf 3,Zf 4,Zf 5,Zf 6,Zf 7,Zf 8,Zf 9,Zf 10,Zf 11,Zf 12,Zf 13,Zf 14,Zf 15,Zf 16,Zf 17,Zf 18,Zf 19,Zf 20,Zf 21,Zf 22,Zt 23] [] mixed (by kernel_rfl) (List.nil_sublist _) ?_)|(show WP _ _ _ _ (.region 24 _ true) _ _ _ _;refine o_drawnZ [Zf 0,Zf 1,Zf 2,Zf 3,Zf 4,Zf 5,Zf 6,Zf 7,Zf 8,Zf 9,Zf 10,Zf 11,Zf 12,Zf 13,Zf 14,Zf 15,Zf 16,Zf 17,Zf 18,Zf 19,Zf 20,Zf 21,Zf 22,Zt 23,Zf 24] [] mixed (by kernel_rfl) (List.nil_sublist _) ?_)
        · have hev : evenN n tt p k = false := by simpa using h
          have he : endI n p k = 0 := by unfold endI; rw [if_neg (by rw [hev]; decide)]
          have hj0 : j = 0 := hej.resolve_left (by rw [hev]; decide)
          rw [hj0] at hou hol hof
          exact ⟨_, _, _, Δu, Δl, Δf, rfl, by rw [he]; exact hou, by rw [he]; exact hol, by rw [he]; exact hof, rfl⟩
        · have hev : evenN n tt p k = true := by simpa using h
          rw [part_spr hV hjl, flow_at hV hjl] at hou2 hol2 hof2
          rw [sprU_at hjl, if_neg (by omega)] at hou2
          rw [sprL_at hjl, if_neg (by omega)] at hol2
          refine ⟨n.mains.length - (j + 1), by omega, _, List.Sublist.refl _, j + 1, _, Δu2, Δl2, Δf2, rfl, by omega, rfl, rfl, keep ⟨rfl, rfl, rfl, rfl, rfl, rfl, rfl, trivial⟩, ?_, ?_, ?_, .inl hev⟩
          · rw [← sprU_succ hjl]; exact hou2
          · rw [← sprL_succ hjl]; exact hol2
          · rw [← tgt_spr hV hjl]; exact hof2
      · skip
        repeat' first|(refine gX ?_;first|refine o_v rfl rfl ?_|(refine o_splitD rfl rfl rfl ?_ ?_<;>intro h)|(refine o_split rfl rfl rfl ?_ ?_<;>intro h<;>fail_if_success exact Bool.noConfusion h)|(refine gL ?_;first|refine o_load rfl rfl rfl rfl ?_|refine o_loadR rfl rfl rfl (by omega) rfl rfl ?_|refine o_loadW rfl rfl rfl rfl ?_|refine o_loadK rfl rfl rfl ?_)|(refine gF ?_;first|refine o_fieldI rfl rfl rfl rfl ?_|refine o_field rfl rfl rfl rfl ?_)|(refine gB ?_;first|refine o_add rfl rfl rfl rfl (by omega) ?_|refine o_sub rfl rfl rfl rfl (by omega) ?_|refine o_eqNil rfl rfl rfl rfl rfl ?_)|(refine gI ?_;first|refine o_indexS rfl rfl rfl rfl rfl rfl (by omega) ?_|refine o_index rfl rfl rfl rfl rfl (by omega) ?_)|(refine gS ?_;first|refine o_store rfl rfl rfl rfl rfl rfl ?_|refine o_storeW rfl rfl rfl rfl rfl rfl ?_)|(refine o_allocZ rfl rfl ?_;intro _)|(refine o_box rfl rfl rfl ?_;intro _)|refine o_skip rfl rfl ?_|refine o_skipN rfl rfl ?_|refine o_build rfl rfl rfl rfl rfl ?_|(refine o_bslice rfl rfl rfl rfl rfl rfl rfl ?_;intro _)|(refine o_splitP rfl ?_ ?_<;>intro h<;>fail_if_success exact Bool.noConfusion h))|refine o_head0 rfl ?_|refine o_end ?_|refine o_head1 rfl ?_|(refine w_condD rfl ?_ ?_<;>intro h<;>try (exact absurd h (by omega)))|refine wp_seq ?_|refine o_region ?_|refine wp_block ?_|refine wp_skip ?_|refine wp_exit ?_|(refine w_condD rfl ?_ ?_<;>intro h)|(refine w_cond rfl ?_ ?_<;>intro h<;>try exact Bool.noConfusion h)|refine w_ret (Δl ++ (Δu ++ (Δf ++ S))) (vs:=[_]) rfl (Res.cell rfl rfl Res.nil) ?_|refine w_ret (S) (vs:=[_]) rfl (Res.cell rfl rfl Res.nil) ?_|(show WP _ _ _ _ (.region 15 _ true) _ _ _ _;refine o_drawnZ [Zf 0,Zf 1,Zf 2,Zf 3,Zf 4,Zf 5,Zf 6,Zf 7,Zf 8,Zf 9,Zf 10,Zf 11,Zf 12,Zf 13,Zf 14,Zf 15,Zf 16,Zf 17,Zf 18,Zf 19,Zf 20,Zf 21,Zf 22,Zt 23] [] mixed (by kernel_rfl) (List.nil_sublist _) ?_)|(show WP _ _ _ _ (.region 24 _ true) _ _ _ _;refine o_drawnZ [Zf 0,Zf 1,Zf 2,Zf 3,Zf 4,Zf 5,Zf 6,Zf 7,Zf 8,Zf 9,Zf 10,Zf 11,Zf 12,Zf 13,Zf 14,Zf 15,Zf 16,Zf 17,Zf 18,Zf 19,Zf 20,Zf 21,Zf 22,Zt 23,Zf 24] [] mixed (by kernel_rfl) (List.nil_sublist _) ?_)
        have he : endI n p k = j := by
          unfold endI
          by_cases hev : evenN n tt p k = true
          · rw [if_pos hev]; omega
          · rw [if_neg hev]; exact (hej.resolve_left hev).symm
        exact ⟨_, _, _, Δu, Δl, Δf, rfl, by rw [he]; exact hou, by rw [he]; exact hol, by rw [he]; exact hof, rfl⟩
end Go.Proofs.YtpnnmklacialgaaGreat
