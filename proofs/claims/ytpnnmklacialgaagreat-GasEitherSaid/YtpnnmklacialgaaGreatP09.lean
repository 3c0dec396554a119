/- Whether a list is a conflict: what the specification answers.
   What would have moved: what the specification answers.
   gas and the specification agree on conflicts.
   gas and the specification agree on what would have moved.
   Flow, Used, Lost: what gas answers.
   The price in force.
   The bills of a period.
   What a main owes for a period.
   Periods and nights of entries (printed by genc36.py). -/
import Derived.Test.YtpnnmklacialgaaGreatP08
set_option linter.unusedVariables false
set_option linter.unusedSimpArgs false
namespace Go.Proofs.YtpnnmklacialgaaGreat
open Go.Conc
attribute [local irreducible] WP OpF OpX CallW SemH retQ AnyF RoundW

def ccAtW (n : NetG) (p k : Int) (l : List Int) (i : Nat) : Bool := (countSrc n p k).contains (l.getD i 0) && upAt l i && evW n p k (dropAt l i)
def ccW (n : NetG) (p k : Int) (l : List Int) : Int := if askedE n 0 p k = 0 then (if (List.range l.length).all (ccAtW n p k l) = true then (if evW n p k l = true then 77 else 0) else 77) else askedE n 0 p k
theorem ccAtW_eq {n : NetG} {p k : Int} {l : List Int} {j : Nat} (hj : j < l.length) : ccAtW n p k l j = ((countSrc n p k).contains l[j] && (decide (j = 0) || decide (l[j - 1] < l[j])) && evW n p k (dropAt l j)) := by
  unfold ccAtW upAt
  have h1 : l.getD j 0 = l[j] := by simp [List.getD, hj]
  have h2 : l.getD (j - 1) 0 = l[j - 1] := by simp [List.getD, show j - 1 < l.length by omega]
  rw [h1, h2]
theorem ccW_bad {n : NetG} {p k : Int} {l : List Int} {j : Nat} (hl : askedE n 0 p k = 0) (hj : j < l.length) (h : ccAtW n p k l j = false) : ccW n p k l = 77 := by
  unfold ccW
  rw [if_pos hl, if_neg]
  intro hall
  have := List.all_eq_true.1 hall j (List.mem_range.2 hj)
  rw [h] at this
  exact Bool.noConfusion this
theorem ccW_good {n : NetG} {p k : Int} {l : List Int} (hl : askedE n 0 p k = 0) (h : ∀ i, i < l.length → ccAtW n p k l i = true) : ccW n p k l = if evW n p k l = true then 77 else 0 := by
  unfold ccW
  rw [if_pos hl, if_pos]
  exact List.all_eq_true.2 fun i hi => h i (List.mem_range.1 hi)
theorem drop6 {a b c d e x : Ents} : List.Sublist x (a ++ (b ++ (c ++ (d ++ (e ++ x))))) := drop4 (List.sublist_append_right _ _)
theorem c17 (E : Env) (S : Ents) (n : NetG) (a b c d e v : Value) (p k : Int) (l : List Int) (hn : NetV S a b c d e n) (hv : SlV S v l) (hm : l.length ≤ 17592186044416) :
    CallW Tryz.prog E 17 #[.agg #[a, b, c, d, e], .agg #[iv p, iv k], v] S fun r S' => r = iv (ccW n p k l) ∧ S' = S := by
  obtain ⟨qa, qc, rfl, hqc, hr⟩ := hv
  have hv : SlV S (.slice qa l.length qc) l := ⟨qa, qc, rfl, hqc, hr⟩
  have i0 := SlI.mk hr
  refine call_in (args := [.agg #[a, b, c, d, e], .agg #[iv p, iv k], .slice qa l.length qc]) Tryz.func17 (by decide) rfl rfl ?_
  by_cases hl : askedE n 0 p k = 0
  · have hV := asked_ok hl
    have hr60 := hV.r60
    have hcl := countSrc_len (n := n) (p := p) (k := k)
    repeat' first|(refine gX ?_;first|refine o_v rfl rfl ?_|(refine o_splitD rfl rfl rfl ?_ ?_<;>intro h)|(refine o_split rfl rfl rfl ?_ ?_<;>intro h<;>fail_if_success exact Bool.noConfusion h)|(refine gL ?_;first|refine o_load rfl rfl rfl rfl ?_|refine o_loadR rfl rfl rfl (by omega) rfl rfl ?_|refine o_loadW rfl rfl rfl rfl ?_|refine o_loadK rfl rfl rfl ?_)|(refine gF ?_;first|refine o_fieldI rfl rfl rfl rfl ?_|refine o_field rfl rfl rfl rfl ?_)|(refine gB ?_;first|refine o_add rfl rfl rfl rfl (by omega) ?_|refine o_sub rfl rfl rfl rfl (by omega) ?_|refine o_eqNil rfl rfl rfl rfl rfl ?_)|(refine gC ?_;first|refine o_callF rfl rfl rfl (c85 _ _ n _ _ _ _ _ _ _ _ (hn.sub Sb.h)) ?_|(refine o_callZ rfl rfl rfl (c77 _ _ n _ _ _ _ _ p k (hn.sub Sb.h) (by omega)) ?_;rintro r _ ⟨Δ0, ho0, rfl⟩;obtain ⟨w0, wc0, rfl, _, hr0⟩ := ho0.slv;refine ⟨inferInstance, ?_⟩))|(refine gI ?_;first|refine o_indexS rfl rfl rfl rfl rfl rfl (by omega) ?_|refine o_index rfl rfl rfl rfl rfl (by omega) ?_)|(refine gS ?_;first|refine o_store rfl rfl rfl rfl rfl rfl ?_|refine o_storeW rfl rfl rfl rfl rfl rfl ?_)|(refine o_allocZ rfl rfl ?_;intro _)|(refine o_box rfl rfl rfl ?_;intro _)|refine o_skip rfl rfl ?_|refine o_skipN rfl rfl ?_|refine o_iface rfl rfl rfl ?_|refine o_build rfl rfl rfl rfl rfl ?_|(refine o_bslice rfl rfl rfl rfl rfl rfl rfl ?_;intro _)|(refine o_splitP rfl ?_ ?_<;>intro h<;>fail_if_success exact Bool.noConfusion h))|refine o_head0 rfl ?_|refine o_end ?_|refine o_head1 rfl ?_|(refine w_condD rfl ?_ ?_<;>intro h<;>try (exact absurd hl h))|refine wp_seq ?_|refine o_region ?_|refine wp_block ?_|refine wp_skip ?_|refine wp_exit ?_|(refine w_condD rfl ?_ ?_<;>intro h)|(refine w_cond rfl ?_ ?_<;>intro h<;>try exact Bool.noConfusion h)|refine w_ret (S) (vs:=[_]) rfl (Res.tmp rfl Res.nil) ?_|(show WP _ _ _ _ (.region 8 _ true) _ _ _ _;refine o_drawn [(0, false), (1, false), (2, true), (3, false), (4, false), (5, false), (6, false), (7, false), (8, false), (9, false), (10, false), (11, false), (12, false), (13, false), (14, false), (15, false), (16, false), (17, false), (18, true), (19, false), (20, false), (23, true), (21, false), (22, false), (24, true), (25, false), (26, false), (27, false)] mixed (by kernel_rfl) ?_)|(show WP _ _ _ _ (.region 11 _ true) _ _ _ _;refine o_drawn [(0, false), (1, false), (3, true), (2, false), (4, true), (5, false)] mixed (by kernel_rfl) ?_)
    rename_i b3 b4 _
    refine wp_loop (fun i t ds S' => ∃ (j : Nat) (t0 : Tm), i = l.length - j ∧ j ≤ l.length ∧ [] = ds ∧ Δ0 ++ ⟨b4, true, .cells #[.int .i64 p, .int .i64 k] 30 (0, 0)⟩ :: ⟨b3, true, .cells #[a, b, c, d, e] 28 (0, 0)⟩ :: S = S' ∧
        t = den [(22, iv j), (21, iv l.length), (20, .slice qa l.length qc), (8, .slice w0 (countSrc n p k).length wc0), (3, .pointer (some ⟨b3, 0, none⟩)), (4, .pointer (some ⟨b4, 0, none⟩)), (2, .slice qa l.length qc)] t0 ∧ ∀ i, i < j → ccAtW n p k l i = true)
      l.length ⟨0, _, rfl, Nat.zero_le _, rfl, rfl, keep ⟨rfl, rfl, rfl, rfl, rfl, rfl, rfl, trivial⟩, fun _ h => absurd h (Nat.not_lt_zero _)⟩ ?_
    rintro i t ds S' ⟨j, t0, rfl, hj, rfl, rfl, rfl, hall⟩
    repeat' first|(refine gX ?_;first|refine o_v rfl rfl ?_|(refine o_splitD rfl rfl rfl ?_ ?_<;>intro h)|(refine o_split rfl rfl rfl ?_ ?_<;>intro h<;>fail_if_success exact Bool.noConfusion h)|(refine gL ?_;first|refine o_load rfl rfl rfl rfl ?_|refine o_loadR rfl rfl rfl (by omega) rfl rfl ?_|refine o_loadW rfl rfl rfl rfl ?_|refine o_loadK rfl rfl rfl ?_)|(refine gF ?_;first|refine o_fieldI rfl rfl rfl rfl ?_|refine o_field rfl rfl rfl rfl ?_)|(refine gB ?_;first|refine o_add rfl rfl rfl rfl (by omega) ?_|refine o_sub rfl rfl rfl rfl (by omega) ?_|refine o_eqNil rfl rfl rfl rfl rfl ?_)|(refine gC ?_;first|refine o_callF rfl rfl rfl (c33 _ _ (countSrc n p k) _ _ (ho0.slv.sub Sb.h) (by omega)) ?_|(refine o_callZ rfl rfl rfl (c78 _ _ _ l j (by omega) (hv.sub Sb.h) hm) ?_;rintro r _ ⟨Δ3, ho3, rfl⟩;have hdl := dropAt_len (l := l) (i := j) (by omega);refine ⟨inferInstance, ?_⟩)|(refine o_callZ rfl rfl rfl (c80 _ _ n _ _ _ _ _ _ (dropAt l j) (hn.sub Sb.h) (ho3.slv.sub Sb.h) (by omega) (by omega)) ?_;rintro r _ ⟨Δ4, w4, ho4, rfl, rfl⟩;refine ⟨inferInstance, ?_⟩)|(refine o_callZ rfl rfl rfl (c79 _ _ (onlyN n (dropAt l j)) _ _ _ _ _ p k ((netV_only hn ho4).sub Sb.h) (valid_only hV _)) ?_;rintro r _ ⟨vu, vl, vf, Δu, Δl, Δf, rfl, hu, hvl, hf, rfl⟩;refine ⟨inferInstance, ?_⟩)|(refine o_callZ rfl rfl rfl (c80 _ _ n _ _ _ _ _ _ l (hn.sub Sb.h) (hv.sub Sb.h) (by omega) (by omega)) ?_;rintro r _ ⟨Δ4, w4, ho4, rfl, rfl⟩;refine ⟨inferInstance, ?_⟩)|(refine o_callZ rfl rfl rfl (c79 _ _ (onlyN n l) _ _ _ _ _ p k ((netV_only hn ho4).sub Sb.h) (valid_only hV _)) ?_;rintro r _ ⟨vu, vl, vf, Δu, Δl, Δf, rfl, hu, hvl, hf, rfl⟩;refine ⟨inferInstance, ?_⟩))|(refine gI ?_;first|refine o_indexZ (j - 1) rfl rfl rfl rfl rfl rfl (by omega) (by omega) ?_|refine o_indexS rfl rfl rfl rfl rfl rfl (by omega) ?_|refine o_index rfl rfl rfl rfl rfl (by omega) ?_)|(refine gS ?_;first|refine o_store rfl rfl rfl rfl rfl rfl ?_|refine o_storeW rfl rfl rfl rfl rfl rfl ?_)|(refine o_allocZ rfl rfl ?_;intro _)|(refine o_box rfl rfl rfl ?_;intro _)|refine o_skip rfl rfl ?_|refine o_skipN rfl rfl ?_|refine o_iface rfl rfl rfl ?_|refine o_build rfl rfl rfl rfl rfl ?_|(refine o_bslice rfl rfl rfl rfl rfl rfl rfl ?_;intro _)|(refine o_splitP rfl ?_ ?_<;>intro h<;>fail_if_success exact Bool.noConfusion h))|refine o_head0 rfl ?_|refine o_end ?_|refine o_head1 rfl ?_|refine wp_seq ?_|refine o_region ?_|refine wp_block ?_|refine wp_skip ?_|refine wp_exit ?_|(refine w_condD rfl ?_ ?_<;>intro h)|(refine w_cond rfl ?_ ?_<;>intro h<;>try exact Bool.noConfusion h)|refine w_ret (S) (vs:=[_]) rfl (Res.tmp rfl Res.nil) ?_|(show WP _ _ _ _ (.region 8 _ true) _ _ _ _;refine o_drawn [(0, false), (1, false), (2, true), (3, false), (4, false), (5, false), (6, false), (7, false), (8, false), (9, false), (10, false), (11, false), (12, false), (13, false), (14, false), (15, false), (16, false), (17, false), (18, true), (19, false), (20, false), (23, true), (21, false), (22, false), (24, true), (25, false), (26, false), (27, false)] mixed (by kernel_rfl) ?_)|(show WP _ _ _ _ (.region 11 _ true) _ _ _ _;refine o_drawn [(0, false), (1, false), (3, true), (2, false), (4, true), (5, false)] mixed (by kernel_rfl) ?_)
    all_goals try (have hjl : j < l.length := by omega
                   refine ⟨?_, rfl⟩
                   rw [ccW_bad hl hjl (by rw [ccAtW_eq hjl]; simp_all [evW]; try omega)]
                   rfl)
    all_goals try (have hjl : j < l.length := by omega
                   refine ⟨l.length - (j + 1), by omega, _, drop6, j + 1, _, rfl, by omega, rfl, rfl, keep ⟨rfl, rfl, rfl, rfl, rfl, rfl, rfl, trivial⟩, ?_⟩
                   intro i hi
                   rcases Nat.lt_or_ge i j with hij | hij
                   · exact hall i hij
                   · have : i = j := by omega
                     subst this
                     rw [ccAtW_eq hjl]
                     simp_all [evW]
                     try omega)
    all_goals (have hjl : j = l.length := by omega
               have hev : evW n p k l = _ := h
               subst hjl
               refine ⟨?_, rfl⟩
               rw [ccW_good hl hall, hev]
               rfl)
  · have ee : ccW n p k l = askedE n 0 p k := if_neg hl
    repeat' first|(refine gX ?_;first|refine o_v rfl rfl ?_|(refine o_splitD rfl rfl rfl ?_ ?_<;>intro h)|(refine o_split rfl rfl rfl ?_ ?_<;>intro h<;>fail_if_success exact Bool.noConfusion h)|(refine gL ?_;first|refine o_load rfl rfl rfl rfl ?_|refine o_loadR rfl rfl rfl (by omega) rfl rfl ?_|refine o_loadW rfl rfl rfl rfl ?_|refine o_loadK rfl rfl rfl ?_)|(refine gF ?_;first|refine o_fieldI rfl rfl rfl rfl ?_|refine o_field rfl rfl rfl rfl ?_)|(refine gB ?_;first|refine o_add rfl rfl rfl rfl (by omega) ?_|refine o_sub rfl rfl rfl rfl (by omega) ?_|refine o_eqNil rfl rfl rfl rfl rfl ?_)|(refine gC ?_;first|refine o_callF rfl rfl rfl (c85 _ _ n _ _ _ _ _ _ _ _ (hn.sub Sb.h)) ?_)|(refine gI ?_;first|refine o_indexS rfl rfl rfl rfl rfl rfl (by omega) ?_|refine o_index rfl rfl rfl rfl rfl (by omega) ?_)|(refine gS ?_;first|refine o_store rfl rfl rfl rfl rfl rfl ?_|refine o_storeW rfl rfl rfl rfl rfl rfl ?_)|(refine o_allocZ rfl rfl ?_;intro _)|(refine o_box rfl rfl rfl ?_;intro _)|refine o_skip rfl rfl ?_|refine o_skipN rfl rfl ?_|refine o_iface rfl rfl rfl ?_|refine o_build rfl rfl rfl rfl rfl ?_|(refine o_bslice rfl rfl rfl rfl rfl rfl rfl ?_;intro _)|(refine o_splitP rfl ?_ ?_<;>intro h<;>fail_if_success exact Bool.noConfusion h))|refine o_head0 rfl ?_|refine o_end ?_|refine o_head1 rfl ?_|(refine w_condD rfl ?_ ?_<;>intro h<;>try (exact absurd hl h))|refine wp_seq ?_|refine o_region ?_|refine wp_block ?_|refine wp_skip ?_|refine wp_exit ?_|(refine w_condD rfl ?_ ?_<;>intro h)|(refine w_cond rfl ?_ ?_<;>intro h<;>try exact Bool.noConfusion h)|refine w_ret (S) (vs:=[_]) rfl (Res.tmp rfl Res.nil) ?_|(show WP _ _ _ _ (.region 8 _ true) _ _ _ _;refine o_drawn [(0, false), (1, false), (2, true), (3, false), (4, false), (5, false), (6, false), (7, false), (8, false), (9, false), (10, false), (11, false), (12, false), (13, false), (14, false), (15, false), (16, false), (17, false), (18, true), (19, false), (20, false), (23, true), (21, false), (22, false), (24, true), (25, false), (26, false), (27, false)] mixed (by kernel_rfl) ?_)|(show WP _ _ _ _ (.region 11 _ true) _ _ _ _;refine o_drawn [(0, false), (1, false), (3, true), (2, false), (4, true), (5, false)] mixed (by kernel_rfl) ?_)
    exact ⟨by rw [ee]; rfl, rfl⟩
end Go.Proofs.YtpnnmklacialgaaGreat
namespace Go.Proofs.YtpnnmklacialgaaGreat
open Go.Conc
attribute [local irreducible] WP OpF OpX CallW SemH retQ AnyF RoundW

def allSrc (n : NetG) : List Int := n.readings.map (·.source)
def without1 (n : NetG) (i : Nat) : NetG := onlyN n (dropAt (allSrc n) i)
def movW (n : NetG) (main p k : Int) (i : Nat) : Bool := decide (shownE (without1 n i) (oneI main) p k ≠ 0) || decide (flowR (without1 n i) main p k ≠ flowR n main p k)
def movedT (n : NetG) (main p k : Int) (j : Nat) : List Int := ((List.range j).filter (movW n main p k)).map fun i => (allSrc n).getD i 0
def movedLR (n : NetG) (main p k : Int) : List Int := if shownE n (oneI main) p k = 0 then movedT n main p k n.readings.length else []
theorem movedT_succ {n : NetG} {main p k : Int} {j : Nat} : movedT n main p k (j + 1) = movedT n main p k j ++ (if movW n main p k j = true then [(allSrc n).getD j 0] else []) := by
  unfold movedT
  rw [List.range_succ, List.filter_append, List.map_append]
  congr 1
  cases h : movW n main p k j <;> simp [h]
theorem movedT_len {n : NetG} {main p k : Int} {j : Nat} : (movedT n main p k j).length ≤ j := by
  unfold movedT
  rw [List.length_map]
  have := List.length_filter_le (movW n main p k) (List.range j)
  simpa using this
theorem shown_ok {n : NetG} {main p k : Int} (h : shownE n main p k = 0) : Valid n := by
  unfold shownE at h
  by_cases h0 : askedE n main p k = 0
  · exact asked_ok h0
  · rw [if_neg h0] at h; exact absurd h h0
theorem c14 (E : Env) (S : Ents) (n : NetG) (a b c d e : Value) (main p k : Int) (hn : NetV S a b c d e n) :
    CallW Tryz.prog E 14 #[.agg #[a, b, c, d, e], iv main, .agg #[iv p, iv k]] S fun r S' => ∃ Δ v, Own v (movedLR n main p k) Δ ∧ r = .tuple #[v, iv (shownE n (oneI main) p k)] ∧ S' = Δ ++ S := by
  have hn0 := hn
  obtain ⟨_, _, ⟨qr, cr, rfl, _, hrr⟩, _, _, _, _, _, _, _⟩ := hn
  have i3 := SlI.mk hrr
  refine call_in (args := [.agg #[a, b, .slice qr n.readings.length cr, d, e], iv main, .agg #[iv p, iv k]]) Tryz.func14 (by decide) rfl rfl ?_
  by_cases hs : shownE n (oneI main) p k = 0
  · have hV := shown_ok hs
    have hr60 := hV.r60
    repeat' first|(refine gX ?_;first|refine o_v rfl rfl ?_|(refine o_splitD rfl rfl rfl ?_ ?_<;>intro h)|(refine o_split rfl rfl rfl ?_ ?_<;>intro h<;>fail_if_success exact Bool.noConfusion h)|(refine gL ?_;first|refine o_load rfl rfl rfl rfl ?_|refine o_loadR rfl rfl rfl (by omega) rfl rfl ?_|refine o_loadW rfl rfl rfl rfl ?_|refine o_loadK rfl rfl rfl ?_)|(refine gF ?_;first|refine o_fieldI rfl rfl rfl rfl ?_|refine o_field rfl rfl rfl rfl ?_)|(refine gB ?_;first|refine o_add rfl rfl rfl rfl (by omega) ?_|refine o_sub rfl rfl rfl rfl (by omega) ?_|refine o_eqNil rfl rfl rfl rfl rfl ?_)|(refine gC ?_;first|refine o_callF rfl rfl rfl (c38 _ _ n _ _ _ _ _ main p k (hn0.sub Sb.h)) ?_)|(refine gI ?_;first|refine o_indexS rfl rfl rfl rfl rfl rfl (by omega) ?_|refine o_index rfl rfl rfl rfl rfl (by omega) ?_)|(refine gS ?_;first|refine o_store rfl rfl rfl rfl rfl rfl ?_|refine o_storeW rfl rfl rfl rfl rfl rfl ?_)|(refine o_allocZ rfl rfl ?_;intro _)|(refine o_box rfl rfl rfl ?_;intro _)|refine o_skip rfl rfl ?_|refine o_skipN rfl rfl ?_|refine o_iface rfl rfl rfl ?_|refine o_build rfl rfl rfl rfl rfl ?_|(refine o_bslice rfl rfl rfl rfl rfl rfl rfl ?_;intro _)|(refine o_splitP rfl ?_ ?_<;>intro h<;>fail_if_success exact Bool.noConfusion h))|refine o_head0 rfl ?_|refine o_end ?_|refine o_head1 rfl ?_|(refine w_condD rfl ?_ ?_<;>intro h<;>try (exact absurd hs h))|refine wp_seq ?_|refine o_region ?_|refine wp_block ?_|refine wp_skip ?_|refine wp_exit ?_|(refine w_condD rfl ?_ ?_<;>intro h)|(refine w_cond rfl ?_ ?_<;>intro h<;>try exact Bool.noConfusion h)|refine w_ret (S) (vs:=[_,_]) rfl (Res.tmp rfl (Res.tmp rfl Res.nil)) ?_|refine anyF_of (fn:=14) (by decide +kernel) ?_|refine anyF_v1 (fn:=14) (by decide +kernel) rfl ?_|refine anyF_v0 (fn:=14) (by decide +kernel) rfl ?_|(show WP _ _ _ _ (.region 14 _ true) _ _ _ _;refine o_drawnA [(0, true), (1, true), (2, true), (5, true), (6, true), (3, false), (4, false), (7, false), (8, true), (9, true), (10, true), (11, false), (12, false), (13, false)] mixed (by kernel_rfl) ?_)|refine o_br2 (fn:=14) (l:=[(7, false), (8, true), (9, true), (10, true), (11, false), (12, false), (13, false)]) 7 11 [(8, true), (9, true), (10, true), (11, false), (12, false), (13, false)] [(7, false), (8, false), (9, false), (10, true), (12, false), (13, false)] (by kernel_rfl) rfl rfl ?_ ?_|refine o_br2 (fn:=14) (l:=[(4, false), (7, false), (8, true), (9, true), (10, true), (11, false), (12, false), (13, false)]) 4 11 [(7, false), (8, true), (9, true), (10, true), (11, false), (12, false), (13, false)] [(4, false), (7, false), (8, false), (9, false), (10, true), (12, false), (13, false)] (by kernel_rfl) rfl rfl ?_ ?_|refine o_br2 (fn:=14) (l:=[(3, false), (4, false), (7, false), (8, true), (9, true), (10, true), (11, false), (12, false), (13, false)]) 3 11 [(4, false), (7, false), (8, true), (9, true), (10, true), (11, false), (12, false), (13, false)] [(3, false), (4, false), (7, false), (8, false), (9, false), (10, true), (12, false), (13, false)] (by kernel_rfl) rfl rfl ?_ ?_
    rename_i b3 b5 b8
    refine wp_loop (fun i t ds S' => ∃ (j : Nat) (t0 : Tm) (w : Value) (Δ : Ents), i = n.readings.length - j ∧ j ≤ n.readings.length ∧ [] = ds ∧ Δ ++ ⟨b8, true, .cells #[.int .i64 (flowR n main p k).lo, .int .i64 (flowR n main p k).hi] 70 (0, 0)⟩ :: ⟨b5, true, .cells #[.int .i64 p, .int .i64 k] 30 (0, 0)⟩ :: ⟨b3, true, .cells #[a, b, .slice qr n.readings.length cr, d, e] 28 (0, 0)⟩ :: S = S' ∧
        t = den [(31, iv j), (30, iv n.readings.length), (29, .slice qr n.readings.length cr), (10, w), (8, .pointer (some ⟨b8, 0, none⟩)), (3, .pointer (some ⟨b3, 0, none⟩)), (5, .pointer (some ⟨b5, 0, none⟩)), (1, iv main)] t0 ∧ Own w ((n.readings.take j).map (·.source)) Δ)
      n.readings.length ⟨0, _, _, [], rfl, Nat.zero_le _, rfl, rfl, keep ⟨rfl, rfl, rfl, rfl, rfl, rfl, rfl, rfl, trivial⟩, .nil⟩ ?_
    rintro i t ds S' ⟨j, t0, w, Δ, rfl, hj, rfl, rfl, rfl, ho⟩
    obtain ⟨wa, wc, rfl, _, _⟩ := ho.slv
    repeat' first|(refine gX ?_;first|refine o_v rfl rfl ?_|(refine o_splitD rfl rfl rfl ?_ ?_<;>intro h)|(refine o_split rfl rfl rfl ?_ ?_<;>intro h<;>fail_if_success exact Bool.noConfusion h)|(refine gL ?_;first|refine o_load rfl rfl rfl rfl ?_|refine o_loadR rfl rfl rfl (by omega) rfl rfl ?_|refine o_loadW rfl rfl rfl rfl ?_|refine o_loadK rfl rfl rfl ?_)|(refine gF ?_;first|refine o_fieldI rfl rfl rfl rfl ?_|refine o_field rfl rfl rfl rfl ?_)|(refine gB ?_;first|refine o_add rfl rfl rfl rfl (by omega) ?_|refine o_sub rfl rfl rfl rfl (by omega) ?_|refine o_eqNil rfl rfl rfl rfl rfl ?_)|(refine gC ?_;first|(refine o_append1 (n.readings[j]'(by first|done|omega)).source rfl rfl rfl rfl ho rfl (by rw [List.length_map, List.length_take]; omega) rfl rfl rfl rfl ?_;intro w2 Δ2 ho2;refine ⟨inferInstance, ?_⟩))|(refine gI ?_;first|refine o_indexS rfl rfl rfl rfl rfl rfl (by omega) ?_|refine o_index rfl rfl rfl rfl rfl (by omega) ?_)|(refine gS ?_;first|refine o_store rfl rfl rfl rfl rfl rfl ?_|refine o_storeW rfl rfl rfl rfl rfl rfl ?_)|(refine o_allocZ rfl rfl ?_;intro _)|(refine o_box rfl rfl rfl ?_;intro _)|refine o_skip rfl rfl ?_|refine o_skipN rfl rfl ?_|refine o_iface rfl rfl rfl ?_|refine o_build rfl rfl rfl rfl rfl ?_|(refine o_bslice rfl rfl rfl rfl rfl rfl rfl ?_;intro _)|(refine o_splitP rfl ?_ ?_<;>intro h<;>fail_if_success exact Bool.noConfusion h))|refine o_head0 rfl ?_|refine o_end ?_|refine o_head1 rfl ?_|refine wp_seq ?_|refine o_region ?_|refine wp_block ?_|refine wp_skip ?_|refine wp_exit ?_|(refine w_condD rfl ?_ ?_<;>intro h)|(refine w_cond rfl ?_ ?_<;>intro h<;>try exact Bool.noConfusion h)|refine w_ret (S) (vs:=[_,_]) rfl (Res.tmp rfl (Res.tmp rfl Res.nil)) ?_|refine anyF_of (fn:=14) (by decide +kernel) ?_|refine anyF_v1 (fn:=14) (by decide +kernel) rfl ?_|refine anyF_v0 (fn:=14) (by decide +kernel) rfl ?_|(show WP _ _ _ _ (.region 14 _ true) _ _ _ _;refine o_drawnA [(0, true), (1, true), (2, true), (5, true), (6, true), (3, false), (4, false), (7, false), (8, true), (9, true), (10, true), (11, false), (12, false), (13, false)] mixed (by kernel_rfl) ?_)|refine o_br2 (fn:=14) (l:=[(7, false), (8, true), (9, true), (10, true), (11, false), (12, false), (13, false)]) 7 11 [(8, true), (9, true), (10, true), (11, false), (12, false), (13, false)] [(7, false), (8, false), (9, false), (10, true), (12, false), (13, false)] (by kernel_rfl) rfl rfl ?_ ?_|refine o_br2 (fn:=14) (l:=[(4, false), (7, false), (8, true), (9, true), (10, true), (11, false), (12, false), (13, false)]) 4 11 [(7, false), (8, true), (9, true), (10, true), (11, false), (12, false), (13, false)] [(4, false), (7, false), (8, false), (9, false), (10, true), (12, false), (13, false)] (by kernel_rfl) rfl rfl ?_ ?_|refine o_br2 (fn:=14) (l:=[(3, false), (4, false), (7, false), (8, true), (9, true), (10, true), (11, false), (12, false), (13, false)]) 3 11 [(4, false), (7, false), (8, true), (9, true), (10, true), (11, false), (12, false), (13, false)] [(3, false), (4, false), (7, false), (8, false), (9, false), (10, true), (12, false), (13, false)] (by kernel_rfl) rfl rfl ?_ ?_
    · refine ⟨n.readings.length - (j + 1), by omega, _, .append_left (.cons _ (.cons _ (List.Sublist.refl _))) _, j + 1, _, _, Δ2, rfl, by omega, rfl, rfl, keep ⟨rfl, rfl, rfl, rfl, rfl, rfl, rfl, rfl, trivial⟩, ?_⟩
      rw [List.take_succ_eq_append_getElem (by omega), List.map_append]
      exact ho2
    have hjm : j = n.readings.length := by omega
    subst hjm
    have hal : (n.readings.take n.readings.length).map (·.source) = allSrc n := by rw [List.take_length]; rfl
    have hln : (allSrc n).length = n.readings.length := List.length_map ..
    rw [hal] at ho ⊢
    obtain ⟨_, hra⟩ := ho.sla
    have i4 := SlI.mk hra
    refine wp_loop (fun i t ds S' => ∃ (j : Nat) (t0 : Tm) (w : Value) (Δr : Ents), i = n.readings.length - j ∧ j ≤ n.readings.length ∧ [] = ds ∧ Δr ++ (Δ ++ ⟨b8, true, .cells #[.int .i64 (flowR n main p k).lo, .int .i64 (flowR n main p k).hi] 70 (0, 0)⟩ :: ⟨b5, true, .cells #[.int .i64 p, .int .i64 k] 30 (0, 0)⟩ :: ⟨b3, true, .cells #[a, b, .slice qr n.readings.length cr, d, e] 28 (0, 0)⟩ :: S) = S' ∧
        t = den [(43, iv j), (42, iv n.readings.length), (41, .slice wa (allSrc n).length wc), (13, w), (10, .slice wa (allSrc n).length wc), (8, .pointer (some ⟨b8, 0, none⟩)), (3, .pointer (some ⟨b3, 0, none⟩)), (5, .pointer (some ⟨b5, 0, none⟩)), (1, iv main)] t0 ∧ Own w (movedT n main p k j) Δr)
      n.readings.length ⟨0, _, _, [], rfl, Nat.zero_le _, rfl, rfl, keep ⟨rfl, by rw [← hln]; rfl, rfl, rfl, rfl, rfl, rfl, rfl, rfl, trivial⟩, .nil⟩ ?_
    rintro i t ds S' ⟨j, t0, w, Δr, rfl, hj, rfl, rfl, rfl, hor⟩
    obtain ⟨va, vc, rfl, _, _⟩ := hor.slv
    have hmt := movedT_len (n := n) (main := main) (p := p) (k := k) (j := j)
    repeat' first|(refine gX ?_;first|refine o_v rfl rfl ?_|(refine o_splitD rfl rfl rfl ?_ ?_<;>intro h)|(refine o_split rfl rfl rfl ?_ ?_<;>intro h<;>fail_if_success exact Bool.noConfusion h)|(refine gL ?_;first|refine o_load rfl rfl rfl rfl ?_|refine o_loadR rfl rfl rfl (by omega) rfl rfl ?_|refine o_loadW rfl rfl rfl rfl ?_|refine o_loadK rfl rfl rfl ?_)|(refine gF ?_;first|refine o_fieldI rfl rfl rfl rfl ?_|refine o_field rfl rfl rfl rfl ?_)|(refine gB ?_;first|refine o_add rfl rfl rfl rfl (by omega) ?_|refine o_sub rfl rfl rfl rfl (by omega) ?_|refine o_eqNil rfl rfl rfl rfl rfl ?_)|(refine gC ?_;first|(refine o_callZ rfl rfl rfl (c78 _ _ _ (allSrc n) j (by omega) (ho.slv.sub Sb.h) (by omega)) ?_;rintro r _ ⟨Δ3, ho3, rfl⟩;have hdl := dropAt_len (l := allSrc n) (i := j) (by omega);refine ⟨inferInstance, ?_⟩)|(refine o_callZ rfl rfl rfl (c80 _ _ n _ _ _ _ _ _ (dropAt (allSrc n) j) (hn0.sub Sb.h) (ho3.slv.sub Sb.h) (by omega) (by omega)) ?_;rintro r _ ⟨Δ4, w4, ho4, rfl, rfl⟩;refine ⟨inferInstance, ?_⟩)|(refine o_callF rfl rfl rfl (c38 _ _ (without1 n j) _ _ _ _ _ main p k ((netV_only hn0 ho4).sub Sb.h)) ?_))|(refine gI ?_;first|refine o_indexS rfl rfl rfl rfl rfl rfl (by omega) ?_|refine o_index rfl rfl rfl rfl rfl (by omega) ?_)|(refine gS ?_;first|refine o_store rfl rfl rfl rfl rfl rfl ?_|refine o_storeW rfl rfl rfl rfl rfl rfl ?_)|(refine o_allocZ rfl rfl ?_;intro _)|(refine o_box rfl rfl rfl ?_;intro _)|refine o_skip rfl rfl ?_|refine o_skipN rfl rfl ?_|refine o_iface rfl rfl rfl ?_|refine o_build rfl rfl rfl rfl rfl ?_|(refine o_bslice rfl rfl rfl rfl rfl rfl rfl ?_;intro _)|(refine o_splitP rfl ?_ ?_<;>intro h<;>fail_if_success exact Bool.noConfusion h))|refine o_head0 rfl ?_|refine o_end ?_|refine o_head1 rfl ?_|(show WP _ _ _ _ (.seq (.region 14 _ _) _) _ _ _ _;refine wp_cut (fun t ds S' => ∃ (t0 : Tm) (b16 : Nat), [] = ds ∧ ⟨b16, true, .cells #[.int .i64 (flowR (without1 n j) main p k).lo, .int .i64 (flowR (without1 n j) main p k).hi] 70 (0, 0)⟩ :: (Δr ++ (Δ ++ ⟨b8, true, .cells #[.int .i64 (flowR n main p k).lo, .int .i64 (flowR n main p k).hi] 70 (0, 0)⟩ :: ⟨b5, true, .cells #[.int .i64 p, .int .i64 k] 30 (0, 0)⟩ :: ⟨b3, true, .cells #[a, b, .slice qr n.readings.length cr, d, e] 28 (0, 0)⟩ :: S)) = S' ∧ t = den [(43, iv j), (42, iv n.readings.length), (41, .slice wa (allSrc n).length wc), (13, .slice va (movedT n main p k j).length vc), (10, .slice wa (allSrc n).length wc), (8, .pointer (some ⟨b8, 0, none⟩)), (3, .pointer (some ⟨b3, 0, none⟩)), (5, .pointer (some ⟨b5, 0, none⟩)), (1, iv main), (14, iv j), (15, iv ((allSrc n)[j]'(by first|done|omega))), (16, .pointer (some ⟨b16, 0, none⟩)), (17, iv (shownE (without1 n j) (oneI main) p k))] t0) ?_ ?_)|refine wp_seq ?_|refine o_region ?_|refine wp_block ?_|refine wp_skip ?_|refine wp_exit ?_|(refine w_condD rfl ?_ ?_<;>intro h)|(refine w_cond rfl ?_ ?_<;>intro h<;>try exact Bool.noConfusion h)|refine w_ret (Δr ++ S) (vs:=[_,_]) rfl (Res.tmp rfl (Res.tmp rfl Res.nil)) ?_|refine w_ret (S) (vs:=[_,_]) rfl (Res.tmp rfl (Res.tmp rfl Res.nil)) ?_|refine anyF_of (fn:=14) (by decide +kernel) ?_|refine anyF_v1 (fn:=14) (by decide +kernel) rfl ?_|refine anyF_v0 (fn:=14) (by decide +kernel) rfl ?_|(show WP _ _ _ _ (.region 14 _ true) _ _ _ _;refine o_drawnA [(0, true), (1, true), (2, true), (5, true), (6, true), (3, false), (4, false), (7, false), (8, true), (9, true), (10, true), (11, false), (12, false), (13, false)] mixed (by kernel_rfl) ?_)|refine o_br2 (fn:=14) (l:=[(7, false), (8, true), (9, true), (10, true), (11, false), (12, false), (13, false)]) 7 11 [(8, true), (9, true), (10, true), (11, false), (12, false), (13, false)] [(7, false), (8, false), (9, false), (10, true), (12, false), (13, false)] (by kernel_rfl) rfl rfl ?_ ?_|refine o_br2 (fn:=14) (l:=[(4, false), (7, false), (8, true), (9, true), (10, true), (11, false), (12, false), (13, false)]) 4 11 [(7, false), (8, true), (9, true), (10, true), (11, false), (12, false), (13, false)] [(4, false), (7, false), (8, false), (9, false), (10, true), (12, false), (13, false)] (by kernel_rfl) rfl rfl ?_ ?_|refine o_br2 (fn:=14) (l:=[(3, false), (4, false), (7, false), (8, true), (9, true), (10, true), (11, false), (12, false), (13, false)]) 3 11 [(4, false), (7, false), (8, true), (9, true), (10, true), (11, false), (12, false), (13, false)] [(3, false), (4, false), (7, false), (8, false), (9, false), (10, true), (12, false), (13, false)] (by kernel_rfl) rfl rfl ?_ ?_
    all_goals try (first
      | exact ⟨_, .cons_cons _ ((List.sublist_append_right Δ3 _).trans (List.sublist_append_right Δ4 _)), _, _, rfl, rfl, keep ⟨rfl, rfl, rfl, rfl, rfl, rfl, rfl, rfl, rfl, rfl, rfl, rfl, rfl, trivial⟩⟩
      | exact ⟨_, (List.Sublist.cons_cons _ (List.sublist_append_right Δ3 _)).trans (List.sublist_append_right Δ4 _), _, _, rfl, rfl, keep ⟨rfl, rfl, rfl, rfl, rfl, rfl, rfl, rfl, rfl, rfl, rfl, rfl, rfl, trivial⟩⟩
      | exact ⟨_, (List.sublist_append_right Δ3 _).trans (List.sublist_append_right Δ4 _), _, _, rfl, rfl, keep ⟨rfl, rfl, rfl, rfl, rfl, rfl, rfl, rfl, rfl, rfl, rfl, rfl, rfl, trivial⟩⟩)
    · have hjl : j < n.readings.length := by omega
      rintro _ _ _ ⟨t0, b16, rfl, rfl, rfl⟩
      repeat' first|(refine gX ?_;first|refine o_v rfl rfl ?_|(refine o_splitD rfl rfl rfl ?_ ?_<;>intro h)|(refine o_split rfl rfl rfl ?_ ?_<;>intro h<;>fail_if_success exact Bool.noConfusion h)|(refine gL ?_;first|refine o_load rfl rfl rfl rfl ?_|refine o_loadR rfl rfl rfl (by omega) rfl rfl ?_|refine o_loadW rfl rfl rfl rfl ?_|refine o_loadK rfl rfl rfl ?_)|(refine gF ?_;first|refine o_fieldI rfl rfl rfl rfl ?_|refine o_field rfl rfl rfl rfl ?_)|(refine gB ?_;first|refine o_neS (k := 2) rfl rfl rfl rfl rfl rfl rfl rfl ?_|refine o_add rfl rfl rfl rfl (by omega) ?_|refine o_sub rfl rfl rfl rfl (by omega) ?_|refine o_eqNil rfl rfl rfl rfl rfl ?_)|(refine gC ?_;first|(refine o_append1 ((allSrc n)[j]'(by first|done|omega)) rfl rfl rfl rfl hor rfl (by omega) rfl rfl rfl rfl ?_;intro w2 Δ2 hor2;refine ⟨inferInstance, ?_⟩))|(refine gI ?_;first|refine o_indexS rfl rfl rfl rfl rfl rfl (by omega) ?_|refine o_index rfl rfl rfl rfl rfl (by omega) ?_)|(refine gS ?_;first|refine o_store rfl rfl rfl rfl rfl rfl ?_|refine o_storeW rfl rfl rfl rfl rfl rfl ?_)|(refine o_allocZ rfl rfl ?_;intro _)|(refine o_box rfl rfl rfl ?_;intro _)|refine o_skip rfl rfl ?_|refine o_skipN rfl rfl ?_|refine o_iface rfl rfl rfl ?_|refine o_build rfl rfl rfl rfl rfl ?_|(refine o_bslice rfl rfl rfl rfl rfl rfl rfl ?_;intro _)|(refine o_splitP rfl ?_ ?_<;>intro h<;>fail_if_success exact Bool.noConfusion h))|refine o_head0 rfl ?_|refine o_end ?_|refine o_head1 rfl ?_|refine wp_seq ?_|refine o_region ?_|refine wp_block ?_|refine wp_skip ?_|refine wp_exit ?_|(refine w_condD rfl ?_ ?_<;>intro h)|(refine w_cond rfl ?_ ?_<;>intro h<;>try exact Bool.noConfusion h)|refine w_ret (S) (vs:=[_,_]) rfl (Res.tmp rfl (Res.tmp rfl Res.nil)) ?_|refine anyF_of (fn:=14) (by decide +kernel) ?_|refine anyF_v1 (fn:=14) (by decide +kernel) rfl ?_|refine anyF_v0 (fn:=14) (by decide +kernel) rfl ?_|(show WP _ _ _ _ (.region 14 _ true) _ _ _ _;refine o_drawnA [(0, true), (1, true), (2, true), (5, true), (6, true), (3, false), (4, false), (7, false), (8, true), (9, true), (10, true), (11, false), (12, false), (13, false)] mixed (by kernel_rfl) ?_)|refine o_br2 (fn:=14) (l:=[(7, false), (8, true), (9, true), (10, true), (11, false), (12, false), (13, false)]) 7 11 [(8, true), (9, true), (10, true), (11, false), (12, false), (13, false)] [(7, false), (8, false), (9, false), (10, true), (12, false), (13, false)] (by kernel_rfl) rfl rfl ?_ ?_|refine o_br2 (fn:=14) (l:=[(4, false), (7, false), (8, true), (9, true), (10, true), (11, false), (12, false), (13, false)]) 4 11 [(7, false), (8, true), (9, true), (10, true), (11, false), (12, false), (13, false)] [(4, false), (7, false), (8, false), (9, false), (10, true), (12, false), (13, false)] (by kernel_rfl) rfl rfl ?_ ?_|refine o_br2 (fn:=14) (l:=[(3, false), (4, false), (7, false), (8, true), (9, true), (10, true), (11, false), (12, false), (13, false)]) 3 11 [(4, false), (7, false), (8, true), (9, true), (10, true), (11, false), (12, false), (13, false)] [(3, false), (4, false), (7, false), (8, false), (9, false), (10, true), (12, false), (13, false)] (by kernel_rfl) rfl rfl ?_ ?_
      all_goals have hg : (allSrc n).getD j 0 = (allSrc n)[j]'(by omega) := by simp [List.getD, show j < (allSrc n).length by omega]
      · rename_i hm _
        refine ⟨n.readings.length - (j + 1), by omega, _, .append_left (.cons _ (.cons _ (List.Sublist.refl _))) _, j + 1, _, _, Δ2, rfl, by omega, rfl, rfl, keep ⟨rfl, rfl, rfl, rfl, rfl, rfl, rfl, rfl, rfl, trivial⟩, ?_⟩
        rw [movedT_succ, if_pos (by unfold movW; rw [decide_eq_true hm, Bool.true_or]), hg]
        exact hor2
      · refine ⟨n.readings.length - (j + 1), by omega, _, .append_left (.cons _ (.cons _ (List.Sublist.refl _))) _, j + 1, _, _, Δ2, rfl, by omega, rfl, rfl, keep ⟨rfl, rfl, rfl, rfl, rfl, rfl, rfl, rfl, rfl, trivial⟩, ?_⟩
        rw [movedT_succ, if_pos (by unfold movW; rw [decide_eq_true (rng_ne.1 h), Bool.or_true]), hg]
        exact hor2
      · rename_i hm
        refine ⟨n.readings.length - (j + 1), by omega, _, .cons _ (List.Sublist.refl _), j + 1, _, _, Δr, rfl, by omega, rfl, rfl, keep ⟨rfl, rfl, rfl, rfl, rfl, rfl, rfl, rfl, rfl, trivial⟩, ?_⟩
        rw [movedT_succ, if_neg (by unfold movW; rw [decide_eq_false hm, decide_eq_false (fun hc => h (rng_ne.2 hc))]; decide), List.append_nil]
        exact hor
    · have hjm : j = n.readings.length := by omega
      have hm : movedLR n main p k = movedT n main p k j := by rw [hjm]; exact if_pos hs
      exact ⟨Δr, _, by rw [hm]; exact hor, by rw [hs]; rfl, rfl⟩
  · have hm : movedLR n main p k = [] := if_neg hs
    repeat' first|(refine gX ?_;first|refine o_v rfl rfl ?_|(refine o_splitD rfl rfl rfl ?_ ?_<;>intro h)|(refine o_split rfl rfl rfl ?_ ?_<;>intro h<;>fail_if_success exact Bool.noConfusion h)|(refine gL ?_;first|refine o_load rfl rfl rfl rfl ?_|refine o_loadR rfl rfl rfl (by omega) rfl rfl ?_|refine o_loadW rfl rfl rfl rfl ?_|refine o_loadK rfl rfl rfl ?_)|(refine gF ?_;first|refine o_fieldI rfl rfl rfl rfl ?_|refine o_field rfl rfl rfl rfl ?_)|(refine gB ?_;first|refine o_add rfl rfl rfl rfl (by omega) ?_|refine o_sub rfl rfl rfl rfl (by omega) ?_|refine o_eqNil rfl rfl rfl rfl rfl ?_)|(refine gC ?_;first|refine o_callF rfl rfl rfl (c38 _ _ n _ _ _ _ _ main p k (hn0.sub Sb.h)) ?_)|(refine gI ?_;first|refine o_indexS rfl rfl rfl rfl rfl rfl (by omega) ?_|refine o_index rfl rfl rfl rfl rfl (by omega) ?_)|(refine gS ?_;first|refine o_store rfl rfl rfl rfl rfl rfl ?_|refine o_storeW rfl rfl rfl rfl rfl rfl ?_)|(refine o_allocZ rfl rfl ?_;intro _)|(refine o_box rfl rfl rfl ?_;intro _)|refine o_skip rfl rfl ?_|refine o_skipN rfl rfl ?_|refine o_iface rfl rfl rfl ?_|refine o_build rfl rfl rfl rfl rfl ?_|(refine o_bslice rfl rfl rfl rfl rfl rfl rfl ?_;intro _)|(refine o_splitP rfl ?_ ?_<;>intro h<;>fail_if_success exact Bool.noConfusion h))|refine o_head0 rfl ?_|refine o_end ?_|refine o_head1 rfl ?_|(refine w_condD rfl ?_ ?_<;>intro h<;>try (exact absurd hs h))|refine wp_seq ?_|refine o_region ?_|refine wp_block ?_|refine wp_skip ?_|refine wp_exit ?_|(refine w_condD rfl ?_ ?_<;>intro h)|(refine w_cond rfl ?_ ?_<;>intro h<;>try exact Bool.noConfusion h)|refine w_ret (S) (vs:=[_,_]) rfl (Res.tmp rfl (Res.tmp rfl Res.nil)) ?_|refine anyF_of (fn:=14) (by decide +kernel) ?_|refine anyF_v1 (fn:=14) (by decide +kernel) rfl ?_|refine anyF_v0 (fn:=14) (by decide +kernel) rfl ?_|(show WP _ _ _ _ (.region 14 _ true) _ _ _ _;refine o_drawnA [(0, true), (1, true), (2, true), (5, true), (6, true), (3, false), (4, false), (7, false), (8, true), (9, true), (10, true), (11, false), (12, false), (13, false)] mixed (by kernel_rfl) ?_)|refine o_br2 (fn:=14) (l:=[(7, false), (8, true), (9, true), (10, true), (11, false), (12, false), (13, false)]) 7 11 [(8, true), (9, true), (10, true), (11, false), (12, false), (13, false)] [(7, false), (8, false), (9, false), (10, true), (12, false), (13, false)] (by kernel_rfl) rfl rfl ?_ ?_|refine o_br2 (fn:=14) (l:=[(4, false), (7, false), (8, true), (9, true), (10, true), (11, false), (12, false), (13, false)]) 4 11 [(7, false), (8, true), (9, true), (10, true), (11, false), (12, false), (13, false)] [(4, false), (7, false), (8, false), (9, false), (10, true), (12, false), (13, false)] (by kernel_rfl) rfl rfl ?_ ?_|refine o_br2 (fn:=14) (l:=[(3, false), (4, false), (7, false), (8, true), (9, true), (10, true), (11, false), (12, false), (13, false)]) 3 11 [(4, false), (7, false), (8, true), (9, true), (10, true), (11, false), (12, false), (13, false)] [(3, false), (4, false), (7, false), (8, false), (9, false), (10, true), (12, false), (13, false)] (by kernel_rfl) rfl rfl ?_ ?_
    exact ⟨[], _, by rw [hm]; exact .nil, rfl, rfl⟩
end Go.Proofs.YtpnnmklacialgaaGreat
namespace Go.Proofs.YtpnnmklacialgaaGreat
open Go.Conc

/-- The readings that are used. -/
def rF (n : NetG) (by' : ReadG → Bool) (p k : Int) : List ReadG := (n.readings.filter (countsR p k)).filter by'
def stepR (n : NetG) (i : Nat) (acc : RangeG) (r : ReadG) : RangeG := if r.main = idOf n.mains i then meetR acc r.volume else acc
theorem foldR_eq {n : NetG} {by' : ReadG → Bool} {i : Nat} : ∀ {l : List ReadG} {x : RangeG}, l.foldl (fun acc r => if r.main = idOf n.mains i ∧ by' r = true then meetR acc r.volume else acc) x = (l.filter by').foldl (stepR n i) x
  | [], x => rfl
  | r :: l, x => by
    simp only [List.foldl_cons]
    rw [foldR_eq (l := l)]
    by_cases hb : by' r = true
    · rw [List.filter_cons, if_pos hb, List.foldl_cons]
      congr 1
      unfold stepR
      by_cases hm : r.main = idOf n.mains i
      · rw [if_pos ⟨hm, hb⟩, if_pos hm]
      · rw [if_neg (fun hc => hm hc.1), if_neg hm]
    · rw [List.filter_cons, if_neg hb, if_neg (fun hc => hb hc.2)]
theorem readN_eq {n : NetG} {by' : ReadG → Bool} {p k : Int} {i : Nat} {x : RangeG} : readN n by' p k i x = (rF n by' p k).foldl (stepR n i) x := by
  unfold readN readT rF
  rw [List.take_length, foldR_eq]
section
variable {n m : NetG} {b1 b2 : ReadG → Bool} {p k : Int} (hm : n.mains = m.mains) (hu : n.uses = m.uses) (hr : rF n b1 p k = rF m b2 p k)
include hm hu
theorem used_congr : usedN n p k = usedN m p k := by
  obtain ⟨a, b, c, d, e⟩ := n
  obtain ⟨a', b', c', d', e'⟩ := m
  simp only at hm hu
  subst hm hu
  rfl
include hr
theorem upStep_congr {P : List RangeG} {i : Nat} : upStep n b1 p k P i = upStep m b2 p k P i := by
  unfold upStep
  rw [readN_eq, readN_eq, hr, used_congr hm hu, hm]
  have : stepR n i = stepR m i := by unfold stepR; rw [hm]
  rw [this]
theorem upsD_congr : ∀ {d : Nat}, upsD n b1 p k d = upsD m b2 p k d
  | 0 => rfl
  | d + 1 => by
    show upStep n b1 p k (upsD n b1 p k d) (n.mains.length - 1 - d) = upStep m b2 p k (upsD m b2 p k d) (m.mains.length - 1 - d)
    rw [upsD_congr, upStep_congr hm hu hr, hm]
theorem evD_congr : ∀ {d : Nat}, evD n b1 p k d = evD m b2 p k d
  | 0 => rfl
  | d + 1 => by
    show (evD n b1 p k d && decide ((partOf (upsD n b1 p k (d + 1)) (n.mains.length - 1 - d)).lo ≤ (partOf (upsD n b1 p k (d + 1)) (n.mains.length - 1 - d)).hi)) = _
    rw [evD_congr, upsD_congr hm hu hr, hm]
    rfl
theorem evenN_congr : evenN n b1 p k = evenN m b2 p k := by
  unfold evenN
  rw [evD_congr hm hu hr, hm]
theorem upsN_congr : upsN n b1 p k = upsN m b2 p k := by
  unfold upsN
  rw [upsD_congr hm hu hr, hm]
theorem thrT_congr : ∀ {i : Nat}, thrT n b1 p k i = thrT m b2 p k i
  | 0 => rfl
  | i + 1 => by
    show stepH n b1 p k (thrT n b1 p k i) i = stepH m b2 p k (thrT m b2 p k i) i
    rw [thrT_congr]
    have e1 : upOf n i = upOf m i := by unfold upOf; rw [hm]
    have e2 : ∀ x, placeF n x = placeF m x := fun x => by unfold placeF; rw [hm]
    have e3 : ∀ x, idx n x = idx m x := fun x => by unfold idx; rw [e2]
    unfold stepH
    rw [upsN_congr hm hu hr, used_congr hm hu, e1, e2, e3, hm]
theorem thrN_congr : thrN n b1 p k = thrN m b2 p k := by
  unfold thrN
  rw [thrT_congr hm hu hr, hm]
end

theorem filter_tt {q : List ReadG} : q.filter tt = q := List.filter_eq_self.2 fun _ _ => rfl
theorem rF_only {n : NetG} {l : List Int} {p k : Int} : rF (onlyN n l) tt p k = rF n (fun x => l.contains x.source) p k := by
  unfold rF
  have h1 : (onlyN n l).readings = n.readings.filter fun x => l.contains x.source := rfl
  rw [h1]
  rw [filter_tt, List.filter_filter, List.filter_filter]
  congr 1
  funext x
  exact Bool.and_comm _ _
theorem ev_only {n : NetG} {p k : Int} {l : List Int} : evW n p k l = evL' n p k l := evenN_congr (n := onlyN n l) (m := n) rfl rfl rF_only
theorem rF_all {n : NetG} {p k : Int} {l : List Int} (h : ∀ x ∈ n.readings, countsR p k x = true → x.source ∈ l) : rF n tt p k = rF n (fun x => l.contains x.source) p k := by
  unfold rF
  rw [filter_tt]
  refine (List.filter_eq_self.2 fun x hx => ?_).symm
  obtain ⟨h1, h2⟩ := List.mem_filter.1 hx
  simpa using h x h1 h2
theorem ev_count {n : NetG} {p k : Int} : evenN n tt p k = evL' n p k (countSrc n p k) := evenN_congr (n := n) (m := n) rfl rfl (rF_all fun x hx hc => by
  unfold countSrc
  exact List.mem_map.2 ⟨x, List.mem_filter.2 ⟨hx, hc⟩, rfl⟩)
theorem asked_look {n : NetG} {p k : Int} : askedE n 0 p k = lookE n p k := by
  unfold askedE lookE
  rw [if_neg (show ¬ ((0 : Int) ≠ 0 ∧ placeF n 0 < 0) from fun h => h.1 rfl)]
theorem evW_fun {n : NetG} {p k : Int} : evW n p k = evL' n p k := funext fun l => ev_only
theorem conf_err {n : NetG} {p k : Int} : confER n p k = confE n p k := by
  unfold confER confE
  rw [asked_look, ev_count]
theorem conf_list {n : NetG} {p k : Int} : confLR n p k = confL n p k := by
  unfold confLR confL
  rw [conf_err, evW_fun]
theorem cc_eq {n : NetG} {p k : Int} {l : List Int} : ccW n p k l = ccE n p k l := by
  unfold ccW ccE
  have : ccAtW n p k l = ccAt n p k l := by
    funext i
    unfold ccAtW ccAt
    rw [ev_only]
  rw [asked_look, this, ev_only]
/-! ### fewer readings, wider ranges -/

def Wid (x y : RangeG) : Prop := y.lo ≤ x.lo ∧ x.hi ≤ y.hi
theorem Wid.refl {x : RangeG} : Wid x x := ⟨Int.le_refl _, Int.le_refl _⟩
theorem wid_fold {n : NetG} {i : Nat} : ∀ {l l' : List ReadG} {x y : RangeG}, List.Sublist l l' → Wid x y → Wid (l'.foldl (stepR n i) x) (l.foldl (stepR n i) y) := by
  intro l l' x y hs
  induction hs generalizing x y with
  | slnil => intro h; exact h
  | @cons l l' a hs ih =>
    intro h
    rw [List.foldl_cons]
    refine ih ?_
    unfold stepR
    split
    · unfold Wid meetR at *; simp only; omega
    · exact h
  | @cons_cons l l' a hs ih =>
    intro h
    rw [List.foldl_cons, List.foldl_cons]
    refine ih ?_
    unfold stepR
    split
    · unfold Wid meetR at *; simp only; omega
    · exact h
theorem wid_sum {f g : Nat → RangeG} : ∀ {l : List Nat}, (∀ q, Wid (f q) (g q)) → Wid (sumR (l.map f)) (sumR (l.map g))
  | [], h => Wid.refl
  | q :: l, h => by
    have h1 := h q
    have h2 := wid_sum (l := l) h
    unfold Wid at *
    simp only [List.map_cons, sumR]
    omega
theorem wid_rest {ms : List MainG} {u P Q : List RangeG} {i : Nat} {but : Int} (h : ∀ q, Wid (partOf P q) (partOf Q q)) : Wid (restR ms u P i but) (restR ms u Q i but) := by
  have h1 := wid_sum (f := partOf P) (g := partOf Q) (l := (belowN ms (idOf ms i)).filter fun (k : Nat) => decide ((k : Int) ≠ but)) h
  unfold restR restL
  simp only [sumR_app]
  unfold Wid at *
  simp only
  omega
section
variable {n m : NetG} {b1 b2 : ReadG → Bool} {p k : Int} (hm : n.mains = m.mains) (hu : n.uses = m.uses) (hs : List.Sublist (rF n b1 p k) (rF m b2 p k)) (h12 : n.mains.length ≤ 12)
include hm hu hs h12
theorem wid_ups : ∀ {d : Nat}, d ≤ n.mains.length → ∀ q, Wid (partOf (upsD m b2 p k d) q) (partOf (upsD n b1 p k d) q)
  | 0, _, q => Wid.refl
  | d + 1, hd, q => by
    have ih := wid_ups (d := d) (by omega)
    show Wid (partOf (upStep m b2 p k (upsD m b2 p k d) (m.mains.length - 1 - d)) q) (partOf (upStep n b1 p k (upsD n b1 p k d) (n.mains.length - 1 - d)) q)
    rw [← hm]
    unfold upStep
    rw [part_set (by rw [upsD_len]; omega), part_set (by rw [upsD_len]; omega)]
    split
    · rw [readN_eq, readN_eq]
      have e : stepR m (n.mains.length - 1 - d) = stepR n (n.mains.length - 1 - d) := by unfold stepR; rw [hm]
      rw [e, ← hm, ← used_congr hm hu (p := p) (k := k)]
      exact wid_fold hs (wid_rest ih)
    · exact ih q
theorem wid_ev : ∀ {d : Nat}, d ≤ n.mains.length → evD m b2 p k d = true → evD n b1 p k d = true
  | 0, _, _ => rfl
  | d + 1, hd, h => by
    have h' : (evD m b2 p k d && decide ((partOf (upsD m b2 p k (d + 1)) (m.mains.length - 1 - d)).lo ≤ (partOf (upsD m b2 p k (d + 1)) (m.mains.length - 1 - d)).hi)) = true := h
    rw [Bool.and_eq_true, decide_eq_true_eq] at h'
    have hw := wid_ups hm hu hs h12 hd (m.mains.length - 1 - d)
    show (evD n b1 p k d && decide ((partOf (upsD n b1 p k (d + 1)) (n.mains.length - 1 - d)).lo ≤ (partOf (upsD n b1 p k (d + 1)) (n.mains.length - 1 - d)).hi)) = true
    rw [Bool.and_eq_true, decide_eq_true_eq]
    refine ⟨wid_ev (by omega) h'.1, ?_⟩
    rw [hm]
    unfold Wid at hw
    omega
theorem wid_even (h : evenN m b2 p k = true) : evenN n b1 p k = true := by
  unfold evenN at *
  rw [← hm] at h
  exact wid_ev hm hu hs h12 (Nat.le_refl _) h
end
end Go.Proofs.YtpnnmklacialgaaGreat
namespace Go.Proofs.YtpnnmklacialgaaGreat
open Go.Conc

section
variable {α : Type} {key : α → Int} {ok : α → Bool}
theorem riseF_was : ∀ {l : List α} {a b : Int}, a ≤ b → riseF key ok b l = true → riseF key ok a l = true
  | [], _, _, _, _ => rfl
  | x :: l, a, b, h, hr => by
    simp only [riseF, Bool.and_eq_true, decide_eq_true_eq] at hr ⊢
    exact ⟨⟨by omega, hr.1.2⟩, hr.2⟩
theorem riseF_filter {q : α → Bool} : ∀ {l : List α} {a : Int}, riseF key ok a l = true → riseF key ok a (l.filter q) = true
  | [], _, _ => rfl
  | x :: l, a, hr => by
    have hr0 := hr
    simp only [riseF, Bool.and_eq_true, decide_eq_true_eq] at hr
    rw [List.filter_cons]
    split
    · simp only [riseF, Bool.and_eq_true, decide_eq_true_eq]
      exact ⟨hr.1, riseF_filter hr.2⟩
    · exact riseF_was (by omega) (riseF_filter hr.2)
end
theorem valid_reads {n : NetG} (h : validB n = true) : riseF (·.source) (fun x => placeOk n x.main) 0 n.readings = true := by
  unfold validB at h
  simp only [Bool.and_eq_true, lenAll_iff] at h
  exact h.1.2
theorem validB_only {n : NetG} {l : List Int} (h : validB n = true) : validB (onlyN n l) = true := by
  have hf : ∀ q : ReadG → Bool, (n.readings.filter q).length ≤ n.readings.length := fun q => List.length_filter_le _ _
  have hr := riseF_filter (q := fun x : ReadG => l.contains x.source) (valid_reads h)
  unfold validB at h ⊢
  simp only [Bool.and_eq_true, lenAll_iff] at h ⊢
  obtain ⟨⟨⟨⟨⟨⟨⟨⟨⟨⟨h1, h2⟩, h3, h4⟩, h5, h6⟩, h7, h8⟩, h9, h10⟩, h11⟩, h12⟩, h13⟩, h14⟩, h15⟩ := h
  exact ⟨⟨⟨⟨⟨⟨⟨⟨⟨⟨h1, h2⟩, h3, h4⟩, Nat.le_trans (hf _) h5, fun r hr => h6 r (List.mem_filter.1 hr).1⟩, h7, h8⟩, h9, h10⟩, h11⟩, h12⟩, h13⟩, hr⟩, h15⟩
theorem place_neg {n : NetG} (h : Valid n) {id : Int} (hi : id ≤ 0) : placeF n id < 0 := by
  rcases Int.lt_or_le (placeF n id) 0 with hl | hl
  · exact hl
  · obtain ⟨_, hq, hid⟩ := idx_spec hl
    have := (h.mains _ (List.getElem_mem hq)).1
    simp only [mainOk, Bool.and_eq_true, within_iff] at this
    omega
theorem flow_shown {n : NetG} {main p k : Int} : shownE n (oneI main) p k = flowE n main p k := by
  unfold shownE flowE
  by_cases hv : validB n = true
  · have hV := valid_of hv
    have h1 : oneI main ≠ 0 := by unfold oneI; split <;> omega
    have h2 : placeF n (oneI main) < 0 ↔ placeF n main < 0 := by
      unfold oneI
      by_cases hm : main = 0
      · rw [if_pos hm]
        exact ⟨fun _ => place_neg hV (by omega), fun _ => place_neg hV (by omega)⟩
      · rw [if_neg hm]
    have hl : ∀ q, askedE n q p k = if q ≠ 0 ∧ placeF n q < 0 then 70 else lookE n p k := fun q => by
      unfold askedE lookE
      rw [if_pos hv, if_pos hv]
    by_cases h3 : placeF n main < 0
    · have hA : askedE n (oneI main) p k = 70 := by rw [hl, if_pos ⟨h1, h2.2 h3⟩]
      rw [hA, if_neg (show ¬ (70 : Int) = 0 by decide), if_pos hv, if_pos h3]
    · have hA : askedE n (oneI main) p k = lookE n p k := by rw [hl, if_neg (fun hc => h3 (h2.1 hc.2))]
      by_cases h4 : lookE n p k = 0
      · rw [hA, if_pos h4, if_pos hv, if_neg h3, if_neg (show ¬ lookE n p k ≠ 0 from fun hc => hc h4)]
        rfl
      · rw [hA, if_neg h4, if_pos hv, if_neg h3, if_pos h4]
  · have : askedE n (oneI main) p k = 74 := if_neg hv
    rw [this, if_neg hv]; rfl
theorem asked_only {n : NetG} {l : List Int} {main p k : Int} (h : validB n = true) : askedE (onlyN n l) main p k = askedE n main p k := by
  unfold askedE
  rw [if_pos h, if_pos (validB_only h)]
  rfl
theorem rF_sub {n : NetG} {b : ReadG → Bool} {p k : Int} : List.Sublist (rF n b p k) (rF n tt p k) := by
  unfold rF
  rw [filter_tt]
  exact List.filter_sublist
theorem asked_validB {n : NetG} {main p k : Int} (h : askedE n main p k = 0) : validB n = true := Classical.byContradiction fun hc => by
  unfold askedE at h
  rw [if_neg hc] at h
  exact absurd h (by decide)
theorem shown_split {n : NetG} {main p k : Int} (h : shownE n main p k = 0) : askedE n main p k = 0 ∧ evenN n tt p k = true := by
  unfold shownE at h
  by_cases h0 : askedE n main p k = 0
  · rw [if_pos h0] at h
    refine ⟨h0, Classical.byContradiction fun hc => ?_⟩
    rw [if_neg hc] at h
    exact absurd h (by decide)
  · rw [if_neg h0] at h; exact absurd h h0
theorem shown_only {n : NetG} {l : List Int} {main p k : Int} (h : shownE n main p k = 0) : shownE (onlyN n l) main p k = 0 := by
  obtain ⟨h0, h1⟩ := shown_split h
  have hV := asked_ok h0
  unfold shownE
  rw [asked_only (asked_validB h0), if_pos h0, if_pos]
  rw [show evenN (onlyN n l) tt p k = evenN n (fun x => l.contains x.source) p k from ev_only]
  exact wid_even (n := n) (m := n) rfl rfl rF_sub hV.m12 h1
theorem flowR_thr {n : NetG} {main p k : Int} (h : shownE n (oneI main) p k = 0) : flowR n main p k = partOf (thrN n tt p k) (idx n main) := by
  obtain ⟨h0, _⟩ := shown_split h
  have hV := asked_ok h0
  obtain ⟨_, hil, _⟩ := idx_spec (asked_main h0)
  have := par_lt hV hil
  unfold flowR
  rw [if_pos h, sprF_at hil, if_pos (by omega)]
theorem mem_dropAt {L : List Int} (hL : ∀ j (h : j < L.length) i (hi : i < j), L[i] < L[j]) {i : Nat} (hi : i < L.length) {x : Int} (hx : x ∈ L) : x ∈ dropAt L i ↔ x ≠ L[i] := by
  obtain ⟨q, hq, rfl⟩ := List.getElem_of_mem hx
  unfold dropAt
  rw [List.mem_append]
  constructor
  · rintro (h | h)
    · obtain ⟨r, hr, e⟩ := List.getElem_of_mem h
      rw [List.length_take] at hr
      rw [List.getElem_take] at e
      have := hL i hi r (by omega)
      omega
    · obtain ⟨r, hr, e⟩ := List.getElem_of_mem h
      rw [List.length_drop] at hr
      rw [List.getElem_drop] at e
      have := hL (i + 1 + r) (by omega) i (by omega)
      omega
  · intro hne
    rcases Nat.lt_trichotomy q i with hl | hl | hl
    · left
      exact List.mem_iff_getElem.2 ⟨q, by rw [List.length_take]; omega, by rw [List.getElem_take]⟩
    · subst hl; exact absurd rfl hne
    · right
      refine List.mem_iff_getElem.2 ⟨q - (i + 1), by rw [List.length_drop]; omega, ?_⟩
      rw [List.getElem_drop]
      congr 1; omega
theorem range_filter {l : List Int} {M : Int → Bool} : ((List.range l.length).filter fun i => M (l.getD i 0)).map (fun i => l.getD i 0) = l.filter M := by
  have e : l = (List.range l.length).map fun i => l.getD i 0 := by
    apply List.ext_getElem (by simp)
    intro i h1 h2
    simp [List.getD, h1]
  conv => rhs; rw [e]
  rw [List.filter_map]
  rfl
theorem moved_list {n : NetG} {main p k : Int} : movedLR n main p k = movedL n main p k := by
  unfold movedLR movedL
  rw [flow_shown]
  by_cases hf : flowE n main p k = 0
  · rw [if_pos hf, if_pos hf]
    have hs : shownE n (oneI main) p k = 0 := by rw [flow_shown]; exact hf
    obtain ⟨h0, _⟩ := shown_split hs
    have hlt := riseF_lt (valid_reads (asked_validB h0))
    have hln : (allSrc n).length = n.readings.length := List.length_map ..
    have hL : ∀ j (h : j < (allSrc n).length) i (hi : i < j), (allSrc n)[i] < (allSrc n)[j] := fun j h i hi => by
      simp only [allSrc, List.getElem_map]
      exact (hlt j (by omega)).2 i hi
    have hA : flowR n main p k = thrA n main p k := flowR_thr hs
    have hmov : ∀ i, i < n.readings.length → movW n main p k i = moves n main p k ((allSrc n).getD i 0) := fun i hi => by
      have hg : (allSrc n).getD i 0 = (allSrc n)[i]'(by omega) := by simp [List.getD, show i < (allSrc n).length by omega]
      have h1 : shownE (without1 n i) (oneI main) p k = 0 := shown_only hs
      have h2 : rF (without1 n i) tt p k = rF n (fun x => decide (x.source ≠ (allSrc n)[i]'(by omega))) p k := by
        unfold without1
        rw [rF_only]
        unfold rF
        refine List.filter_congr fun x hx => ?_
        have hx' := (List.mem_filter.1 hx).1
        have := mem_dropAt hL (i := i) (by omega) (x := x.source) (List.mem_map.2 ⟨x, hx', rfl⟩)
        rw [Bool.eq_iff_iff, decide_eq_true_eq, ← this]
        simp
      have h3 : thrN (without1 n i) tt p k = thrN n (fun x => decide (x.source ≠ (allSrc n)[i]'(by omega))) p k := thrN_congr (n := without1 n i) (m := n) rfl rfl h2
      unfold movW moves
      rw [h1, flowR_thr h1, h3, hA, hg]
      rfl
    have e1 : movedT n main p k n.readings.length = (allSrc n).filter (moves n main p k) := by
      rw [← range_filter, hln]
      unfold movedT
      congr 1
      exact List.filter_congr fun i hi => hmov i (List.mem_range.1 hi)
    rw [e1]
    unfold allSrc countSrc
    rw [List.filter_map, List.filter_map, List.filter_filter]
    congr 1
    refine List.filter_congr fun x hx => ?_
    cases hc : countsR p k x
    · have h4 : rF n (fun y => decide (y.source ≠ x.source)) p k = rF n (fun _ => true) p k := by
        unfold rF
        refine List.filter_congr fun y hy => ?_
        obtain ⟨hy1, hy2⟩ := List.mem_filter.1 hy
        refine decide_eq_true fun e => ?_
        obtain ⟨q, hq, rfl⟩ := List.getElem_of_mem hy1
        obtain ⟨r, hr, rfl⟩ := List.getElem_of_mem hx
        rcases Nat.lt_trichotomy q r with hl | hl | hl
        · have := (hlt r hr).2 q hl; omega
        · subst hl; rw [hc] at hy2; exact Bool.noConfusion hy2
        · have := (hlt q hq).2 r hl; omega
      have h5 : thrN n (fun y => decide (y.source ≠ x.source)) p k = thrN n (fun _ => true) p k := thrN_congr (n := n) (m := n) rfl rfl h4
      simp only [Function.comp, Bool.and_false]
      unfold moves thrS thrA
      rw [h5]
      simp
    · simp [Function.comp]
  · rw [if_neg hf, if_neg hf]
end Go.Proofs.YtpnnmklacialgaaGreat
namespace Go.Proofs.YtpnnmklacialgaaGreat
open Go.Conc
attribute [local irreducible] WP OpF OpX CallW SemH retQ AnyF RoundW

def flowG (n : NetG) (main p k : Int) : RangeG := if flowE n main p k = 0 then thrA n main p k else zR
def usedG (n : NetG) (main p k : Int) : RangeG := if flowE n main p k = 0 then burntR n.mains (usedN n p k) (upsN n (fun _ => true) p k) (thrN n (fun _ => true) p k) (idx n main) else zR
section
variable {n : NetG} (h : Valid n) {by' : ReadG → Bool} {p k : Int}
include h
theorem used_bd15 : ∀ x ∈ usedN n p k, Bd 1000000000000000 x := fun x hx => (usedT_nn h x hx).bd.mono (by omega)
theorem ups_bd15 : ∀ x ∈ upsN n by' p k, Bd 1000000000000000 x := fun x hx => ((upsD_bd h h.m12).1 x hx).bd.mono (by omega)
theorem leak_bd15 : ∀ m ∈ n.mains, Bd 1000000000000000 m.leak := fun m hm => by
  obtain ⟨q, hq, rfl⟩ := List.getElem_of_mem hm
  have := leak_nn h (i := q)
  unfold leakOf at this
  rw [List.getElem?_eq_getElem hq] at this
  exact this.bd.mono (by omega)
theorem thr_bd15 : ∀ x ∈ thrN n by' p k, Bd 1000000000000000 x := fun x hx => (thrN_bd h x hx).mono (by omega)
end
theorem c37 (E : Env) (S : Ents) (n : NetG) (a b c d e : Value) (main p k : Int) (hn : NetV S a b c d e n) :
    CallW Tryz.prog E 37 #[.agg #[a, b, c, d, e], iv main, iv p, iv k] S fun r S' => r = .tuple #[.agg (rangeC (flowG n main p k)), iv (flowE n main p k)] ∧ S' = S := by
  refine call_in (args := [.agg #[a, b, c, d, e], iv main, iv p, iv k]) Tryz.func37 (by decide) rfl rfl ?_
  repeat' first|(refine gX ?_;first|refine o_v rfl rfl ?_|(refine o_splitD rfl rfl rfl ?_ ?_<;>intro h)|(refine o_split rfl rfl rfl ?_ ?_<;>intro h<;>fail_if_success exact Bool.noConfusion h)|(refine gL ?_;first|refine o_load rfl rfl rfl rfl ?_|refine o_loadR rfl rfl rfl (by omega) rfl rfl ?_|refine o_loadW rfl rfl rfl rfl ?_|refine o_loadK rfl rfl rfl ?_)|(refine gF ?_;first|refine o_fieldI rfl rfl rfl rfl ?_|refine o_field rfl rfl rfl rfl ?_)|(refine gB ?_;first|refine o_add rfl rfl rfl rfl (by omega) ?_|refine o_sub rfl rfl rfl rfl (by omega) ?_|refine o_eqNil rfl rfl rfl rfl rfl ?_)|(refine gC ?_;first|(refine o_callZ rfl rfl rfl (c81 _ _ n _ _ _ _ _ _ _ _ (hn.sub Sb.h)) ?_;rintro r _ (⟨hf, rfl, Δ, rfl⟩ | ⟨hf, bt, c', rfl, rfl, hT⟩)<;>(try have hok := flow_ok hf;have hV := hok.1;have hm12 := hV.m12;have hth := thrN_len (n := n) (by' := fun _ => true) (p := p) (k := k);have i2 : RowC c' (0 + 53) RangeG encRange (thrN n (fun _ => true) p k) := ⟨hT.through⟩;obtain ⟨hpe, hil, _⟩ := idx_spec hok.2.1)<;>refine ⟨inferInstance, ?_⟩))|(refine gI ?_;first|refine o_indexAZ (idx n main) rfl rfl rfl rfl rfl hpe (by omega) ?_|refine o_indexS rfl rfl rfl rfl rfl rfl (by omega) ?_|refine o_index rfl rfl rfl rfl rfl (by omega) ?_)|(refine gS ?_;first|refine o_store rfl rfl rfl rfl rfl rfl ?_|refine o_storeW rfl rfl rfl rfl rfl rfl ?_)|(refine o_allocZ rfl rfl ?_;intro _)|(refine o_box rfl rfl rfl ?_;intro _)|refine o_skip rfl rfl ?_|refine o_skipN rfl rfl ?_|refine o_iface rfl rfl rfl ?_|refine o_build rfl rfl rfl rfl rfl ?_|(refine o_bslice rfl rfl rfl rfl rfl rfl rfl ?_;intro _)|(refine o_splitP rfl ?_ ?_<;>intro h<;>fail_if_success exact Bool.noConfusion h))|refine o_head0 rfl ?_|refine o_end ?_|refine o_head1 rfl ?_|(refine w_condD rfl ?_ ?_<;>intro h<;>try first|(exact absurd hf h)|(exact absurd rfl h))|refine wp_seq ?_|refine o_region ?_|refine wp_block ?_|refine wp_skip ?_|refine wp_exit ?_|(refine w_condD rfl ?_ ?_<;>intro h)|(refine w_cond rfl ?_ ?_<;>intro h<;>try exact Bool.noConfusion h)|refine w_ret (S) (vs:=[_,_]) rfl (Res.cell rfl rfl (Res.tmp rfl Res.nil)) ?_
  · exact ⟨by unfold flowG; rw [if_neg hf]; rfl, rfl⟩
  · exact ⟨by unfold flowG thrA; rw [if_pos hf, hf, partOf_get (by omega)]; rfl, rfl⟩
theorem c39 (E : Env) (S : Ents) (n : NetG) (a b c d e : Value) (main p k : Int) (hn : NetV S a b c d e n) :
    CallW Tryz.prog E 39 #[.agg #[a, b, c, d, e], iv main, iv p, iv k] S fun r S' => r = .tuple #[.agg (rangeC (usedG n main p k)), iv (flowE n main p k)] ∧ S' = S := by
  have hsm := hn.mains
  refine call_in (args := [.agg #[a, b, c, d, e], iv main, iv p, iv k]) Tryz.func39 (by decide) rfl rfl ?_
  repeat' first|(refine gX ?_;first|refine o_v rfl rfl ?_|(refine o_splitD rfl rfl rfl ?_ ?_<;>intro h)|(refine o_split rfl rfl rfl ?_ ?_<;>intro h<;>fail_if_success exact Bool.noConfusion h)|(refine gL ?_;first|refine o_load rfl rfl rfl rfl ?_|refine o_loadR rfl rfl rfl (by omega) rfl rfl ?_|refine o_loadW rfl rfl rfl rfl ?_|refine o_loadK rfl rfl rfl ?_)|(refine gF ?_;first|refine o_fieldI rfl rfl rfl rfl ?_|refine o_field rfl rfl rfl rfl ?_)|(refine gB ?_;first|refine o_add rfl rfl rfl rfl (by omega) ?_|refine o_sub rfl rfl rfl rfl (by omega) ?_|refine o_eqNil rfl rfl rfl rfl rfl ?_)|(refine gC ?_;first|(refine o_callZ rfl rfl rfl (c81 _ _ n _ _ _ _ _ _ _ _ (hn.sub Sb.h)) ?_;rintro r _ (⟨hf, rfl, Δ, rfl⟩ | ⟨hf, bt, c', e, rfl, hT⟩)<;>(try have hok := flow_ok hf;have hV := hok.1;have hm12 := hV.m12;have hidx := idx_spec hok.2.1;obtain ⟨hpe, hil, _⟩ := hidx;rw [hpe] at e;subst e)<;>refine ⟨inferInstance, ?_⟩)|refine o_callF rfl rfl rfl (c100 _ _ bt true c' (0, 0) n.mains _ _ _ _ _ (idx n main) InS.h hT (hsm.sub Sb.h) hm12 hil (used_bd15 hV) (ups_bd15 hV) (leak_bd15 hV) (thr_bd15 hV)) ?_)|(refine gI ?_;first|refine o_indexS rfl rfl rfl rfl rfl rfl (by omega) ?_|refine o_index rfl rfl rfl rfl rfl (by omega) ?_)|(refine gS ?_;first|refine o_store rfl rfl rfl rfl rfl rfl ?_|refine o_storeW rfl rfl rfl rfl rfl rfl ?_)|(refine o_allocZ rfl rfl ?_;intro _)|(refine o_box rfl rfl rfl ?_;intro _)|refine o_skip rfl rfl ?_|refine o_skipN rfl rfl ?_|refine o_iface rfl rfl rfl ?_|refine o_build rfl rfl rfl rfl rfl ?_|(refine o_bslice rfl rfl rfl rfl rfl rfl rfl ?_;intro _)|(refine o_splitP rfl ?_ ?_<;>intro h<;>fail_if_success exact Bool.noConfusion h))|refine o_head0 rfl ?_|refine o_end ?_|refine o_head1 rfl ?_|(refine w_condD rfl ?_ ?_<;>intro h<;>try first|(exact absurd hf h)|(exact absurd rfl h))|refine wp_seq ?_|refine o_region ?_|refine wp_block ?_|refine wp_skip ?_|refine wp_exit ?_|(refine w_condD rfl ?_ ?_<;>intro h)|(refine w_cond rfl ?_ ?_<;>intro h<;>try exact Bool.noConfusion h)|refine w_ret (S) (vs:=[_,_]) rfl (Res.cell rfl rfl (Res.tmp rfl Res.nil)) ?_
  · exact ⟨by unfold usedG; rw [if_neg hf]; rfl, rfl⟩
  · exact ⟨by unfold usedG; rw [if_pos hf, hf]; rfl, rfl⟩
def lostT (n : NetG) (p k : Int) : Nat → RangeG
  | 0 => zR
  | j + 1 => sumR [lostT n p k j, leakedR n.mains (usedN n p k) (upsN n (fun _ => true) p k) (thrN n (fun _ => true) p k) j]
def lostE (n : NetG) (p k : Int) : Int := if lookE n p k = 0 then (if evenN n (fun _ => true) p k = true then 0 else 75) else lookE n p k
def lostG (n : NetG) (p k : Int) : RangeG := if lostE n p k = 0 then lostT n p k n.mains.length else zR
section
variable {n : NetG} (h : Valid n) {by' : ReadG → Bool} {p k : Int}
include h
theorem rest_bdG {q : Nat} {but : Int} : Bd 1000000000000 (restR n.mains (usedN n p k) (upsN n by' p k) q but) := by
  have h12 := h.m12
  have h1 := upsD_bd h (by' := by') (p := p) (k := k) (d := n.mains.length) h12
  have h2 := restR_nn h (p := p) (k := k) (P := upsN n by' p k) upsD_len (upsD_nn h).1 (i := q) (but := but)
  have h3 : (sumR (upsN n by' p k)).lo ≤ 900000000000 := h1.2.1
  have h4 : (sumR (upsN n by' p k)).hi ≤ 900000000000 := h1.2.2
  unfold Bd
  omega
theorem leaked_bd {q : Nat} : Bd 14000000000000 (leakedR n.mains (usedN n p k) (upsN n by' p k) (thrN n by' p k) q) := by
  have h1 := (leak_nn h (i := q)).bd
  have h2 := bd_part (i := q) (by omega) (thrN_bd h (by' := by') (p := p) (k := k))
  have h3 := rest_bdG h (by' := by') (p := p) (k := k) (q := q) (but := -2)
  unfold leakedR meetR lessR
  unfold Bd at *
  simp only
  omega
theorem lost_bd : ∀ {j : Nat}, Bd (14000000000000 * j) (lostT n p k j)
  | 0 => by unfold Bd lostT zR; simp
  | j + 1 => by
    have h1 := lost_bd (j := j)
    have h2 := leaked_bd h (by' := fun _ => true) (p := p) (k := k) (q := j)
    unfold Bd at *
    unfold lostT
    simp only [sumR]
    omega
end
theorem c43 (E : Env) (S : Ents) (n : NetG) (a b c d e : Value) (p k : Int) (hn : NetV S a b c d e n) :
    CallW Tryz.prog E 43 #[.agg #[a, b, c, d, e], iv p, iv k] S fun r S' => r = .tuple #[.agg (rangeC (lostG n p k)), iv (lostE n p k)] ∧ S' = S := by
  have hsm := hn.mains
  obtain ⟨qm, cm, rfl, _, hrm⟩ := hn.mains
  refine call_in (args := [.agg #[.slice qm n.mains.length cm, b, c, d, e], iv p, iv k]) Tryz.func43 (by decide) rfl rfl ?_
  by_cases hl : lookE n p k = 0
  · have hV := look_valid hl
    have hm12 := hV.m12
    repeat' first|(refine gX ?_;first|refine o_v rfl rfl ?_|(refine o_splitD rfl rfl rfl ?_ ?_<;>intro h)|(refine o_split rfl rfl rfl ?_ ?_<;>intro h<;>fail_if_success exact Bool.noConfusion h)|(refine gL ?_;first|refine o_load rfl rfl rfl rfl ?_|refine o_loadR rfl rfl rfl (by omega) rfl rfl ?_|refine o_loadW rfl rfl rfl rfl ?_|refine o_loadK rfl rfl rfl ?_)|(refine gF ?_;first|refine o_fieldI rfl rfl rfl rfl ?_|refine o_field rfl rfl rfl rfl ?_)|(refine gB ?_;first|refine o_add rfl rfl rfl rfl (by omega) ?_|refine o_sub rfl rfl rfl rfl (by omega) ?_|refine o_eqNil rfl rfl rfl rfl rfl ?_)|(refine gC ?_;first|refine o_callF rfl rfl rfl (c72 _ _ n _ _ _ _ _ _ _ (hn.sub Sb.h)) ?_|(refine o_callZ rfl rfl rfl (c82 _ _ n _ _ _ _ _ p k 96 #[] #[] (fun x => true) (hn.sub Sb.h) hV (fun E S' x hs => c96 E S' x)) ?_;rintro r _ ⟨bt, c', rfl, rfl, hT⟩;have i3 : CellI c' (0 + 77) (.bool (evenN n (fun x => true) p k)) := ⟨hT.even⟩;refine ⟨inferInstance, ?_⟩))|(refine gI ?_;first|refine o_indexS rfl rfl rfl rfl rfl rfl (by omega) ?_|refine o_index rfl rfl rfl rfl rfl (by omega) ?_)|(refine gS ?_;first|refine o_store rfl rfl rfl rfl rfl rfl ?_|refine o_storeW rfl rfl rfl rfl rfl rfl ?_)|(refine o_allocZ rfl rfl ?_;intro _)|(refine o_box rfl rfl rfl ?_;intro _)|refine o_skip rfl rfl ?_|refine o_skipN rfl rfl ?_|refine o_iface rfl rfl rfl ?_|refine o_build rfl rfl rfl rfl rfl ?_|(refine o_bslice rfl rfl rfl rfl rfl rfl rfl ?_;intro _)|(refine o_splitP rfl ?_ ?_<;>intro h<;>fail_if_success exact Bool.noConfusion h))|refine o_head0 rfl ?_|refine o_end ?_|refine o_head1 rfl ?_|(refine w_condD rfl ?_ ?_<;>intro h<;>try (exact absurd hl h))|refine wp_seq ?_|refine o_region ?_|refine wp_block ?_|refine wp_skip ?_|refine wp_exit ?_|(refine w_condD rfl ?_ ?_<;>intro h)|(refine w_cond rfl ?_ ?_<;>intro h<;>try exact Bool.noConfusion h)|refine w_ret (S) (vs:=[_,_]) rfl (Res.cell rfl rfl (Res.tmp rfl Res.nil)) ?_|(show WP _ _ _ _ (.region 11 _ true) _ _ _ _;refine o_drawn [(0, true), (1, false), (2, false), (3, false), (4, true), (5, true), (6, true)] mixed (by kernel_rfl) ?_)
    · have ee : lostE n p k = 75 := by unfold lostE; rw [if_pos hl, if_neg (by simpa using h)]
      exact ⟨by unfold lostG; rw [if_neg (by rw [ee]; decide), ee]; rfl, rfl⟩
    have hev : evenN n (fun _ => true) p k = true := by simpa using h
    have ee : lostE n p k = 0 := by unfold lostE; rw [if_pos hl, if_pos hev]
    rename_i b3 b6 _ b10
    refine wp_loop (fun i t ds S' => ∃ (j : Nat) (t0 : Tm), i = n.mains.length - j ∧ j ≤ n.mains.length ∧ [] = ds ∧ ⟨b10, true, .cells #[.int .i64 (lostT n p k j).lo, .int .i64 (lostT n p k j).hi] 70 (0, 0)⟩ :: ⟨bt, true, .cells c' 140 (0, 0)⟩ :: ⟨b6, true, .cells #[.int .i64 0, .int .i64 0] 70 (0, 0)⟩ :: ⟨b3, true, .cells #[.slice qm n.mains.length cm, b, c, d, e] 28 (0, 0)⟩ :: S = S' ∧
        t = den [(33, iv j), (32, iv n.mains.length), (9, .pointer (some ⟨bt, 0, none⟩)), (10, .pointer (some ⟨b10, 0, none⟩)), (6, .pointer (some ⟨b6, 0, none⟩)), (3, .pointer (some ⟨b3, 0, none⟩))] t0)
      n.mains.length ⟨0, _, rfl, Nat.zero_le _, rfl, rfl, keep ⟨rfl, rfl, rfl, rfl, rfl, rfl, trivial⟩⟩ ?_
    rintro i t ds S' ⟨j, t0, rfl, hj, rfl, rfl, rfl⟩
    have hlb := (lost_bd hV (p := p) (k := k) (j := j)).mono (M' := 1000000000000000) (by omega)
    repeat' first|(refine gX ?_;first|refine o_v rfl rfl ?_|(refine o_splitD rfl rfl rfl ?_ ?_<;>intro h)|(refine o_split rfl rfl rfl ?_ ?_<;>intro h<;>fail_if_success exact Bool.noConfusion h)|(refine gL ?_;first|refine o_load rfl rfl rfl rfl ?_|refine o_loadR rfl rfl rfl (by omega) rfl rfl ?_|refine o_loadW rfl rfl rfl rfl ?_|refine o_loadK rfl rfl rfl ?_)|(refine gF ?_;first|refine o_fieldI rfl rfl rfl rfl ?_|refine o_field rfl rfl rfl rfl ?_)|(refine gB ?_;first|refine o_add rfl rfl rfl rfl (by omega) ?_|refine o_sub rfl rfl rfl rfl (by omega) ?_|refine o_eqNil rfl rfl rfl rfl rfl ?_)|(refine gC ?_;first|refine o_callF rfl rfl rfl (c101 _ _ bt true c' (0, 0) n.mains _ _ _ _ _ j InS.h hT (hsm.sub Sb.h) hm12 (by omega) (used_bd15 hV) (ups_bd15 hV) (leak_bd15 hV) (thr_bd15 hV)) ?_|refine o_callF rfl rfl rfl (c102 _ _ [lostT n p k j, leakedR n.mains (usedN n p k) (upsN n (fun _ => true) p k) (thrN n (fun _ => true) p k) j] _ (slv_one (xs := [_, _]) (.head _) rfl (Nat.le_refl _)) (by simp) (fun x hx => by rcases List.mem_cons.1 hx with rfl | hx; exact hlb; rw [List.mem_singleton.1 hx]; exact (leaked_bd hV).mono (by omega))) ?_)|(refine gI ?_;first|refine o_indexS rfl rfl rfl rfl rfl rfl (by omega) ?_|refine o_index rfl rfl rfl rfl rfl (by omega) ?_)|(refine gS ?_;first|refine o_store rfl rfl rfl rfl rfl rfl ?_|refine o_storeW rfl rfl rfl rfl rfl rfl ?_)|(refine o_allocZ rfl rfl ?_;intro _)|(refine o_box rfl rfl rfl ?_;intro _)|refine o_skip rfl rfl ?_|refine o_skipN rfl rfl ?_|refine o_iface rfl rfl rfl ?_|refine o_build rfl rfl rfl rfl rfl ?_|(refine o_bslice rfl rfl rfl rfl rfl rfl rfl ?_;intro _)|(refine o_splitP rfl ?_ ?_<;>intro h<;>fail_if_success exact Bool.noConfusion h))|refine o_head0 rfl ?_|refine o_end ?_|refine o_head1 rfl ?_|refine wp_seq ?_|refine o_region ?_|refine wp_block ?_|refine wp_skip ?_|refine wp_exit ?_|(refine w_condD rfl ?_ ?_<;>intro h)|(refine w_cond rfl ?_ ?_<;>intro h<;>try exact Bool.noConfusion h)|refine w_ret (S) (vs:=[_,_]) rfl (Res.cell rfl rfl (Res.tmp rfl Res.nil)) ?_|(show WP _ _ _ _ (.region 11 _ true) _ _ _ _;refine o_drawn [(0, true), (1, false), (2, false), (3, false), (4, true), (5, true), (6, true)] mixed (by kernel_rfl) ?_)
    · exact ⟨n.mains.length - (j + 1), by omega, _, .cons _ (List.Sublist.refl _), j + 1, _, rfl, by omega, rfl, rfl, keep ⟨rfl, rfl, rfl, rfl, rfl, rfl, trivial⟩⟩
    · have hjm : j = n.mains.length := by omega
      subst hjm
      exact ⟨by unfold lostG; rw [if_pos ee, ee]; rfl, rfl⟩
  · have ee : lostE n p k = lookE n p k := if_neg hl
    repeat' first|(refine gX ?_;first|refine o_v rfl rfl ?_|(refine o_splitD rfl rfl rfl ?_ ?_<;>intro h)|(refine o_split rfl rfl rfl ?_ ?_<;>intro h<;>fail_if_success exact Bool.noConfusion h)|(refine gL ?_;first|refine o_load rfl rfl rfl rfl ?_|refine o_loadR rfl rfl rfl (by omega) rfl rfl ?_|refine o_loadW rfl rfl rfl rfl ?_|refine o_loadK rfl rfl rfl ?_)|(refine gF ?_;first|refine o_fieldI rfl rfl rfl rfl ?_|refine o_field rfl rfl rfl rfl ?_)|(refine gB ?_;first|refine o_add rfl rfl rfl rfl (by omega) ?_|refine o_sub rfl rfl rfl rfl (by omega) ?_|refine o_eqNil rfl rfl rfl rfl rfl ?_)|(refine gC ?_;first|refine o_callF rfl rfl rfl (c72 _ _ n _ _ _ _ _ _ _ (hn.sub Sb.h)) ?_)|(refine gI ?_;first|refine o_indexS rfl rfl rfl rfl rfl rfl (by omega) ?_|refine o_index rfl rfl rfl rfl rfl (by omega) ?_)|(refine gS ?_;first|refine o_store rfl rfl rfl rfl rfl rfl ?_|refine o_storeW rfl rfl rfl rfl rfl rfl ?_)|(refine o_allocZ rfl rfl ?_;intro _)|(refine o_box rfl rfl rfl ?_;intro _)|refine o_skip rfl rfl ?_|refine o_skipN rfl rfl ?_|refine o_iface rfl rfl rfl ?_|refine o_build rfl rfl rfl rfl rfl ?_|(refine o_bslice rfl rfl rfl rfl rfl rfl rfl ?_;intro _)|(refine o_splitP rfl ?_ ?_<;>intro h<;>fail_if_success exact Bool.noConfusion h))|refine o_head0 rfl ?_|refine o_end ?_|refine o_head1 rfl ?_|(refine w_condD rfl ?_ ?_<;>intro h<;>try (exact absurd hl h))|refine wp_seq ?_|refine o_region ?_|refine wp_block ?_|refine wp_skip ?_|refine wp_exit ?_|(refine w_condD rfl ?_ ?_<;>intro h)|(refine w_cond rfl ?_ ?_<;>intro h<;>try exact Bool.noConfusion h)|refine w_ret (S) (vs:=[_,_]) rfl (Res.cell rfl rfl (Res.tmp rfl Res.nil)) ?_|(show WP _ _ _ _ (.region 11 _ true) _ _ _ _;refine o_drawn [(0, true), (1, false), (2, false), (3, false), (4, true), (5, true), (6, true)] mixed (by kernel_rfl) ?_)
    exact ⟨by unfold lostG; rw [if_neg (by rw [ee]; exact hl), ee]; rfl, rfl⟩
end Go.Proofs.YtpnnmklacialgaaGreat
namespace Go.Proofs.YtpnnmklacialgaaGreat
open Go.Conc
attribute [local irreducible] WP OpF OpX CallW SemH retQ AnyF RoundW

def priceT (l : List PriceG) (p : Int) : Nat → PriceG
  | 0 => ⟨0, 0, 0⟩
  | j + 1 => match l[j]? with
    | some x => if x.since ≤ p then x else priceT l p j
    | none => priceT l p j
theorem priceT_succ {l : List PriceG} {p : Int} {j : Nat} (h : j < l.length) : priceT l p (j + 1) = if l[j].since ≤ p then l[j] else priceT l p j := by
  show (match l[j]? with | some x => if x.since ≤ p then x else priceT l p j | none => priceT l p j) = _
  rw [List.getElem?_eq_getElem h]
def priceN (n : NetG) (p : Int) : PriceG := priceT n.prices p n.prices.length
theorem c153 (E : Env) (S : Ents) (n : NetG) (a b c d e : Value) (p : Int) (hn : NetV S a b c d e n) :
    CallW Tryz.prog E 153 #[.agg #[a, b, c, d, e], iv p] S fun r S' => r = .agg (priceC (priceN n p)) ∧ S' = S := by
  obtain ⟨qp, cp, rfl, _, hrp⟩ := hn.prices
  have i1 := SlI.mk hrp
  have hm := hn.prices_le
  refine call_in (args := [.agg #[a, b, c, d, .slice qp n.prices.length cp], iv p]) Tryz.func153 (by decide) rfl rfl ?_
  repeat' first|(refine gX ?_;first|refine o_v rfl rfl ?_|(refine o_splitD rfl rfl rfl ?_ ?_<;>intro h)|(refine o_split rfl rfl rfl ?_ ?_<;>intro h<;>fail_if_success exact Bool.noConfusion h)|(refine gL ?_;first|refine o_load rfl rfl rfl rfl ?_|refine o_loadR rfl rfl rfl (by omega) rfl rfl ?_|refine o_loadW rfl rfl rfl rfl ?_|refine o_loadK rfl rfl rfl ?_)|(refine gF ?_;first|refine o_fieldI rfl rfl rfl rfl ?_|refine o_field rfl rfl rfl rfl ?_)|(refine gB ?_;first|refine o_add rfl rfl rfl rfl (by omega) ?_|refine o_sub rfl rfl rfl rfl (by omega) ?_|refine o_eqNil rfl rfl rfl rfl rfl ?_)|(refine gI ?_;first|refine o_indexS rfl rfl rfl rfl rfl rfl (by omega) ?_|refine o_index rfl rfl rfl rfl rfl (by omega) ?_)|(refine gS ?_;first|refine o_store rfl rfl rfl rfl rfl rfl ?_|refine o_storeW rfl rfl rfl rfl rfl rfl ?_)|(refine o_allocZ rfl rfl ?_;intro _)|(refine o_box rfl rfl rfl ?_;intro _)|refine o_skip rfl rfl ?_|refine o_skipN rfl rfl ?_|refine o_iface rfl rfl rfl ?_|refine o_build rfl rfl rfl rfl rfl ?_|(refine o_bslice rfl rfl rfl rfl rfl rfl rfl ?_;intro _)|(refine o_splitP rfl ?_ ?_<;>intro h<;>fail_if_success exact Bool.noConfusion h))|refine o_head0 rfl ?_|refine o_end ?_|refine o_head1 rfl ?_|refine wp_seq ?_|refine o_region ?_|refine wp_block ?_|refine wp_skip ?_|refine wp_exit ?_|(refine w_condD rfl ?_ ?_<;>intro h)|(refine w_cond rfl ?_ ?_<;>intro h<;>try exact Bool.noConfusion h)|refine w_ret (S) (vs:=[_]) rfl (Res.cell rfl rfl Res.nil) ?_
  rename_i b2 b4 b5
  refine wp_loop (fun i t ds S' => ∃ (j : Nat) (t0 : Tm), i = n.prices.length - j ∧ j ≤ n.prices.length ∧ [] = ds ∧ ⟨b5, true, .cells #[.int .i64 (priceT n.prices p j).since, .int .i64 (priceT n.prices p j).feet, .int .i64 (priceT n.prices p j).fault] 104 (0, 0)⟩ :: ⟨b4, true, .cells #[.int .i64 0, .int .i64 0, .int .i64 0] 104 (0, 0)⟩ :: ⟨b2, true, .cells #[a, b, c, d, .slice qp n.prices.length cp] 28 (0, 0)⟩ :: S = S' ∧
      t = den [(11, iv j), (10, iv n.prices.length), (9, .slice qp n.prices.length cp), (5, .pointer (some ⟨b5, 0, none⟩)), (4, .pointer (some ⟨b4, 0, none⟩)), (1, iv p)] t0)
    n.prices.length ⟨0, _, rfl, Nat.zero_le _, rfl, rfl, keep ⟨rfl, rfl, rfl, rfl, rfl, rfl, trivial⟩⟩ ?_
  rintro i t ds S' ⟨j, t0, rfl, hj, rfl, rfl, rfl⟩
  by_cases hjl : j < n.prices.length
  · have hst := priceT_succ (p := p) hjl
    generalize priceT n.prices p j = x at hst ⊢
    repeat' first|(refine gX ?_;first|refine o_v rfl rfl ?_|(refine o_splitD rfl rfl rfl ?_ ?_<;>intro h)|(refine o_split rfl rfl rfl ?_ ?_<;>intro h<;>fail_if_success exact Bool.noConfusion h)|(refine gL ?_;first|refine o_load rfl rfl rfl rfl ?_|refine o_loadR rfl rfl rfl (by omega) rfl rfl ?_|refine o_loadW rfl rfl rfl rfl ?_|refine o_loadK rfl rfl rfl ?_)|(refine gF ?_;first|refine o_fieldI rfl rfl rfl rfl ?_|refine o_field rfl rfl rfl rfl ?_)|(refine gB ?_;first|refine o_add rfl rfl rfl rfl (by omega) ?_|refine o_sub rfl rfl rfl rfl (by omega) ?_|refine o_eqNil rfl rfl rfl rfl rfl ?_)|(refine gI ?_;first|refine o_indexS rfl rfl rfl rfl rfl rfl (by omega) ?_|refine o_index rfl rfl rfl rfl rfl (by omega) ?_)|(refine gS ?_;first|refine o_store rfl rfl rfl rfl rfl rfl ?_|refine o_storeW rfl rfl rfl rfl rfl rfl ?_)|(refine o_allocZ rfl rfl ?_;intro _)|(refine o_box rfl rfl rfl ?_;intro _)|refine o_skip rfl rfl ?_|refine o_skipN rfl rfl ?_|refine o_iface rfl rfl rfl ?_|refine o_build rfl rfl rfl rfl rfl ?_|(refine o_bslice rfl rfl rfl rfl rfl rfl rfl ?_;intro _)|(refine o_splitP rfl ?_ ?_<;>intro h<;>fail_if_success exact Bool.noConfusion h))|refine o_head0 rfl ?_|refine o_end ?_|refine o_head1 rfl ?_|(refine w_condD rfl ?_ ?_<;>intro h<;>try (exact absurd (by omega) h))|refine wp_seq ?_|refine o_region ?_|refine wp_block ?_|refine wp_skip ?_|refine wp_exit ?_|(refine w_condD rfl ?_ ?_<;>intro h)|(refine w_cond rfl ?_ ?_<;>intro h<;>try exact Bool.noConfusion h)|refine w_ret (S) (vs:=[_]) rfl (Res.cell rfl rfl Res.nil) ?_
    all_goals refine ⟨n.prices.length - (j + 1), by omega, _, .cons _ (List.Sublist.refl _), j + 1, _, rfl, by omega, rfl, ?_, keep ⟨rfl, rfl, rfl, rfl, rfl, rfl, trivial⟩⟩
    · rw [hst, if_pos h]
    · rw [hst, if_neg h]
  · have hjm : j = n.prices.length := by omega
    subst hjm
    repeat' first|(refine gX ?_;first|refine o_v rfl rfl ?_|(refine o_splitD rfl rfl rfl ?_ ?_<;>intro h)|(refine o_split rfl rfl rfl ?_ ?_<;>intro h<;>fail_if_success exact Bool.noConfusion h)|(refine gL ?_;first|refine o_load rfl rfl rfl rfl ?_|refine o_loadR rfl rfl rfl (by omega) rfl rfl ?_|refine o_loadW rfl rfl rfl rfl ?_|refine o_loadK rfl rfl rfl ?_)|(refine gF ?_;first|refine o_fieldI rfl rfl rfl rfl ?_|refine o_field rfl rfl rfl rfl ?_)|(refine gB ?_;first|refine o_add rfl rfl rfl rfl (by omega) ?_|refine o_sub rfl rfl rfl rfl (by omega) ?_|refine o_eqNil rfl rfl rfl rfl rfl ?_)|(refine gI ?_;first|refine o_indexS rfl rfl rfl rfl rfl rfl (by omega) ?_|refine o_index rfl rfl rfl rfl rfl (by omega) ?_)|(refine gS ?_;first|refine o_store rfl rfl rfl rfl rfl rfl ?_|refine o_storeW rfl rfl rfl rfl rfl rfl ?_)|(refine o_allocZ rfl rfl ?_;intro _)|(refine o_box rfl rfl rfl ?_;intro _)|refine o_skip rfl rfl ?_|refine o_skipN rfl rfl ?_|refine o_iface rfl rfl rfl ?_|refine o_build rfl rfl rfl rfl rfl ?_|(refine o_bslice rfl rfl rfl rfl rfl rfl rfl ?_;intro _)|(refine o_splitP rfl ?_ ?_<;>intro h<;>fail_if_success exact Bool.noConfusion h))|refine o_head0 rfl ?_|refine o_end ?_|refine o_head1 rfl ?_|(refine w_condD rfl ?_ ?_<;>intro h<;>try (exact absurd h (by omega)))|refine wp_seq ?_|refine o_region ?_|refine wp_block ?_|refine wp_skip ?_|refine wp_exit ?_|(refine w_condD rfl ?_ ?_<;>intro h)|(refine w_cond rfl ?_ ?_<;>intro h<;>try exact Bool.noConfusion h)|refine w_ret (S) (vs:=[_]) rfl (Res.cell rfl rfl Res.nil) ?_
    exact ⟨rfl, rfl⟩
end Go.Proofs.YtpnnmklacialgaaGreat
namespace Go.Proofs.YtpnnmklacialgaaGreat
open Go.Conc
attribute [local irreducible] WP OpF OpX CallW SemH retQ AnyF RoundW

def burnI (n : NetG) (p k : Int) (q : Nat) : RangeG := burntR n.mains (usedN n p k) (upsN n (fun _ => true) p k) (thrN n (fun _ => true) p k) q
def gasI (n : NetG) (p k : Int) (q : Nat) : Int := if evenN n (fun _ => true) p k = true then ((burnI n p k q).lo * (priceN n p).feet) / 100 else 0
def penT (n : NetG) (p k : Int) : Nat → Nat → Int
  | 0, _ => 0
  | j + 1, q => penT n p k j q + (match n.faults[j]? with | some x => if countsF p k x = true ∧ idx n x.main = q then x.many * (priceN n p).fault else 0 | none => 0)
def bill1 (n : NetG) (p k : Int) (j : Nat) : List BillG := (List.range n.mains.length).map fun q => ⟨if q < j then gasI n p k q else 0, 0⟩
def bill2 (n : NetG) (p k : Int) (j : Nat) : List BillG := (List.range n.mains.length).map fun q => ⟨gasI n p k q, penT n p k j q⟩
def billsN (n : NetG) (p k : Int) : List BillG := bill2 n p k n.faults.length
theorem price_ok {n : NetG} (h : Valid n) {p : Int} : 0 ≤ (priceN n p).feet ∧ (priceN n p).feet ≤ 10000 ∧ 0 ≤ (priceN n p).fault ∧ (priceN n p).fault ≤ 10000 := by
  have hp : ∀ j, 0 ≤ (priceT n.prices p j).feet ∧ (priceT n.prices p j).feet ≤ 10000 ∧ 0 ≤ (priceT n.prices p j).fault ∧ (priceT n.prices p j).fault ≤ 10000 := fun j => by
    induction j with
    | zero => simp [priceT]
    | succ j ih =>
      by_cases hj : j < n.prices.length
      · rw [priceT_succ hj]
        split
        · have := h.prices _ (List.getElem_mem hj)
          simp only [priceOk, Bool.and_eq_true, within_iff] at this
          omega
        · exact ih
      · have : n.prices[j]? = none := List.getElem?_eq_none (by omega)
        have e : priceT n.prices p (j + 1) = priceT n.prices p j := by
          show (match n.prices[j]? with | some x => if x.since ≤ p then x else priceT n.prices p j | none => priceT n.prices p j) = _
          rw [this]
        rw [e]
        exact ih
  exact hp _
theorem burn_bd {n : NetG} (h : Valid n) {p k : Int} {q : Nat} : Bd 15000000000000 (burnI n p k q) := by
  have h1 : Bd 1000000000000 (partOf (usedN n p k) q) := bd_part (by omega) fun x hx => (usedT_nn h x hx).bd.mono (by omega)
  have h2 := bd_part (i := q) (by omega) (thrN_bd h (by' := fun _ => true) (p := p) (k := k))
  have h3 := rest_bdG h (by' := fun _ => true) (p := p) (k := k) (q := q) (but := -1)
  unfold burnI burntR meetR lessR
  unfold Bd at *
  simp only
  omega
theorem gas_bd {n : NetG} (h : Valid n) {p k : Int} {q : Nat} : 0 ≤ (burnI n p k q).lo * (priceN n p).feet ∧ (burnI n p k q).lo * (priceN n p).feet ≤ 150000000000000000 := by
  have h1 := burn_bd h (p := p) (k := k) (q := q)
  have h2 := price_ok h (p := p)
  have h3 := nn_part (i := q) (by omega) (fun x hx => usedT_nn h (p := p) (k := k) (j := n.uses.length) x hx)
  have h4 : 0 ≤ (burnI n p k q).lo := by
    unfold burnI burntR meetR
    unfold Nn at h3
    simp only
    change 0 ≤ (partOf (usedN n p k) q).lo ∧ _ at h3
    omega
  refine ⟨Int.mul_nonneg h4 h2.1, ?_⟩
  have h5 : (burnI n p k q).lo * (priceN n p).feet ≤ 15000000000000 * (priceN n p).feet := Int.mul_le_mul_of_nonneg_right h1.2.1 h2.1
  omega
theorem bill_map {f : Nat → BillG} {m q : Nat} (hq : q < ((List.range m).map f).length) : ((List.range m).map f)[q] = f q := by simp
theorem bill1_len {n : NetG} {p k : Int} {j : Nat} : (bill1 n p k j).length = n.mains.length := by simp [bill1]
theorem bill1_zero {n : NetG} {p k : Int} : bill1 n p k 0 = List.replicate n.mains.length ⟨0, 0⟩ := by
  unfold bill1
  apply List.ext_getElem (by simp)
  intro i h1 h2
  simp
theorem bill1_at {n : NetG} {p k : Int} {j q : Nat} (h : q < (bill1 n p k j).length) : (bill1 n p k j)[q] = ⟨if q < j then gasI n p k q else 0, 0⟩ := bill_map h
theorem bill1_succ {n : NetG} {p k : Int} {j : Nat} : (bill1 n p k j).set j ⟨gasI n p k j, 0⟩ = bill1 n p k (j + 1) := by
  apply List.ext_getElem (by rw [List.length_set, bill1_len, bill1_len])
  intro q h1 h2
  rw [List.getElem_set]
  split
  · rename_i e; subst e; rw [bill1_at, if_pos (by omega)]
  · rename_i e
    rw [bill1_at, bill1_at]
    by_cases hl : q < j
    · rw [if_pos hl, if_pos (by omega)]
    · rw [if_neg hl, if_neg (by omega)]
theorem bill1_none {n : NetG} {p k : Int} {j : Nat} (h : gasI n p k j = 0) : bill1 n p k j = bill1 n p k (j + 1) := by
  apply List.ext_getElem (by rw [bill1_len, bill1_len])
  intro q h1 h2
  rw [bill1_at, bill1_at]
  by_cases hl : q < j
  · rw [if_pos hl, if_pos (by omega)]
  · by_cases e : q = j
    · subst e; rw [if_neg (by omega), if_pos (by omega), h]
    · rw [if_neg hl, if_neg (by omega)]
theorem bill2_len {n : NetG} {p k : Int} {j : Nat} : (bill2 n p k j).length = n.mains.length := by simp [bill2]
theorem bill2_at {n : NetG} {p k : Int} {j q : Nat} (h : q < (bill2 n p k j).length) : (bill2 n p k j)[q] = ⟨gasI n p k q, penT n p k j q⟩ := bill_map h
theorem penT_succ {n : NetG} {p k : Int} {j q : Nat} (h : j < n.faults.length) : penT n p k (j + 1) q = penT n p k j q + if countsF p k n.faults[j] = true ∧ idx n n.faults[j].main = q then n.faults[j].many * (priceN n p).fault else 0 := by
  show penT n p k j q + (match n.faults[j]? with | some x => if countsF p k x = true ∧ idx n x.main = q then x.many * (priceN n p).fault else 0 | none => 0) = _
  rw [List.getElem?_eq_getElem h]
theorem bill2_skip {n : NetG} {p k : Int} {j : Nat} (h : j < n.faults.length) (hc : countsF p k n.faults[j] = false) : bill2 n p k (j + 1) = bill2 n p k j := by
  unfold bill2
  refine List.map_congr_left fun q _ => ?_
  rw [penT_succ h, if_neg (by rw [hc]; exact fun hx => Bool.noConfusion hx.1), Int.add_zero]
theorem bill2_succ {n : NetG} {p k : Int} {j : Nat} (h : j < n.faults.length) (hc : countsF p k n.faults[j] = true) : (bill2 n p k j).set (idx n n.faults[j].main) ⟨gasI n p k (idx n n.faults[j].main), penT n p k j (idx n n.faults[j].main) + n.faults[j].many * (priceN n p).fault⟩ = bill2 n p k (j + 1) := by
  apply List.ext_getElem (by rw [List.length_set, bill2_len, bill2_len])
  intro q h1 h2
  rw [List.getElem_set, bill2_at h2, penT_succ h]
  split
  · rename_i e; subst e; rw [if_pos ⟨hc, rfl⟩]
  · rename_i e
    rw [bill2_at, if_neg (fun hx => e hx.2), Int.add_zero]
theorem many_bd {n : NetG} (h : Valid n) {p : Int} {j : Nat} (hj : j < n.faults.length) : 0 ≤ n.faults[j].many * (priceN n p).fault ∧ n.faults[j].many * (priceN n p).fault ≤ 1000000 := by
  have h1 := (h.faults _ (List.getElem_mem hj)).1
  simp only [faultOk, Bool.and_eq_true, within_iff] at h1
  have h2 := price_ok h (p := p)
  refine ⟨Int.mul_nonneg (by omega) (by omega), ?_⟩
  have h3 : n.faults[j].many * (priceN n p).fault ≤ 100 * (priceN n p).fault := Int.mul_le_mul_of_nonneg_right (by omega) (by omega)
  omega
theorem pen_bd {n : NetG} (h : Valid n) {p k : Int} {q : Nat} : ∀ {j : Nat}, j ≤ n.faults.length → 0 ≤ penT n p k j q ∧ penT n p k j q ≤ 1000000 * j
  | 0, _ => by simp [penT]
  | j + 1, hj => by
    have ih := pen_bd h (p := p) (k := k) (q := q) (j := j) (by omega)
    have hm := many_bd h (p := p) (show j < n.faults.length by omega)
    rw [penT_succ (by omega)]
    split <;> omega
theorem c88 (E : Env) (S : Ents) (n : NetG) (a b c d e : Value) (p k : Int) (hn : NetV S a b c d e n) (hV : Valid n) :
    CallW Tryz.prog E 88 #[.agg #[a, b, c, d, e], iv p, iv k] S fun r S' => ∃ Δ, Own r (billsN n p k) Δ ∧ S' = Δ ++ S := by
  have hsm := hn.mains
  obtain ⟨qm, cm, rfl, _, hrm⟩ := hn.mains
  have hm12 := hV.m12
  have hf60 := hV.f60
  refine call_inM (args := [.agg #[.slice qm n.mains.length cm, b, c, d, e], iv p, iv k]) Tryz.func88 (by decide) rfl rfl ?_
  repeat' first|(refine gX ?_;first|refine o_v rfl rfl ?_|(refine o_splitD rfl rfl rfl ?_ ?_<;>intro h)|(refine o_split rfl rfl rfl ?_ ?_<;>intro h<;>fail_if_success exact Bool.noConfusion h)|(refine gL ?_;first|refine o_load rfl rfl rfl rfl ?_|refine o_loadR rfl rfl rfl (by omega) rfl rfl ?_|refine o_loadW rfl rfl rfl rfl ?_|refine o_loadK rfl rfl rfl ?_)|(refine gF ?_;first|refine o_fieldI rfl rfl rfl rfl ?_|refine o_field rfl rfl rfl rfl ?_)|(refine gB ?_;first|refine o_add rfl rfl rfl rfl (by omega) ?_|refine o_sub rfl rfl rfl rfl (by omega) ?_|refine o_eqNil rfl rfl rfl rfl rfl ?_)|(refine gC ?_;first|refine o_callF rfl rfl rfl (c153 _ _ n _ _ _ _ _ p (hn.sub Sb.h)) ?_|(refine o_callZ rfl rfl rfl (c82 _ _ n _ _ _ _ _ p k 96 #[] #[] (fun x => true) (hn.sub Sb.h) hV (fun E S' x hs => c96 E S' x)) ?_;rintro r _ ⟨bt, c', rfl, rfl, hT⟩;have i3 : CellI c' (0 + 77) (.bool (evenN n (fun x => true) p k)) := ⟨hT.even⟩;refine ⟨inferInstance, ?_⟩))|(refine gI ?_;first|refine o_indexS rfl rfl rfl rfl rfl rfl (by omega) ?_|refine o_index rfl rfl rfl rfl rfl (by omega) ?_)|(refine gS ?_;first|refine o_store rfl rfl rfl rfl rfl rfl ?_|refine o_storeW rfl rfl rfl rfl rfl rfl ?_)|(refine o_make (⟨0, 0⟩ : BillG) n.mains.length rfl rfl rfl rfl rfl rfl rfl (by omega) ?_;intro v Δ ho;obtain ⟨wa, wc, rfl, _, _⟩ := ho.slv)|(refine o_allocZ rfl rfl ?_;intro _)|(refine o_box rfl rfl rfl ?_;intro _)|refine o_skip rfl rfl ?_|refine o_skipN rfl rfl ?_|refine o_iface rfl rfl rfl ?_|refine o_build rfl rfl rfl rfl rfl ?_|(refine o_bslice rfl rfl rfl rfl rfl rfl rfl ?_;intro _)|(refine o_splitP rfl ?_ ?_<;>intro h<;>fail_if_success exact Bool.noConfusion h))|refine o_head0 rfl ?_|refine o_end ?_|refine o_head1 rfl ?_|refine wp_seq ?_|refine o_region ?_|refine wp_block ?_|refine wp_skip ?_|refine wp_exit ?_|(refine w_condD rfl ?_ ?_<;>intro h)|(refine w_cond rfl ?_ ?_<;>intro h<;>try exact Bool.noConfusion h)|refine w_ret (S) (vs:=[_]) rfl (Res.tmp rfl Res.nil) ?_|(show WP _ _ _ _ (.region 8 _ true) _ _ _ _;refine o_drawn [(0, true), (1, true), (2, false), (3, false), (6, true), (7, true), (4, false), (5, false), (8, false), (9, false), (10, false), (11, false), (12, true)] mixed (by kernel_rfl) ?_)|(show WP _ _ _ _ (.region 12 _ true) _ _ _ _;refine o_drawn [(0, true), (1, false), (2, false), (3, false), (8, true), (9, true), (10, true), (11, true), (12, true), (4, false), (5, false), (6, false), (7, false), (13, false), (14, false), (15, false), (16, true)] mixed (by kernel_rfl) ?_)
  rename_i b3 _ _ b7 b8
  have e0 : (List.replicate n.mains.length (⟨0, 0⟩ : BillG)).length = n.mains.length := List.length_replicate ..
  refine WP.perm ?_ (FrS.h (Δ := Δ))
  refine wp_loop (fun i t ds S' => ∃ (j : Nat) (t0 : Tm) (Δ : Ents), i = n.mains.length - j ∧ j ≤ n.mains.length ∧ dsOf [] = ds ∧ Δ ++ ⟨bt, true, .cells c' 140 (0, 0)⟩ :: ⟨b8, true, .cells #[.int .i64 (priceN n p).since, .int .i64 (priceN n p).feet, .int .i64 (priceN n p).fault] 104 (0, 0)⟩ :: ⟨b7, true, .cells #[.slice wa n.mains.length wc] 144 (0, 0)⟩ :: ⟨b3, true, .cells #[.slice qm n.mains.length cm, b, c, d, e] 28 (0, 0)⟩ :: (mks [] ++ S) = S' ∧
      t = den [(25, iv j), (24, iv n.mains.length), (9, .pointer (some ⟨bt, 0, none⟩)), (8, .pointer (some ⟨b8, 0, none⟩)), (7, .pointer (some ⟨b7, 0, none⟩)), (3, .pointer (some ⟨b3, 0, none⟩)), (1, iv p), (2, iv k)] t0 ∧ Own (.slice wa n.mains.length wc) (bill1 n p k j) Δ)
    n.mains.length ⟨0, _, Δ, rfl, Nat.zero_le _, rfl, by simp only [e0]; rfl, keep ⟨rfl, congrArg (fun q : Nat => some (iv (q : Int))) e0, rfl, rfl, rfl, rfl, rfl, rfl, trivial⟩, by rw [bill1_zero]; simpa only [e0] using ho⟩ ?_
  clear ho
  rintro i t ds S' ⟨j, t0, Δ, rfl, hj, rfl, rfl, rfl, ho⟩
  have hbl := bill1_len (n := n) (p := p) (k := k) (j := j)
  have hgb := gas_bd hV (p := p) (k := k) (q := j)
  obtain ⟨_, hrt⟩ := ho.sla
  have i6 := SlI.mk hrt
  repeat' first|(refine gX ?_;first|refine o_v rfl rfl ?_|(refine o_splitD rfl rfl rfl ?_ ?_<;>intro h)|(refine o_split rfl rfl rfl ?_ ?_<;>intro h<;>fail_if_success exact Bool.noConfusion h)|(refine gL ?_;first|refine o_load rfl rfl rfl rfl ?_|refine o_loadR rfl rfl rfl (by omega) rfl rfl ?_|refine o_loadW rfl rfl rfl rfl ?_|refine o_loadK rfl rfl rfl ?_)|(refine gF ?_;first|refine o_fieldI rfl rfl rfl rfl ?_|refine o_field rfl rfl rfl rfl ?_)|(refine gB ?_;first|refine o_mul rfl rfl rfl rfl (by change -9223372036854775808 ≤ (burnI n p k j).lo * (priceN n p).feet ∧ (burnI n p k j).lo * (priceN n p).feet ≤ 9223372036854775807; omega) ?_|refine o_quoN rfl rfl rfl rfl (by decide) (by change 0 ≤ (burnI n p k j).lo * (priceN n p).feet ∧ (burnI n p k j).lo * (priceN n p).feet ≤ 9223372036854775807; omega) ?_|refine o_add rfl rfl rfl rfl (by omega) ?_|refine o_sub rfl rfl rfl rfl (by omega) ?_|refine o_eqNil rfl rfl rfl rfl rfl ?_)|(refine gC ?_;first|refine o_callF rfl rfl rfl (c100 _ _ bt true c' (0, 0) n.mains _ _ _ _ _ j InS.h hT (hsm.sub Sb.h) hm12 (by omega) (used_bd15 hV) (ups_bd15 hV) (leak_bd15 hV) (thr_bd15 hV)) ?_)|(refine gI ?_;first|refine o_indexS rfl rfl rfl rfl rfl hbl.symm (by omega) ?_|refine o_indexS rfl rfl rfl rfl rfl rfl (by omega) ?_|refine o_index rfl rfl rfl rfl rfl (by omega) ?_)|(refine gS ?_;first|(refine o_storeO (⟨(burnI n p k j).lo * (priceN n p).feet / 100, ((bill1 n p k j)[j]'(by first|done|omega)).penalty⟩ : BillG) rfl rfl rfl ho (by omega) rfl rfl rfl rfl ?_;intro Δ2 ho2;refine ⟨_, inferInstance, ?_⟩)|refine o_store rfl rfl rfl rfl rfl rfl ?_|refine o_storeW rfl rfl rfl rfl rfl rfl ?_)|(refine o_allocZ rfl rfl ?_;intro _)|(refine o_box rfl rfl rfl ?_;intro _)|refine o_skip rfl rfl ?_|refine o_skipN rfl rfl ?_|refine o_iface rfl rfl rfl ?_|refine o_build rfl rfl rfl rfl rfl ?_|(refine o_bslice rfl rfl rfl rfl rfl rfl rfl ?_;intro _)|(refine o_splitP rfl ?_ ?_<;>intro h<;>fail_if_success exact Bool.noConfusion h))|refine o_head0 rfl ?_|refine o_end ?_|refine o_head1 rfl ?_|(show WP _ _ _ _ (.seq (.seq (.region 10 _ _) _) _) _ _ _ _;refine wp_cut (fun t ds S' => ∃ (t0 : Tm) (r : Nat) (Δ : Ents), dsOf [r] = ds ∧ Δ ++ markE r :: ⟨b7, true, .cells #[.slice wa n.mains.length wc] 144 (0, 0)⟩ :: S = S' ∧ t = den [(7, .pointer (some ⟨b7, 0, none⟩))] t0 ∧ Own (.slice wa n.mains.length wc) (billsN n p k) Δ) ?_ ?_)|refine wp_seq ?_|refine o_region ?_|refine wp_block ?_|refine wp_skip ?_|refine wp_exit ?_|(refine w_condD rfl ?_ ?_<;>intro h)|(refine w_cond rfl ?_ ?_<;>intro h<;>try exact Bool.noConfusion h)|refine w_ret (S) (vs:=[_]) rfl (Res.tmp rfl Res.nil) ?_|(show WP _ _ _ _ (.region 8 _ true) _ _ _ _;refine o_drawn [(0, true), (1, true), (2, false), (3, false), (6, true), (7, true), (4, false), (5, false), (8, false), (9, false), (10, false), (11, false), (12, true)] mixed (by kernel_rfl) ?_)|(show WP _ _ _ _ (.region 12 _ true) _ _ _ _;refine o_drawn [(0, true), (1, false), (2, false), (3, false), (8, true), (9, true), (10, true), (11, true), (12, true), (4, false), (5, false), (6, false), (7, false), (13, false), (14, false), (15, false), (16, true)] mixed (by kernel_rfl) ?_)
  · refine ⟨n.mains.length - (j + 1), by omega, _, List.Sublist.refl _, j + 1, _, Δ2, rfl, by omega, rfl, rfl, keep ⟨rfl, rfl, rfl, rfl, rfl, rfl, rfl, rfl, trivial⟩, ?_⟩
    have hg : gasI n p k j = (burnI n p k j).lo * (priceN n p).feet / 100 := if_pos h
    rw [← bill1_succ, hg]
    rw [show ((bill1 n p k j)[j]'(by omega)).penalty = 0 by rw [bill1_at]] at ho2
    exact ho2
  · refine ⟨n.mains.length - (j + 1), by omega, _, List.Sublist.refl _, j + 1, _, Δ, rfl, by omega, rfl, rfl, keep ⟨rfl, rfl, rfl, rfl, rfl, rfl, rfl, rfl, trivial⟩, ?_⟩
    rw [← bill1_none (if_neg (by rw [h]; decide))]
    exact ho
  · have hjm : j = n.mains.length := by omega
    subst hjm
    have hb0 : bill1 n p k n.mains.length = bill2 n p k 0 := by
      unfold bill1 bill2
      refine List.map_congr_left fun q hq => ?_
      rw [if_pos (List.mem_range.1 hq)]
      rfl
    rw [hb0] at ho
    clear i6 hrt hbl
    repeat' first|(refine gX ?_;first|refine o_v rfl rfl ?_|(refine o_splitD rfl rfl rfl ?_ ?_<;>intro h)|(refine o_split rfl rfl rfl ?_ ?_<;>intro h<;>fail_if_success exact Bool.noConfusion h)|(refine gL ?_;first|refine o_load rfl rfl rfl rfl ?_|refine o_loadR rfl rfl rfl (by omega) rfl rfl ?_|refine o_loadW rfl rfl rfl rfl ?_|refine o_loadK rfl rfl rfl ?_)|(refine gF ?_;first|refine o_fieldI rfl rfl rfl rfl ?_|refine o_field rfl rfl rfl rfl ?_)|(refine gB ?_;first|refine o_add rfl rfl rfl rfl (by omega) ?_|refine o_sub rfl rfl rfl rfl (by omega) ?_|refine o_eqNil rfl rfl rfl rfl rfl ?_)|(refine gC ?_;first|(refine o_callZ (R:=fun r S' => ∃ Δ, Own r n.faults Δ ∧ S' = Δ ++ _) rfl rfl rfl (c142 _ _ n _ _ _ _ _ (hn.sub Sb.h) (by omega)) ?_;rintro r _ ⟨Δf, hof, rfl⟩;obtain ⟨fa, fc, rfl, _, hfa⟩ := hof.slv;have := SlI.mk hfa;refine ⟨inferInstance, ?_⟩)|(refine o_callZ rfl rfl rfl (c154 _ _ n.faults _ _ _ _) ?_;rintro r _ ⟨f1, f2, f3, rfl, rfl⟩;refine ⟨inferInstance, ?_⟩))|(refine gI ?_;first|refine o_indexS rfl rfl rfl rfl rfl rfl (by omega) ?_|refine o_index rfl rfl rfl rfl rfl (by omega) ?_)|(refine gS ?_;first|refine o_store rfl rfl rfl rfl rfl rfl ?_|refine o_storeW rfl rfl rfl rfl rfl rfl ?_)|(refine o_allocZ rfl rfl ?_;intro _)|(refine o_box rfl rfl rfl ?_;intro _)|refine o_skip rfl rfl ?_|refine o_skipN rfl rfl ?_|refine o_iface rfl rfl rfl ?_|refine o_build rfl rfl rfl rfl rfl ?_|(refine o_bslice rfl rfl rfl rfl rfl rfl rfl ?_;intro _)|(refine o_splitP rfl ?_ ?_<;>intro h<;>fail_if_success exact Bool.noConfusion h))|refine o_head0 rfl ?_|refine o_end ?_|refine o_head1 rfl ?_|refine wp_seq ?_|refine o_region ?_|refine wp_block ?_|refine wp_skip ?_|refine wp_exit ?_|(refine w_condD rfl ?_ ?_<;>intro h)|(refine w_cond rfl ?_ ?_<;>intro h<;>try exact Bool.noConfusion h)|refine w_ret (S) (vs:=[_]) rfl (Res.tmp rfl Res.nil) ?_|(show WP _ _ _ _ (.region 8 _ true) _ _ _ _;refine o_drawn [(0, true), (1, true), (2, false), (3, false), (6, true), (7, true), (4, false), (5, false), (8, false), (9, false), (10, false), (11, false), (12, true)] mixed (by kernel_rfl) ?_)|(show WP _ _ _ _ (.region 12 _ true) _ _ _ _;refine o_drawn [(0, true), (1, false), (2, false), (3, false), (8, true), (9, true), (10, true), (11, true), (12, true), (4, false), (5, false), (6, false), (7, false), (13, false), (14, false), (15, false), (16, true)] mixed (by kernel_rfl) ?_)
    · refine wp_rangeFunc (F := 182) (first := #[]) (captured := #[.pointer (some ⟨f1, 0, none⟩), .pointer (some ⟨f2, 0, none⟩), .pointer (some ⟨f3, 0, none⟩)])
        (R := fun r lp arr v S' => ∃ (L : Loop) (Δ : Ents), L.state = .ready ∧ L.pending = none ∧ S' = Δ ++ loopE lp L :: markE r :: ⟨bt, true, .cells c' 140 (0, 0)⟩ :: ⟨b8, true, .cells #[.int .i64 (priceN n p).since, .int .i64 (priceN n p).feet, .int .i64 (priceN n p).fault] 104 (0, 0)⟩ :: ⟨b7, true, .cells #[.slice wa n.mains.length wc] 144 (0, 0)⟩ :: ⟨b3, true, .cells #[.slice qm n.mains.length cm, b, c, d, e] 28 (0, 0)⟩ :: (mks [] ++ S) ∧ Own (.slice wa n.mains.length wc) (billsN n p k) Δ) (evL_eq rfl) rfl ?_ ?_
      · intro r lp arr hag
        generalize hL : newL _ _ _ _ _ _ = L
        rw [show (#[] ++ #[Value.func (.yield lp) #[] #[]] ++ #[.pointer (some ⟨f1, 0, none⟩), .pointer (some ⟨f2, 0, none⟩), .pointer (some ⟨f3, 0, none⟩)] : Array Value) = #[.func (.yield lp) #[] #[], .pointer (some ⟨f1, 0, none⟩), .pointer (some ⟨f2, 0, none⟩), .pointer (some ⟨f3, 0, none⟩)] from by simp]
        refine CallW.perm ?_ (FrS.h (Δ := Δ))
        refine CallW.weaken (c182 _ _ (fun j S' => ∃ Δ, List.Sublist (Δ ++ loopE lp L :: markE r :: ⟨f3, true, .cells #[.int .i64 k] 3 (0, 0)⟩ :: ⟨f2, true, .cells #[.int .i64 p] 3 (0, 0)⟩ :: ⟨f1, true, .cells #[.slice fa n.faults.length fc] 197 (0, 0)⟩ :: (Δf ++ ⟨bt, true, .cells c' 140 (0, 0)⟩ :: ⟨b8, true, .cells #[.int .i64 (priceN n p).since, .int .i64 (priceN n p).feet, .int .i64 (priceN n p).fault] 104 (0, 0)⟩ :: ⟨b7, true, .cells #[.slice wa n.mains.length wc] 144 (0, 0)⟩ :: ⟨b3, true, .cells #[.slice qm n.mains.length cm, b, c, d, e] 28 (0, 0)⟩ :: (mks [] ++ S))) S' ∧ Own (.slice wa n.mains.length wc) (bill2 n p k j) Δ)
          (fun _ => False) lp f1 f2 f3 L n.faults fa fc p k (by omega) ⟨Δ, List.Sublist.refl _, ho⟩ ?_ (by subst hL; rfl) ?_ ?_) ?_
        · rintro j S' ⟨Δ, hs, ho⟩
          exact ⟨hs.subset (by simp), hs.subset (by simp), hs.subset (by simp), hfa.sub (Sb.h.trans hs), hs.subset (by simp)⟩
        · rintro j hj S' ⟨Δ, hs, ho⟩ hc
          refine RoundW.sub ?_ hs
          subst hL
          refine round1 (q := 50) rfl (by decide) hag ?_
          change WP _ _ 88 _ (.region 11 _ _) (midQ _ _ 88 _ _ (.block 3 _) _) _ _ _
          obtain ⟨hfo, hpl⟩ := hV.faults _ (List.getElem_mem hj)
          obtain ⟨hpe, hil, _⟩ := idx_spec hpl
          have hbl := bill2_len (n := n) (p := p) (k := k) (j := j)
          obtain ⟨_, hrt⟩ := ho.sla
          have i6 := SlI.mk hrt
          have hmb := many_bd hV (p := p) hj
          have hpb := pen_bd hV (p := p) (k := k) (q := idx n n.faults[j].main) (j := j) (by omega)
          have hat : ((bill2 n p k j)[idx n n.faults[j].main]'(by omega)) = ⟨gasI n p k (idx n n.faults[j].main), penT n p k j (idx n n.faults[j].main)⟩ := bill2_at _
          have hpp : ((bill2 n p k j)[idx n n.faults[j].main]'(by omega)).penalty = penT n p k j (idx n n.faults[j].main) := by rw [hat]
          repeat' first|(refine gX ?_;first|refine o_v rfl rfl ?_|(refine o_splitD rfl rfl rfl ?_ ?_<;>intro h)|(refine o_split rfl rfl rfl ?_ ?_<;>intro h<;>fail_if_success exact Bool.noConfusion h)|(refine gL ?_;first|refine o_load rfl rfl rfl rfl ?_|refine o_loadR rfl rfl rfl (by omega) rfl rfl ?_|refine o_loadW rfl rfl rfl rfl ?_|refine o_loadK rfl rfl rfl ?_)|(refine gF ?_;first|refine o_fieldI rfl rfl rfl rfl ?_|refine o_field rfl rfl rfl rfl ?_)|(refine gB ?_;first|refine o_mul rfl rfl rfl rfl (by omega) ?_|refine o_add rfl rfl rfl rfl (by omega) ?_|refine o_add rfl rfl rfl rfl (by omega) ?_|refine o_sub rfl rfl rfl rfl (by omega) ?_|refine o_eqNil rfl rfl rfl rfl rfl ?_)|(refine gC ?_;first|refine o_callF rfl rfl rfl (c87 _ _ n _ _ _ _ _ _ (hn.sub Sb.h)) ?_)|(refine gI ?_;first|refine o_indexZ (idx n n.faults[j].main) rfl rfl rfl rfl rfl hbl.symm hpe (by omega) ?_|refine o_indexS rfl rfl rfl rfl rfl rfl (by omega) ?_|refine o_index rfl rfl rfl rfl rfl (by omega) ?_)|(refine gS ?_;first|(refine o_storeO (⟨((bill2 n p k j)[idx n n.faults[j].main]'(by first|done|omega)).gas, ((bill2 n p k j)[idx n n.faults[j].main]'(by first|done|omega)).penalty + n.faults[j].many * (priceN n p).fault⟩ : BillG) rfl rfl rfl ho (by omega) rfl rfl rfl rfl ?_;intro Δ2 ho2;refine ⟨_, inferInstance, ?_⟩)|refine o_store rfl rfl rfl rfl rfl rfl ?_|refine o_storeW rfl rfl rfl rfl rfl rfl ?_)|(refine o_allocZ rfl rfl ?_;intro _)|(refine o_box rfl rfl rfl ?_;intro _)|refine o_skip rfl rfl ?_|refine o_skipN rfl rfl ?_|refine o_iface rfl rfl rfl ?_|refine o_build rfl rfl rfl rfl rfl ?_|(refine o_bslice rfl rfl rfl rfl rfl rfl rfl ?_;intro _)|(refine o_splitP rfl ?_ ?_<;>intro h<;>fail_if_success exact Bool.noConfusion h))|refine o_head0 rfl ?_|refine o_end ?_|refine o_head1 rfl ?_|refine mid_of rfl ?_|refine fin_ofB ?_|refine wp_seq ?_|refine o_region ?_|refine wp_block ?_|refine wp_skip ?_|refine wp_exit ?_|(refine w_condD rfl ?_ ?_<;>intro h)|(refine w_cond rfl ?_ ?_<;>intro h<;>try exact Bool.noConfusion h)|refine w_ret (S) (vs:=[_]) rfl (Res.tmp rfl Res.nil) ?_|(show WP _ _ _ _ (.region 8 _ true) _ _ _ _;refine o_drawn [(0, true), (1, true), (2, false), (3, false), (6, true), (7, true), (4, false), (5, false), (8, false), (9, false), (10, false), (11, false), (12, true)] mixed (by kernel_rfl) ?_)|(show WP _ _ _ _ (.region 12 _ true) _ _ _ _;refine o_drawn [(0, true), (1, false), (2, false), (3, false), (8, true), (9, true), (10, true), (11, true), (12, true), (4, false), (5, false), (6, false), (7, false), (13, false), (14, false), (15, false), (16, true)] mixed (by kernel_rfl) ?_)
          refine .inl ⟨rfl, Δ2, .append_left (.cons _ (List.Sublist.refl _)) _, ?_⟩
          rw [hat] at ho2
          rw [← bill2_succ hj hc]
          exact ho2
        · rintro j hj S' ⟨Δ, hs, ho⟩ hc
          exact ⟨Δ, hs, by rw [bill2_skip hj hc]; exact ho⟩
        · rintro v S' (⟨Δ, hs, ho⟩ | h)
          · refine ⟨_, List.Sublist.trans ?_ hs, L, Δ, by subst hL; rfl, by subst hL; rfl, rfl, ho⟩
            exact List.Sublist.append_left (.cons_cons _ (.cons_cons _ (.cons _ (.cons _ (.cons _ (List.sublist_append_right _ _)))))) _
          · exact h.elim
      · rintro r lp arr v S' ⟨L, Δ, h1, h2, rfl, ho⟩
        refine ⟨L, _, by rw [h1]; decide, OwnS.h (S := Δ ++ loopE lp L :: markE r :: ⟨bt, true, .cells c' 140 (0, 0)⟩ :: ⟨b8, true, .cells #[.int .i64 (priceN n p).since, .int .i64 (priceN n p).feet, .int .i64 (priceN n p).fault] 104 (0, 0)⟩ :: ⟨b7, true, .cells #[.slice wa n.mains.length wc] 144 (0, 0)⟩ :: ⟨b3, true, .cells #[.slice qm n.mains.length cm, b, c, d, e] 28 (0, 0)⟩ :: (mks [] ++ S)) _, ?_⟩
        rw [h2]
        exact ⟨_, .append_left (.cons _ (.cons_cons _ (.cons _ (.cons _ (.cons_cons _ (.cons _ (List.Sublist.refl _))))))) _, _, r, Δ, rfl, rfl, keep ⟨rfl, trivial⟩, ho⟩
  rintro _ _ _ ⟨t0, r, Δ, rfl, rfl, rfl, ho⟩
  refine WP.perm ?_ List.perm_middle
  repeat' first|(refine gX ?_;first|refine o_v rfl rfl ?_|(refine o_splitD rfl rfl rfl ?_ ?_<;>intro h)|(refine o_split rfl rfl rfl ?_ ?_<;>intro h<;>fail_if_success exact Bool.noConfusion h)|(refine gL ?_;first|refine o_load rfl rfl rfl rfl ?_|refine o_loadR rfl rfl rfl (by omega) rfl rfl ?_|refine o_loadW rfl rfl rfl rfl ?_|refine o_loadK rfl rfl rfl ?_)|(refine gF ?_;first|refine o_fieldI rfl rfl rfl rfl ?_|refine o_field rfl rfl rfl rfl ?_)|(refine gB ?_;first|refine o_add rfl rfl rfl rfl (by omega) ?_|refine o_sub rfl rfl rfl rfl (by omega) ?_|refine o_eqNil rfl rfl rfl rfl rfl ?_)|(refine gI ?_;first|refine o_indexS rfl rfl rfl rfl rfl rfl (by omega) ?_|refine o_index rfl rfl rfl rfl rfl (by omega) ?_)|(refine gS ?_;first|refine o_store rfl rfl rfl rfl rfl rfl ?_|refine o_storeW rfl rfl rfl rfl rfl rfl ?_)|(refine o_allocZ rfl rfl ?_;intro _)|(refine o_box rfl rfl rfl ?_;intro _)|refine o_skip rfl rfl ?_|refine o_skipN rfl rfl ?_|refine o_iface rfl rfl rfl ?_|refine o_build rfl rfl rfl rfl rfl ?_|(refine o_bslice rfl rfl rfl rfl rfl rfl rfl ?_;intro _)|(refine o_splitP rfl ?_ ?_<;>intro h<;>fail_if_success exact Bool.noConfusion h))|refine o_head0 rfl ?_|refine o_end ?_|refine o_head1 rfl ?_|refine wp_seq ?_|refine o_region ?_|refine wp_block ?_|refine wp_skip ?_|refine wp_exit ?_|(refine w_condD rfl ?_ ?_<;>intro h)|(refine w_cond rfl ?_ ?_<;>intro h<;>try exact Bool.noConfusion h)|refine w_ret (S) (vs:=[_]) rfl (Res.tmp rfl Res.nil) ?_|(show WP _ _ _ _ (.region 8 _ true) _ _ _ _;refine o_drawn [(0, true), (1, true), (2, false), (3, false), (6, true), (7, true), (4, false), (5, false), (8, false), (9, false), (10, false), (11, false), (12, true)] mixed (by kernel_rfl) ?_)|(show WP _ _ _ _ (.region 12 _ true) _ _ _ _;refine o_drawn [(0, true), (1, false), (2, false), (3, false), (8, true), (9, true), (10, true), (11, true), (12, true), (4, false), (5, false), (6, false), (7, false), (13, false), (14, false), (15, false), (16, true)] mixed (by kernel_rfl) ?_)
  refine w_retM [r] (Δ ++ S) (show List.Sublist (markE r :: (Δ ++ S)) _ from .cons_cons _ (.append_left (.cons _ (List.Sublist.refl _)) _)) (vs:=[_]) rfl (Res.tmp rfl Res.nil) ?_
  exact ⟨Δ, ho, rfl⟩
end Go.Proofs.YtpnnmklacialgaaGreat
namespace Go.Proofs.YtpnnmklacialgaaGreat
open Go.Conc
attribute [local irreducible] WP OpF OpX CallW SemH retQ AnyF RoundW

def owedE (n : NetG) (main p k : Int) : Int := if validB n = true then (if placeF n main < 0 then 70 else lookE n p k) else 74
def owedG (n : NetG) (main p k : Int) : BillG := if owedE n main p k = 0 then (billsN n p k).getD (idx n main) ⟨0, 0⟩ else ⟨0, 0⟩
theorem c19 (E : Env) (S : Ents) (n : NetG) (a b c d e : Value) (main p k : Int) (hn : NetV S a b c d e n) :
    CallW Tryz.prog E 19 #[.agg #[a, b, c, d, e], iv main, iv p, iv k] S fun r S' => r = .tuple #[.agg (billC (owedG n main p k)), iv (owedE n main p k)] ∧ S' = S := by
  refine call_in (args := [.agg #[a, b, c, d, e], iv main, iv p, iv k]) Tryz.func19 (by decide) rfl rfl ?_
  repeat' first|(refine gX ?_;first|refine o_v rfl rfl ?_|(refine o_splitD rfl rfl rfl ?_ ?_<;>intro h)|(refine o_split rfl rfl rfl ?_ ?_<;>intro h<;>fail_if_success exact Bool.noConfusion h)|(refine gL ?_;first|refine o_load rfl rfl rfl rfl ?_|refine o_loadR rfl rfl rfl (by omega) rfl rfl ?_|refine o_loadW rfl rfl rfl rfl ?_|refine o_loadK rfl rfl rfl ?_)|(refine gF ?_;first|refine o_fieldI rfl rfl rfl rfl ?_|refine o_field rfl rfl rfl rfl ?_)|(refine gB ?_;first|refine o_add rfl rfl rfl rfl (by omega) ?_|refine o_sub rfl rfl rfl rfl (by omega) ?_|refine o_eqNil rfl rfl rfl rfl rfl ?_)|(refine gC ?_;first|refine o_callF rfl rfl rfl (c71 _ _ n _ _ _ _ _ (hn.sub Sb.h)) ?_|refine o_callF rfl rfl rfl (c87 _ _ n _ _ _ _ _ _ (hn.sub Sb.h)) ?_|refine o_callF rfl rfl rfl (c72 _ _ n _ _ _ _ _ _ _ (hn.sub Sb.h)) ?_|(refine o_callZ rfl rfl rfl (c88 _ _ n _ _ _ _ _ p k (hn.sub Sb.h) (look_valid (n := n) (p := p) (k := k) (by omega))) ?_;rintro r _ ⟨Δ, ho, rfl⟩;obtain ⟨wa, wc, rfl, _, hra⟩ := ho.slv;have i1 := SlI.mk hra;have hbl : (billsN n p k).length = n.mains.length := bill2_len;have hidx := idx_spec (n := n) (id := main) (by omega);obtain ⟨hpe, hil, _⟩ := hidx;refine ⟨inferInstance, ?_⟩))|(refine gI ?_;first|refine o_indexZ (idx n main) rfl rfl rfl rfl rfl rfl hpe (by omega) ?_|refine o_indexS rfl rfl rfl rfl rfl rfl (by omega) ?_|refine o_index rfl rfl rfl rfl rfl (by omega) ?_)|(refine gS ?_;first|refine o_store rfl rfl rfl rfl rfl rfl ?_|refine o_storeW rfl rfl rfl rfl rfl rfl ?_)|(refine o_allocZ rfl rfl ?_;intro _)|(refine o_box rfl rfl rfl ?_;intro _)|refine o_skip rfl rfl ?_|refine o_skipN rfl rfl ?_|refine o_iface rfl rfl rfl ?_|refine o_build rfl rfl rfl rfl rfl ?_|(refine o_bslice rfl rfl rfl rfl rfl rfl rfl ?_;intro _)|(refine o_splitP rfl ?_ ?_<;>intro h<;>fail_if_success exact Bool.noConfusion h))|refine o_head0 rfl ?_|refine o_end ?_|refine o_head1 rfl ?_|refine wp_seq ?_|refine o_region ?_|refine wp_block ?_|refine wp_skip ?_|refine wp_exit ?_|(refine w_condD rfl ?_ ?_<;>intro h)|(refine w_cond rfl ?_ ?_<;>intro h<;>try exact Bool.noConfusion h)|refine w_ret (S) (vs:=[_,_]) rfl (Res.cell rfl rfl (Res.tmp rfl Res.nil)) ?_
  · have hb : ¬ validB n = true := fun hc => h (if_pos hc)
    have ee : owedE n main p k = 74 := if_neg hb
    exact ⟨by unfold owedG; rw [if_neg hb, if_neg (show ¬ owedE n main p k = 0 by rw [ee]; decide), ee]; rfl, rfl⟩
  all_goals have hb : validB n = true := Classical.byContradiction fun hc => by simp_all
  · have ee : owedE n main p k = 70 := by unfold owedE; rw [if_pos hb, if_pos h]
    exact ⟨by unfold owedG; rw [if_neg (show ¬ owedE n main p k = 0 by rw [ee]; decide), ee]; rfl, rfl⟩
  · have ee : owedE n main p k = lookE n p k := by unfold owedE; rw [if_pos hb, if_neg (by assumption)]
    exact ⟨by unfold owedG; rw [if_neg (show ¬ owedE n main p k = 0 by rw [ee]; exact h), ee]; rfl, rfl⟩
  · have hl : lookE n p k = 0 := by omega
    have ee : owedE n main p k = 0 := by unfold owedE; rw [if_pos hb, if_neg (by assumption), hl]
    have hg : (billsN n p k).getD (idx n main) ⟨0, 0⟩ = (billsN n p k)[idx n main]'(by omega) := by simp [List.getD, show idx n main < (billsN n p k).length by omega]
    exact ⟨by unfold owedG; rw [if_pos ee, ee, hg]; rfl, rfl⟩
end Go.Proofs.YtpnnmklacialgaaGreat
namespace Go.Proofs.YtpnnmklacialgaaGreat
open Go.Conc
attribute [local irreducible] WP OpF OpX CallW SemH retQ AnyF RoundW

theorem map_snoc {α : Type} {f : α → Int} {l : List α} {j : Nat} (h : j < l.length) : (l.take (j + 1)).map f = (l.take j).map f ++ [f l[j]] := by
  rw [List.take_succ_eq_append_getElem h, List.map_append]
  rfl
theorem c183 (E : Env) (S : Ents) (xs : List UseG) (v : Value) (hv : SlV S v xs) (hm : xs.length ≤ 1048576) : CallW Tryz.prog E 183 #[v] S fun r S' => ∃ Δ, Own r (xs.map (·.period)) Δ ∧ S' = Δ ++ S := by
  obtain ⟨a, cp, rfl, _, hr⟩ := hv
  have i1 := SlI.mk hr
  refine call_in (args := [.slice a xs.length cp]) Tryz.func183 (by decide) rfl rfl ?_
  repeat' first|(refine gX ?_;first|refine o_v rfl rfl ?_|(refine o_splitD rfl rfl rfl ?_ ?_<;>intro h)|(refine o_split rfl rfl rfl ?_ ?_<;>intro h<;>fail_if_success exact Bool.noConfusion h)|(refine gL ?_;first|refine o_load rfl rfl rfl rfl ?_|refine o_loadR rfl rfl rfl (by omega) rfl rfl ?_|refine o_loadW rfl rfl rfl rfl ?_|refine o_loadK rfl rfl rfl ?_)|(refine gF ?_;first|refine o_fieldI rfl rfl rfl rfl ?_|refine o_field rfl rfl rfl rfl ?_)|(refine gB ?_;first|refine o_add rfl rfl rfl rfl (by omega) ?_|refine o_sub rfl rfl rfl rfl (by omega) ?_|refine o_eqNil rfl rfl rfl rfl rfl ?_)|(refine gI ?_;first|refine o_indexS rfl rfl rfl rfl rfl rfl (by omega) ?_|refine o_index rfl rfl rfl rfl rfl (by omega) ?_)|(refine gS ?_;first|refine o_store rfl rfl rfl rfl rfl rfl ?_|refine o_storeW rfl rfl rfl rfl rfl rfl ?_)|(refine o_allocZ rfl rfl ?_;intro _)|(refine o_box rfl rfl rfl ?_;intro _)|refine o_skip rfl rfl ?_|refine o_skipN rfl rfl ?_|refine o_iface rfl rfl rfl ?_|refine o_build rfl rfl rfl rfl rfl ?_|(refine o_bslice rfl rfl rfl rfl rfl rfl rfl ?_;intro _)|(refine o_splitP rfl ?_ ?_<;>intro h<;>fail_if_success exact Bool.noConfusion h))|refine o_head0 rfl ?_|refine o_end ?_|refine o_head1 rfl ?_|refine wp_seq ?_|refine o_region ?_|refine wp_block ?_|refine wp_skip ?_|refine wp_exit ?_|(refine w_condD rfl ?_ ?_<;>intro h)|(refine w_cond rfl ?_ ?_<;>intro h<;>try exact Bool.noConfusion h)|refine w_ret (S) (vs:=[_]) rfl (Res.tmp rfl Res.nil) ?_
  refine wp_loop (fun i t ds S' => ∃ (j : Nat) (t0 : Tm) (w : Value) (Δ : Ents), i = xs.length - j ∧ j ≤ xs.length ∧ [] = ds ∧ Δ ++ S = S' ∧ t = den [(13, iv j), (12, iv xs.length), (11, .slice a xs.length cp), (3, w)] t0 ∧ Own w ((xs.take j).map (·.period)) Δ)
    xs.length ⟨0, _, _, [], rfl, Nat.zero_le _, rfl, rfl, keep ⟨rfl, rfl, rfl, rfl, trivial⟩, .nil⟩ ?_
  rintro i t ds S' ⟨j, t0, w, Δ, rfl, hj, rfl, rfl, rfl, ho⟩
  obtain ⟨wa, wc, rfl, _, _⟩ := ho.slv
  have hl : ((xs.take j).map (·.period)).length ≤ xs.length := by rw [List.length_map, List.length_take]; omega
  repeat' first|(refine gX ?_;first|refine o_v rfl rfl ?_|(refine o_splitD rfl rfl rfl ?_ ?_<;>intro h)|(refine o_split rfl rfl rfl ?_ ?_<;>intro h<;>fail_if_success exact Bool.noConfusion h)|(refine gL ?_;first|refine o_load rfl rfl rfl rfl ?_|refine o_loadR rfl rfl rfl (by omega) rfl rfl ?_|refine o_loadW rfl rfl rfl rfl ?_|refine o_loadK rfl rfl rfl ?_)|(refine gF ?_;first|refine o_fieldI rfl rfl rfl rfl ?_|refine o_field rfl rfl rfl rfl ?_)|(refine gB ?_;first|refine o_add rfl rfl rfl rfl (by omega) ?_|refine o_sub rfl rfl rfl rfl (by omega) ?_|refine o_eqNil rfl rfl rfl rfl rfl ?_)|(refine gC ?_;first|refine o_inv rfl rfl rfl rfl (c228 _ _ (xs[j]'(by first|done|omega))) ?_|(refine o_append1 (xs[j]'(by first|done|omega)).period rfl rfl rfl rfl ho rfl (by omega) rfl rfl rfl rfl ?_;intro w2 Δ2 ho2;refine ⟨inferInstance, ?_⟩))|(refine gI ?_;first|refine o_indexS rfl rfl rfl rfl rfl rfl (by omega) ?_|refine o_index rfl rfl rfl rfl rfl (by omega) ?_)|(refine gS ?_;first|refine o_store rfl rfl rfl rfl rfl rfl ?_|refine o_storeW rfl rfl rfl rfl rfl rfl ?_)|(refine o_allocZ rfl rfl ?_;intro _)|(refine o_box rfl rfl rfl ?_;intro _)|refine o_skip rfl rfl ?_|refine o_skipN rfl rfl ?_|refine o_iface rfl rfl rfl ?_|refine o_build rfl rfl rfl rfl rfl ?_|(refine o_bslice rfl rfl rfl rfl rfl rfl rfl ?_;intro _)|(refine o_splitP rfl ?_ ?_<;>intro h<;>fail_if_success exact Bool.noConfusion h))|refine o_head0 rfl ?_|refine o_end ?_|refine o_head1 rfl ?_|refine wp_seq ?_|refine o_region ?_|refine wp_block ?_|refine wp_skip ?_|refine wp_exit ?_|(refine w_condD rfl ?_ ?_<;>intro h)|(refine w_cond rfl ?_ ?_<;>intro h<;>try exact Bool.noConfusion h)|refine w_ret (Δ ++ S) (vs:=[_]) rfl (Res.tmp rfl Res.nil) ?_|refine w_ret (S) (vs:=[_]) rfl (Res.tmp rfl Res.nil) ?_
  · refine ⟨xs.length - (j + 1), by omega, _, .append_left (.cons _ (.cons _ (List.Sublist.refl _))) _, j + 1, _, _, Δ2, rfl, by omega, rfl, rfl, keep ⟨rfl, rfl, rfl, rfl, trivial⟩, ?_⟩
    rw [map_snoc (by omega)]
    exact ho2
  · have : j = xs.length := by omega
    subst this
    refine ⟨Δ, ?_, rfl⟩
    rw [List.take_length] at ho ⊢
    exact ho
theorem c184 (E : Env) (S : Ents) (xs : List ReadG) (v : Value) (hv : SlV S v xs) (hm : xs.length ≤ 1048576) : CallW Tryz.prog E 184 #[v] S fun r S' => ∃ Δ, Own r (xs.map (·.period)) Δ ∧ S' = Δ ++ S := by
  obtain ⟨a, cp, rfl, _, hr⟩ := hv
  have i1 := SlI.mk hr
  refine call_in (args := [.slice a xs.length cp]) Tryz.func184 (by decide) rfl rfl ?_
  repeat' first|(refine gX ?_;first|refine o_v rfl rfl ?_|(refine o_splitD rfl rfl rfl ?_ ?_<;>intro h)|(refine o_split rfl rfl rfl ?_ ?_<;>intro h<;>fail_if_success exact Bool.noConfusion h)|(refine gL ?_;first|refine o_load rfl rfl rfl rfl ?_|refine o_loadR rfl rfl rfl (by omega) rfl rfl ?_|refine o_loadW rfl rfl rfl rfl ?_|refine o_loadK rfl rfl rfl ?_)|(refine gF ?_;first|refine o_fieldI rfl rfl rfl rfl ?_|refine o_field rfl rfl rfl rfl ?_)|(refine gB ?_;first|refine o_add rfl rfl rfl rfl (by omega) ?_|refine o_sub rfl rfl rfl rfl (by omega) ?_|refine o_eqNil rfl rfl rfl rfl rfl ?_)|(refine gI ?_;first|refine o_indexS rfl rfl rfl rfl rfl rfl (by omega) ?_|refine o_index rfl rfl rfl rfl rfl (by omega) ?_)|(refine gS ?_;first|refine o_store rfl rfl rfl rfl rfl rfl ?_|refine o_storeW rfl rfl rfl rfl rfl rfl ?_)|(refine o_allocZ rfl rfl ?_;intro _)|(refine o_box rfl rfl rfl ?_;intro _)|refine o_skip rfl rfl ?_|refine o_skipN rfl rfl ?_|refine o_iface rfl rfl rfl ?_|refine o_build rfl rfl rfl rfl rfl ?_|(refine o_bslice rfl rfl rfl rfl rfl rfl rfl ?_;intro _)|(refine o_splitP rfl ?_ ?_<;>intro h<;>fail_if_success exact Bool.noConfusion h))|refine o_head0 rfl ?_|refine o_end ?_|refine o_head1 rfl ?_|refine wp_seq ?_|refine o_region ?_|refine wp_block ?_|refine wp_skip ?_|refine wp_exit ?_|(refine w_condD rfl ?_ ?_<;>intro h)|(refine w_cond rfl ?_ ?_<;>intro h<;>try exact Bool.noConfusion h)|refine w_ret (S) (vs:=[_]) rfl (Res.tmp rfl Res.nil) ?_
  refine wp_loop (fun i t ds S' => ∃ (j : Nat) (t0 : Tm) (w : Value) (Δ : Ents), i = xs.length - j ∧ j ≤ xs.length ∧ [] = ds ∧ Δ ++ S = S' ∧ t = den [(13, iv j), (12, iv xs.length), (11, .slice a xs.length cp), (3, w)] t0 ∧ Own w ((xs.take j).map (·.period)) Δ)
    xs.length ⟨0, _, _, [], rfl, Nat.zero_le _, rfl, rfl, keep ⟨rfl, rfl, rfl, rfl, trivial⟩, .nil⟩ ?_
  rintro i t ds S' ⟨j, t0, w, Δ, rfl, hj, rfl, rfl, rfl, ho⟩
  obtain ⟨wa, wc, rfl, _, _⟩ := ho.slv
  have hl : ((xs.take j).map (·.period)).length ≤ xs.length := by rw [List.length_map, List.length_take]; omega
  repeat' first|(refine gX ?_;first|refine o_v rfl rfl ?_|(refine o_splitD rfl rfl rfl ?_ ?_<;>intro h)|(refine o_split rfl rfl rfl ?_ ?_<;>intro h<;>fail_if_success exact Bool.noConfusion h)|(refine gL ?_;first|refine o_load rfl rfl rfl rfl ?_|refine o_loadR rfl rfl rfl (by omega) rfl rfl ?_|refine o_loadW rfl rfl rfl rfl ?_|refine o_loadK rfl rfl rfl ?_)|(refine gF ?_;first|refine o_fieldI rfl rfl rfl rfl ?_|refine o_field rfl rfl rfl rfl ?_)|(refine gB ?_;first|refine o_add rfl rfl rfl rfl (by omega) ?_|refine o_sub rfl rfl rfl rfl (by omega) ?_|refine o_eqNil rfl rfl rfl rfl rfl ?_)|(refine gC ?_;first|refine o_inv rfl rfl rfl rfl (c227 _ _ (xs[j]'(by first|done|omega))) ?_|(refine o_append1 (xs[j]'(by first|done|omega)).period rfl rfl rfl rfl ho rfl (by omega) rfl rfl rfl rfl ?_;intro w2 Δ2 ho2;refine ⟨inferInstance, ?_⟩))|(refine gI ?_;first|refine o_indexS rfl rfl rfl rfl rfl rfl (by omega) ?_|refine o_index rfl rfl rfl rfl rfl (by omega) ?_)|(refine gS ?_;first|refine o_store rfl rfl rfl rfl rfl rfl ?_|refine o_storeW rfl rfl rfl rfl rfl rfl ?_)|(refine o_allocZ rfl rfl ?_;intro _)|(refine o_box rfl rfl rfl ?_;intro _)|refine o_skip rfl rfl ?_|refine o_skipN rfl rfl ?_|refine o_iface rfl rfl rfl ?_|refine o_build rfl rfl rfl rfl rfl ?_|(refine o_bslice rfl rfl rfl rfl rfl rfl rfl ?_;intro _)|(refine o_splitP rfl ?_ ?_<;>intro h<;>fail_if_success exact Bool.noConfusion h))|refine o_head0 rfl ?_|refine o_end ?_|refine o_head1 rfl ?_|refine wp_seq ?_|refine o_region ?_|refine wp_block ?_|refine wp_skip ?_|refine wp_exit ?_|(refine w_condD rfl ?_ ?_<;>intro h)|(refine w_cond rfl ?_ ?_<;>intro h<;>try exact Bool.noConfusion h)|refine w_ret (Δ ++ S) (vs:=[_]) rfl (Res.tmp rfl Res.nil) ?_|refine w_ret (S) (vs:=[_]) rfl (Res.tmp rfl Res.nil) ?_
  · refine ⟨xs.length - (j + 1), by omega, _, .append_left (.cons _ (.cons _ (List.Sublist.refl _))) _, j + 1, _, _, Δ2, rfl, by omega, rfl, rfl, keep ⟨rfl, rfl, rfl, rfl, trivial⟩, ?_⟩
    rw [map_snoc (by omega)]
    exact ho2
  · have : j = xs.length := by omega
    subst this
    refine ⟨Δ, ?_, rfl⟩
    rw [List.take_length] at ho ⊢
    exact ho
theorem c185 (E : Env) (S : Ents) (xs : List FaultG) (v : Value) (hv : SlV S v xs) (hm : xs.length ≤ 1048576) : CallW Tryz.prog E 185 #[v] S fun r S' => ∃ Δ, Own r (xs.map (·.period)) Δ ∧ S' = Δ ++ S := by
  obtain ⟨a, cp, rfl, _, hr⟩ := hv
  have i1 := SlI.mk hr
  refine call_in (args := [.slice a xs.length cp]) Tryz.func185 (by decide) rfl rfl ?_
  repeat' first|(refine gX ?_;first|refine o_v rfl rfl ?_|(refine o_splitD rfl rfl rfl ?_ ?_<;>intro h)|(refine o_split rfl rfl rfl ?_ ?_<;>intro h<;>fail_if_success exact Bool.noConfusion h)|(refine gL ?_;first|refine o_load rfl rfl rfl rfl ?_|refine o_loadR rfl rfl rfl (by omega) rfl rfl ?_|refine o_loadW rfl rfl rfl rfl ?_|refine o_loadK rfl rfl rfl ?_)|(refine gF ?_;first|refine o_fieldI rfl rfl rfl rfl ?_|refine o_field rfl rfl rfl rfl ?_)|(refine gB ?_;first|refine o_add rfl rfl rfl rfl (by omega) ?_|refine o_sub rfl rfl rfl rfl (by omega) ?_|refine o_eqNil rfl rfl rfl rfl rfl ?_)|(refine gI ?_;first|refine o_indexS rfl rfl rfl rfl rfl rfl (by omega) ?_|refine o_index rfl rfl rfl rfl rfl (by omega) ?_)|(refine gS ?_;first|refine o_store rfl rfl rfl rfl rfl rfl ?_|refine o_storeW rfl rfl rfl rfl rfl rfl ?_)|(refine o_allocZ rfl rfl ?_;intro _)|(refine o_box rfl rfl rfl ?_;intro _)|refine o_skip rfl rfl ?_|refine o_skipN rfl rfl ?_|refine o_iface rfl rfl rfl ?_|refine o_build rfl rfl rfl rfl rfl ?_|(refine o_bslice rfl rfl rfl rfl rfl rfl rfl ?_;intro _)|(refine o_splitP rfl ?_ ?_<;>intro h<;>fail_if_success exact Bool.noConfusion h))|refine o_head0 rfl ?_|refine o_end ?_|refine o_head1 rfl ?_|refine wp_seq ?_|refine o_region ?_|refine wp_block ?_|refine wp_skip ?_|refine wp_exit ?_|(refine w_condD rfl ?_ ?_<;>intro h)|(refine w_cond rfl ?_ ?_<;>intro h<;>try exact Bool.noConfusion h)|refine w_ret (S) (vs:=[_]) rfl (Res.tmp rfl Res.nil) ?_
  refine wp_loop (fun i t ds S' => ∃ (j : Nat) (t0 : Tm) (w : Value) (Δ : Ents), i = xs.length - j ∧ j ≤ xs.length ∧ [] = ds ∧ Δ ++ S = S' ∧ t = den [(13, iv j), (12, iv xs.length), (11, .slice a xs.length cp), (3, w)] t0 ∧ Own w ((xs.take j).map (·.period)) Δ)
    xs.length ⟨0, _, _, [], rfl, Nat.zero_le _, rfl, rfl, keep ⟨rfl, rfl, rfl, rfl, trivial⟩, .nil⟩ ?_
  rintro i t ds S' ⟨j, t0, w, Δ, rfl, hj, rfl, rfl, rfl, ho⟩
  obtain ⟨wa, wc, rfl, _, _⟩ := ho.slv
  have hl : ((xs.take j).map (·.period)).length ≤ xs.length := by rw [List.length_map, List.length_take]; omega
  repeat' first|(refine gX ?_;first|refine o_v rfl rfl ?_|(refine o_splitD rfl rfl rfl ?_ ?_<;>intro h)|(refine o_split rfl rfl rfl ?_ ?_<;>intro h<;>fail_if_success exact Bool.noConfusion h)|(refine gL ?_;first|refine o_load rfl rfl rfl rfl ?_|refine o_loadR rfl rfl rfl (by omega) rfl rfl ?_|refine o_loadW rfl rfl rfl rfl ?_|refine o_loadK rfl rfl rfl ?_)|(refine gF ?_;first|refine o_fieldI rfl rfl rfl rfl ?_|refine o_field rfl rfl rfl rfl ?_)|(refine gB ?_;first|refine o_add rfl rfl rfl rfl (by omega) ?_|refine o_sub rfl rfl rfl rfl (by omega) ?_|refine o_eqNil rfl rfl rfl rfl rfl ?_)|(refine gC ?_;first|refine o_inv rfl rfl rfl rfl (c229 _ _ (xs[j]'(by first|done|omega))) ?_|(refine o_append1 (xs[j]'(by first|done|omega)).period rfl rfl rfl rfl ho rfl (by omega) rfl rfl rfl rfl ?_;intro w2 Δ2 ho2;refine ⟨inferInstance, ?_⟩))|(refine gI ?_;first|refine o_indexS rfl rfl rfl rfl rfl rfl (by omega) ?_|refine o_index rfl rfl rfl rfl rfl (by omega) ?_)|(refine gS ?_;first|refine o_store rfl rfl rfl rfl rfl rfl ?_|refine o_storeW rfl rfl rfl rfl rfl rfl ?_)|(refine o_allocZ rfl rfl ?_;intro _)|(refine o_box rfl rfl rfl ?_;intro _)|refine o_skip rfl rfl ?_|refine o_skipN rfl rfl ?_|refine o_iface rfl rfl rfl ?_|refine o_build rfl rfl rfl rfl rfl ?_|(refine o_bslice rfl rfl rfl rfl rfl rfl rfl ?_;intro _)|(refine o_splitP rfl ?_ ?_<;>intro h<;>fail_if_success exact Bool.noConfusion h))|refine o_head0 rfl ?_|refine o_end ?_|refine o_head1 rfl ?_|refine wp_seq ?_|refine o_region ?_|refine wp_block ?_|refine wp_skip ?_|refine wp_exit ?_|(refine w_condD rfl ?_ ?_<;>intro h)|(refine w_cond rfl ?_ ?_<;>intro h<;>try exact Bool.noConfusion h)|refine w_ret (Δ ++ S) (vs:=[_]) rfl (Res.tmp rfl Res.nil) ?_|refine w_ret (S) (vs:=[_]) rfl (Res.tmp rfl Res.nil) ?_
  · refine ⟨xs.length - (j + 1), by omega, _, .append_left (.cons _ (.cons _ (List.Sublist.refl _))) _, j + 1, _, _, Δ2, rfl, by omega, rfl, rfl, keep ⟨rfl, rfl, rfl, rfl, trivial⟩, ?_⟩
    rw [map_snoc (by omega)]
    exact ho2
  · have : j = xs.length := by omega
    subst this
    refine ⟨Δ, ?_, rfl⟩
    rw [List.take_length] at ho ⊢
    exact ho
end Go.Proofs.YtpnnmklacialgaaGreat
