/- Whether a net is valid, by the specification.
   The two checks agree; what is asked.
   What is asked, by the specification; lists of numbers.
   Ranges.
   Sums of ranges.
   Which readings count; nets with some readings alone.
   Copies of lists of numbers.
   A list without one of its numbers.
   Range over a function: loops, rounds, and what a function leaves behind at its return.
   Rounds and loops over functions.
   The rules of range-over-func loops. -/
import Derived.Test.YtpnnmklacialgaaGreatP04
set_option linter.unusedVariables false
set_option linter.unusedSimpArgs false
namespace Go.Proofs.YtpnnmklacialgaaGreat
open Go.Conc
attribute [local irreducible] WP OpF OpX CallW SemH retQ

theorem and_right_false {a b : Bool} (h : b = false) : (a && b) = false := by simp [h]
def upOkR (l : List MainG) (x : MainG) : Bool := decide (x.up ≤ 0) || decide (0 ≤ idxF (fun y : MainG => y.id == x.up) l 0)
def mainsR (l : List MainG) : Bool := riseN (·.id) (fun x => mainOk x && upOkR l x) l && decide (l.length ≤ 12)
def validR (n : NetG) : Bool :=
  mainsR n.mains && decide (n.uses.length ≤ 60) && decide (n.readings.length ≤ 60) && decide (n.faults.length ≤ 60) && decide (n.prices.length ≤ 10) &&
  riseN (·.source) (fun x => useOk x && placeOk n x.main) n.uses && riseN (·.source) (fun x => readOk x && placeOk n x.main) n.readings && riseN (·.source) (fun x => faultOk x && placeOk n x.main) n.faults && riseN (·.since) priceOk n.prices

theorem c91 (E : Env) (S : Ents) (l : List MainG) (id : Int) (v : Value) (hv : SlV S v l) (hmax : l.length ≤ 17592186044416) :
    CallW Tryz.prog E 91 #[v, iv id] S fun r S' => r = iv (idxF (fun x : MainG => x.id == id) l 0) ∧ S' = S := by
  obtain ⟨a, cap, rfl, _, hr⟩ := hv
  have := SlI.mk hr
  refine call_in (args := [.slice a l.length cap, iv id]) Tryz.func91 (by decide) rfl rfl ?_
  repeat' first|(refine gX ?_;first|refine o_v rfl rfl ?_|(refine o_splitD rfl rfl rfl ?_ ?_<;>intro h)|(refine o_split rfl rfl rfl ?_ ?_<;>intro h<;>fail_if_success exact Bool.noConfusion h)|(refine gL ?_;first|refine o_load rfl rfl rfl rfl ?_|refine o_loadR rfl rfl rfl (by omega) rfl rfl ?_|refine o_loadW rfl rfl rfl rfl ?_|refine o_loadK rfl rfl rfl ?_)|(refine gF ?_;first|refine o_fieldI rfl rfl rfl rfl ?_|refine o_field rfl rfl rfl rfl ?_)|(refine gB ?_;first|refine o_add rfl rfl rfl rfl (by omega) ?_|refine o_sub rfl rfl rfl rfl (by omega) ?_|refine o_eqNil rfl rfl rfl rfl rfl ?_)|(refine gI ?_;first|refine o_indexS rfl rfl rfl rfl rfl rfl (by omega) ?_|refine o_index rfl rfl rfl rfl rfl (by omega) ?_)|(refine gS ?_;first|refine o_store rfl rfl rfl rfl rfl rfl ?_|refine o_storeW rfl rfl rfl rfl rfl rfl ?_)|(refine o_allocZ rfl rfl ?_;intro _)|(refine o_box rfl rfl rfl ?_;intro _)|refine o_skip rfl rfl ?_|refine o_skipN rfl rfl ?_|refine o_iface rfl rfl rfl ?_|refine o_build rfl rfl rfl rfl rfl ?_|(refine o_bslice rfl rfl rfl rfl rfl rfl rfl ?_;intro _)|(refine o_splitP rfl ?_ ?_<;>intro h<;>fail_if_success exact Bool.noConfusion h))|refine o_head0 rfl ?_|refine o_end ?_|refine o_head1 rfl ?_|refine wp_seq ?_|refine o_region ?_|refine wp_block ?_|refine wp_skip ?_|refine wp_exit ?_|(refine w_condD rfl ?_ ?_<;>intro h)|(refine w_cond rfl ?_ ?_<;>intro h<;>try exact Bool.noConfusion h)|refine w_ret (S) (vs:=[_]) rfl (Res.tmp rfl Res.nil) ?_
  refine wp_loop (fun i t ds S' => ∃ (j : Nat) (t0 : Tm), i = l.length - j ∧ j ≤ l.length ∧ [] = ds ∧ S = S' ∧ t = den [(9, .int .i64 j), (8, .int .i64 l.length), (7, .slice a l.length cap), (1, .int .i64 id)] t0 ∧ idxF (fun x : MainG => x.id == id) (l.drop j) j = idxF (fun x : MainG => x.id == id) l 0)
    l.length ⟨0, _, rfl, Nat.zero_le _, rfl, rfl, keep ⟨rfl, rfl, rfl, rfl, trivial⟩, rfl⟩ ?_
  rintro i t ds S' ⟨j, t0, rfl, hj, rfl, rfl, rfl, hp⟩
  repeat' first|(refine gX ?_;first|refine o_v rfl rfl ?_|(refine o_splitD rfl rfl rfl ?_ ?_<;>intro h)|(refine o_split rfl rfl rfl ?_ ?_<;>intro h<;>fail_if_success exact Bool.noConfusion h)|(refine gL ?_;first|refine o_load rfl rfl rfl rfl ?_|refine o_loadR rfl rfl rfl (by omega) rfl rfl ?_|refine o_loadW rfl rfl rfl rfl ?_|refine o_loadK rfl rfl rfl ?_)|(refine gF ?_;first|refine o_fieldI rfl rfl rfl rfl ?_|refine o_field rfl rfl rfl rfl ?_)|(refine gB ?_;first|refine o_add rfl rfl rfl rfl (by omega) ?_|refine o_sub rfl rfl rfl rfl (by omega) ?_|refine o_eqNil rfl rfl rfl rfl rfl ?_)|(refine gI ?_;first|refine o_indexS rfl rfl rfl rfl rfl rfl (by omega) ?_|refine o_index rfl rfl rfl rfl rfl (by omega) ?_)|(refine gS ?_;first|refine o_store rfl rfl rfl rfl rfl rfl ?_|refine o_storeW rfl rfl rfl rfl rfl rfl ?_)|(refine o_allocZ rfl rfl ?_;intro _)|(refine o_box rfl rfl rfl ?_;intro _)|refine o_skip rfl rfl ?_|refine o_skipN rfl rfl ?_|refine o_iface rfl rfl rfl ?_|refine o_build rfl rfl rfl rfl rfl ?_|(refine o_bslice rfl rfl rfl rfl rfl rfl rfl ?_;intro _)|(refine o_splitP rfl ?_ ?_<;>intro h<;>fail_if_success exact Bool.noConfusion h))|refine o_head0 rfl ?_|refine o_end ?_|refine o_head1 rfl ?_|refine wp_seq ?_|refine o_region ?_|refine wp_block ?_|refine wp_skip ?_|refine wp_exit ?_|(refine w_condD rfl ?_ ?_<;>intro h)|(refine w_cond rfl ?_ ?_<;>intro h<;>try exact Bool.noConfusion h)|refine w_ret (S) (vs:=[_]) rfl (Res.tmp rfl Res.nil) ?_
  · rw [idxF_drop (by omega)] at hp
    simp_all [pack, iv]
  · rw [idxF_drop (by omega)] at hp
    exact ⟨l.length - (j + 1), by omega, _, Sb.h, j + 1, _, rfl, by omega, rfl, rfl, keep ⟨rfl, rfl, rfl, rfl, trivial⟩, by simp_all⟩
  · have : j = l.length := by omega
    subst this
    rw [← hp]; simp [idxF, pack, iv]

theorem c95 (E : Env) (S : Ents) (l : List MainG) (v : Value) (hv : SlV S v l) (hmax : l.length ≤ 17592186044416) : CallW Tryz.prog E 95 #[v] S fun r S' => r = .bool (mainsR l) ∧ S' = S := by
  have hv0 := hv
  obtain ⟨a, cap, rfl, _, hr⟩ := hv
  have := SlI.mk hr
  refine call_in (args := [.slice a l.length cap]) Tryz.func95 (by decide) rfl rfl ?_
  repeat' first|(refine gX ?_;first|refine o_v rfl rfl ?_|(refine o_splitD rfl rfl rfl ?_ ?_<;>intro h)|(refine o_split rfl rfl rfl ?_ ?_<;>intro h<;>fail_if_success exact Bool.noConfusion h)|(refine gL ?_;first|refine o_load rfl rfl rfl rfl ?_|refine o_loadR rfl rfl rfl (by omega) rfl rfl ?_|refine o_loadW rfl rfl rfl rfl ?_|refine o_loadK rfl rfl rfl ?_)|(refine gF ?_;first|refine o_fieldI rfl rfl rfl rfl ?_|refine o_field rfl rfl rfl rfl ?_)|(refine gB ?_;first|refine o_add rfl rfl rfl rfl (by omega) ?_|refine o_sub rfl rfl rfl rfl (by omega) ?_|refine o_eqNil rfl rfl rfl rfl rfl ?_)|(refine gI ?_;first|refine o_indexS rfl rfl rfl rfl rfl rfl (by omega) ?_|refine o_index rfl rfl rfl rfl rfl (by omega) ?_)|(refine gS ?_;first|refine o_store rfl rfl rfl rfl rfl rfl ?_|refine o_storeW rfl rfl rfl rfl rfl rfl ?_)|(refine o_allocZ rfl rfl ?_;intro _)|(refine o_box rfl rfl rfl ?_;intro _)|refine o_skip rfl rfl ?_|refine o_skipN rfl rfl ?_|refine o_iface rfl rfl rfl ?_|refine o_build rfl rfl rfl rfl rfl ?_|(refine o_bslice rfl rfl rfl rfl rfl rfl rfl ?_;intro _)|(refine o_splitP rfl ?_ ?_<;>intro h<;>fail_if_success exact Bool.noConfusion h))|refine o_head0 rfl ?_|refine o_end ?_|refine o_head1 rfl ?_|refine wp_seq ?_|refine o_region ?_|refine wp_block ?_|refine wp_skip ?_|refine wp_exit ?_|(refine w_condD rfl ?_ ?_<;>intro h)|(refine w_cond rfl ?_ ?_<;>intro h<;>try exact Bool.noConfusion h)|refine w_ret (S) (vs:=[_]) rfl (Res.tmp rfl Res.nil) ?_|(show WP _ _ _ _ (.region 4 _ true) _ _ _ _;refine o_drawnZ [(0, false), (1, true), (2, false), (3, false), (4, false), (5, false), (6, false), (7, false), (8, false), (9, false), (10, false), (11, false), (12, false), (13, false), (14, false), (15, false), (16, false), (17, false), (18, false), (19, false), (20, false), (21, false), (22, false), (23, false), (24, false), (25, false), (26, true), (27, false), (28, false), (29, false)] [] mixed (by kernel_rfl) (List.nil_sublist _) ?_)
  refine wp_loop (fun i t ds S' => ∃ (j : Nat) (t0 : Tm), i = l.length - j ∧ j ≤ l.length ∧ [] = ds ∧ S = S' ∧ t = den [(7, .int .i64 j), (6, .int .i64 l.length), (5, .slice a l.length cap), (0, .slice a l.length cap)] t0 ∧ riseAt (·.id) (fun x => mainOk x && upOkR l x) l j = riseN (·.id) (fun x => mainOk x && upOkR l x) l)
    l.length ⟨0, _, rfl, Nat.zero_le _, rfl, rfl, keep ⟨rfl, rfl, rfl, rfl, trivial⟩, riseAt_zero⟩ ?_
  rintro i t ds S' ⟨j, t0, rfl, hj, rfl, rfl, rfl, hp⟩
  repeat' first|(refine gX ?_;first|refine o_v rfl rfl ?_|(refine o_splitD rfl rfl rfl ?_ ?_<;>intro h)|(refine o_split rfl rfl rfl ?_ ?_<;>intro h<;>fail_if_success exact Bool.noConfusion h)|(refine gL ?_;first|refine o_load rfl rfl rfl rfl ?_|refine o_loadR rfl rfl rfl (by omega) rfl rfl ?_|refine o_loadW rfl rfl rfl rfl ?_|refine o_loadK rfl rfl rfl ?_)|(refine gF ?_;first|refine o_fieldI rfl rfl rfl rfl ?_|refine o_field rfl rfl rfl rfl ?_)|(refine gB ?_;first|refine o_add rfl rfl rfl rfl (by omega) ?_|refine o_sub rfl rfl rfl rfl (by omega) ?_|refine o_eqNil rfl rfl rfl rfl rfl ?_)|(refine gC ?_;first|refine o_callF rfl rfl rfl (c62 _ _ l[j]) ?_|refine o_callF rfl rfl rfl (c91 _ _ l _ _ (hv0.sub Sb.h) hmax) ?_)|(refine gI ?_;first|refine o_indexZ (j - 1) rfl rfl rfl rfl rfl rfl (by omega) (by omega) ?_|refine o_indexS rfl rfl rfl rfl rfl rfl (by omega) ?_|refine o_index rfl rfl rfl rfl rfl (by omega) ?_)|(refine gS ?_;first|refine o_store rfl rfl rfl rfl rfl rfl ?_|refine o_storeW rfl rfl rfl rfl rfl rfl ?_)|(refine o_allocZ rfl rfl ?_;intro _)|(refine o_box rfl rfl rfl ?_;intro _)|refine o_skip rfl rfl ?_|refine o_skipN rfl rfl ?_|refine o_iface rfl rfl rfl ?_|refine o_build rfl rfl rfl rfl rfl ?_|(refine o_bslice rfl rfl rfl rfl rfl rfl rfl ?_;intro _)|(refine o_splitP rfl ?_ ?_<;>intro h<;>fail_if_success exact Bool.noConfusion h))|refine o_head0 rfl ?_|refine o_end ?_|refine o_head1 rfl ?_|refine wp_seq ?_|refine o_region ?_|refine wp_block ?_|refine wp_skip ?_|refine wp_exit ?_|(refine w_condD rfl ?_ ?_<;>intro h)|(refine w_cond rfl ?_ ?_<;>intro h<;>try exact Bool.noConfusion h)|refine w_ret (S) (vs:=[_]) rfl (Res.tmp rfl Res.nil) ?_|(show WP _ _ _ _ (.region 4 _ true) _ _ _ _;refine o_drawnZ [(0, false), (1, true), (2, false), (3, false), (4, false), (5, false), (6, false), (7, false), (8, false), (9, false), (10, false), (11, false), (12, false), (13, false), (14, false), (15, false), (16, false), (17, false), (18, false), (19, false), (20, false), (21, false), (22, false), (23, false), (24, false), (25, false), (26, true), (27, false), (28, false), (29, false)] [] mixed (by kernel_rfl) (List.nil_sublist _) ?_)
  all_goals first
    | (refine ⟨?_, rfl⟩
       have hbad : riseN (·.id) (fun x => mainOk x && upOkR l x) l = false := by
        first
          | exact riseAt_bad1 (key := (·.id)) (ok := (fun x => mainOk x && upOkR l x)) (l := l) (j := j) (by omega) (by omega) (by first | omega | (dsimp only; omega)) hp
          | exact riseAt_bad2 (key := (·.id)) (ok := (fun x => mainOk x && upOkR l x)) (l := l) (j := j) (by omega) (and_right_false (decide_eq_false (by unfold placeF; omega))) hp
          | exact riseAt_bad2 (key := (·.id)) (ok := (fun x => mainOk x && upOkR l x)) (l := l) (j := j) (by omega) (by clear hp; simp_all [placeOk, upOkR, placeF] <;> omega) hp
       simp [mainsR, hbad, pack]; done)
    | exact ⟨l.length - (j + 1), by omega, _, Sb.h, j + 1, _, rfl, by omega, rfl, rfl, keep ⟨rfl, rfl, rfl, rfl, trivial⟩, riseAt_next (key := (·.id)) (ok := (fun x => mainOk x && upOkR l x)) (l := l) (j := j) (by omega) (fun h0 => by first | omega | (dsimp only; omega)) (by clear hp; simp_all [placeOk, upOkR, placeF] <;> omega) hp⟩
    | skip
  have hj' : j = l.length := by omega
  subst hj'
  rw [riseAt_end] at hp
  refine ⟨?_, rfl⟩
  have e1 := hp.symm
  clear hp
  simp [mainsR, e1, pack]; omega

theorem c28R (E : Env) (S : Ents) (n : NetG) (a b c d e : Value) (hn : NetV S a b c d e n) : CallW Tryz.prog E 28 #[.agg #[a, b, c, d, e]] S fun r S' => r = iv (if validR n = true then 0 else 74) ∧ S' = S := by
  have hn0 := hn
  obtain ⟨⟨qm, cm, rfl, hm1, hm2⟩, ⟨qu, cu, rfl, hu1, hu2⟩, ⟨qr, cr, rfl, hr1, hr2⟩, ⟨qf, cf, rfl, hf1, hf2⟩, ⟨qp, cp, rfl, hp1, hp2⟩, lm, lu, lr, lf, lp⟩ := hn
  have := SlI.mk hm2
  have := SlI.mk hu2
  have := SlI.mk hr2
  have := SlI.mk hf2
  have := SlI.mk hp2
  clear hm2 hu2 hr2 hf2 hp2
  refine call_in (args := [.agg #[.slice qm n.mains.length cm, .slice qu n.uses.length cu, .slice qr n.readings.length cr, .slice qf n.faults.length cf, .slice qp n.prices.length cp]]) Tryz.func28 (by decide) rfl rfl ?_
  repeat' first|(refine gX ?_;first|refine o_v rfl rfl ?_|(refine o_splitD rfl rfl rfl ?_ ?_<;>intro h)|(refine o_split rfl rfl rfl ?_ ?_<;>intro h<;>fail_if_success exact Bool.noConfusion h)|(refine gL ?_;first|refine o_load rfl rfl rfl rfl ?_|refine o_loadR rfl rfl rfl (by omega) rfl rfl ?_|refine o_loadW rfl rfl rfl rfl ?_|refine o_loadK rfl rfl rfl ?_)|(refine gF ?_;first|refine o_fieldI rfl rfl rfl rfl ?_|refine o_field rfl rfl rfl rfl ?_)|(refine gB ?_;first|refine o_add rfl rfl rfl rfl (by omega) ?_|refine o_sub rfl rfl rfl rfl (by omega) ?_|refine o_eqNil rfl rfl rfl rfl rfl ?_)|(refine gC ?_;first|refine o_callF rfl rfl rfl (c95 _ _ n.mains _ (hn0.mains.sub Sb.h) lm) ?_)|(refine gI ?_;first|refine o_indexS rfl rfl rfl rfl rfl rfl (by omega) ?_|refine o_index rfl rfl rfl rfl rfl (by omega) ?_)|(refine gS ?_;first|refine o_store rfl rfl rfl rfl rfl rfl ?_|refine o_storeW rfl rfl rfl rfl rfl rfl ?_)|(refine o_allocZ rfl rfl ?_;intro _)|(refine o_box rfl rfl rfl ?_;intro _)|refine o_skip rfl rfl ?_|refine o_skipN rfl rfl ?_|refine o_iface rfl rfl rfl ?_|refine o_build rfl rfl rfl rfl rfl ?_|(refine o_bslice rfl rfl rfl rfl rfl rfl rfl ?_;intro _)|(refine o_splitP rfl ?_ ?_<;>intro h<;>fail_if_success exact Bool.noConfusion h))|refine o_head0 rfl ?_|refine o_end ?_|refine o_head1 rfl ?_|refine wp_seq ?_|refine o_region ?_|refine wp_block ?_|refine wp_skip ?_|refine wp_exit ?_|(refine w_condD rfl ?_ ?_<;>intro h)|(refine w_cond rfl ?_ ?_<;>intro h<;>try exact Bool.noConfusion h)|refine w_ret (S) (vs:=[_]) rfl (Res.tmp rfl Res.nil) ?_|(show WP _ _ _ _ (.region 6 _ true) _ _ _ _;refine o_drawnZ [(0, false), (1, true), (2, false), (3, false), (4, false), (5, false), (6, false), (7, false), (8, true), (9, false), (10, false), (11, false), (12, false), (13, false), (14, false), (15, false), (16, false), (17, false), (18, false), (19, false), (20, false), (21, false), (22, false), (23, false), (24, false), (25, false), (26, false)] [] mixed (by kernel_rfl) (List.nil_sublist _) ?_)|(show WP _ _ _ _ (.region 12 _ true) _ _ _ _;refine o_drawnZ [(0, false), (1, true), (2, false), (3, false), (4, false), (5, false), (6, false), (7, false), (8, true), (9, false), (10, false), (11, false), (12, false), (13, false), (14, false), (15, false), (16, false), (17, false), (18, false), (19, false), (20, false), (21, false), (22, false), (23, false), (24, false), (25, false), (26, false)] [] mixed (by kernel_rfl) (List.nil_sublist _) ?_)|(show WP _ _ _ _ (.region 18 _ true) _ _ _ _;refine o_drawnZ [(0, false), (1, true), (2, false), (3, false), (4, false), (5, false), (6, false), (7, false), (8, true), (9, false), (10, false), (11, false), (12, false), (13, false), (14, false), (15, false), (16, false), (17, false), (18, false), (19, false), (20, false), (21, false), (22, false), (23, false), (24, false), (25, false), (26, false)] [] mixed (by kernel_rfl) (List.nil_sublist _) ?_)|(show WP _ _ _ _ (.region 24 _ true) _ _ _ _;refine o_drawnZ [(0, false), (1, true), (2, false), (3, false), (4, false), (5, false), (6, false), (7, false), (8, false), (9, false), (10, false), (11, false), (12, false), (13, false), (14, false), (15, false), (16, false), (17, false), (18, false)] [] mixed (by kernel_rfl) (List.nil_sublist _) ?_)
  all_goals try (refine ⟨?_, rfl⟩; first | (have hx : ¬ n.uses.length ≤ 60 := (by omega); simp [validR, hx, pack, iv]; done) | (have hx : ¬ n.readings.length ≤ 60 := (by omega); simp [validR, hx, pack, iv]; done) | (have hx : ¬ n.faults.length ≤ 60 := (by omega); simp [validR, hx, pack, iv]; done) | (have hx : ¬ n.prices.length ≤ 10 := (by omega); simp [validR, hx, pack, iv]; done) | (simp_all [validR, pack, iv]; done))
  rename_i bx g1 g2 g3 g4
  simp only [Bool.not_eq_false'] at g1
  refine wp_loop (fun i t ds S' => ∃ (j : Nat) (t0 : Tm), i = n.uses.length - j ∧ j ≤ n.uses.length ∧ [] = ds ∧ ⟨bx, true, .cells #[.slice qm n.mains.length cm, .slice qu n.uses.length cu, .slice qr n.readings.length cr, .slice qf n.faults.length cf, .slice qp n.prices.length cp] 28 (0, 0)⟩ :: S = S' ∧ t = den [(42, .int .i64 j), (41, .int .i64 n.uses.length), (40, .slice qu n.uses.length cu), (1, .pointer (some ⟨bx, 0, none⟩))] t0 ∧ riseAt (·.source) (fun x => useOk x && placeOk n x.main) n.uses j = riseN (·.source) (fun x => useOk x && placeOk n x.main) n.uses)
    n.uses.length ⟨0, _, rfl, Nat.zero_le _, rfl, rfl, keep ⟨rfl, rfl, rfl, rfl, trivial⟩, riseAt_zero⟩ ?_
  rintro i t ds S' ⟨j, t0, rfl, hj, rfl, rfl, rfl, hpu⟩
  repeat' first|(refine gX ?_;first|refine o_v rfl rfl ?_|(refine o_splitD rfl rfl rfl ?_ ?_<;>intro h)|(refine o_split rfl rfl rfl ?_ ?_<;>intro h<;>fail_if_success exact Bool.noConfusion h)|(refine gL ?_;first|refine o_load rfl rfl rfl rfl ?_|refine o_loadR rfl rfl rfl (by omega) rfl rfl ?_|refine o_loadW rfl rfl rfl rfl ?_|refine o_loadK rfl rfl rfl ?_)|(refine gF ?_;first|refine o_fieldI rfl rfl rfl rfl ?_|refine o_field rfl rfl rfl rfl ?_)|(refine gB ?_;first|refine o_add rfl rfl rfl rfl (by omega) ?_|refine o_sub rfl rfl rfl rfl (by omega) ?_|refine o_eqNil rfl rfl rfl rfl rfl ?_)|(refine gC ?_;first|refine o_callF rfl rfl rfl (c64 _ _ n.uses[j]) ?_|refine o_callF rfl rfl rfl (c91 _ _ n.mains _ _ (hn0.mains.sub Sb.h) lm) ?_)|(refine gI ?_;first|refine o_indexZ (j - 1) rfl rfl rfl rfl rfl rfl (by omega) (by omega) ?_|refine o_indexS rfl rfl rfl rfl rfl rfl (by omega) ?_|refine o_index rfl rfl rfl rfl rfl (by omega) ?_)|(refine gS ?_;first|refine o_store rfl rfl rfl rfl rfl rfl ?_|refine o_storeW rfl rfl rfl rfl rfl rfl ?_)|(refine o_allocZ rfl rfl ?_;intro _)|(refine o_box rfl rfl rfl ?_;intro _)|refine o_skip rfl rfl ?_|refine o_skipN rfl rfl ?_|refine o_iface rfl rfl rfl ?_|refine o_build rfl rfl rfl rfl rfl ?_|(refine o_bslice rfl rfl rfl rfl rfl rfl rfl ?_;intro _)|(refine o_splitP rfl ?_ ?_<;>intro h<;>fail_if_success exact Bool.noConfusion h))|refine o_head0 rfl ?_|refine o_end ?_|refine o_head1 rfl ?_|refine wp_seq ?_|refine o_region ?_|refine wp_block ?_|refine wp_skip ?_|refine wp_exit ?_|(refine w_condD rfl ?_ ?_<;>intro h)|(refine w_cond rfl ?_ ?_<;>intro h<;>try exact Bool.noConfusion h)|refine w_ret (S) (vs:=[_]) rfl (Res.tmp rfl Res.nil) ?_|(show WP _ _ _ _ (.region 6 _ true) _ _ _ _;refine o_drawnZ [(0, false), (1, true), (2, false), (3, false), (4, false), (5, false), (6, false), (7, false), (8, true), (9, false), (10, false), (11, false), (12, false), (13, false), (14, false), (15, false), (16, false), (17, false), (18, false), (19, false), (20, false), (21, false), (22, false), (23, false), (24, false), (25, false), (26, false)] [] mixed (by kernel_rfl) (List.nil_sublist _) ?_)|(show WP _ _ _ _ (.region 12 _ true) _ _ _ _;refine o_drawnZ [(0, false), (1, true), (2, false), (3, false), (4, false), (5, false), (6, false), (7, false), (8, true), (9, false), (10, false), (11, false), (12, false), (13, false), (14, false), (15, false), (16, false), (17, false), (18, false), (19, false), (20, false), (21, false), (22, false), (23, false), (24, false), (25, false), (26, false)] [] mixed (by kernel_rfl) (List.nil_sublist _) ?_)|(show WP _ _ _ _ (.region 18 _ true) _ _ _ _;refine o_drawnZ [(0, false), (1, true), (2, false), (3, false), (4, false), (5, false), (6, false), (7, false), (8, true), (9, false), (10, false), (11, false), (12, false), (13, false), (14, false), (15, false), (16, false), (17, false), (18, false), (19, false), (20, false), (21, false), (22, false), (23, false), (24, false), (25, false), (26, false)] [] mixed (by kernel_rfl) (List.nil_sublist _) ?_)|(show WP _ _ _ _ (.region 24 _ true) _ _ _ _;refine o_drawnZ [(0, false), (1, true), (2, false), (3, false), (4, false), (5, false), (6, false), (7, false), (8, false), (9, false), (10, false), (11, false), (12, false), (13, false), (14, false), (15, false), (16, false), (17, false), (18, false)] [] mixed (by kernel_rfl) (List.nil_sublist _) ?_)
  all_goals first
    | (refine ⟨?_, rfl⟩
       have hbad : riseN (·.source) (fun x => useOk x && placeOk n x.main) n.uses = false := by
        first
          | exact riseAt_bad1 (key := (·.source)) (ok := (fun x => useOk x && placeOk n x.main)) (l := n.uses) (j := j) (by omega) (by omega) (by first | omega | (dsimp only; omega)) hpu
          | exact riseAt_bad2 (key := (·.source)) (ok := (fun x => useOk x && placeOk n x.main)) (l := n.uses) (j := j) (by omega) (and_right_false (decide_eq_false (by unfold placeF; omega))) hpu
          | exact riseAt_bad2 (key := (·.source)) (ok := (fun x => useOk x && placeOk n x.main)) (l := n.uses) (j := j) (by omega) (by clear hpu; simp_all [placeOk, upOkR, placeF] <;> omega) hpu
       simp [validR, hbad, pack, iv]; done)
    | exact ⟨n.uses.length - (j + 1), by omega, _, Sb.h, j + 1, _, rfl, by omega, rfl, rfl, keep ⟨rfl, rfl, rfl, rfl, trivial⟩, riseAt_next (key := (·.source)) (ok := (fun x => useOk x && placeOk n x.main)) (l := n.uses) (j := j) (by omega) (fun h0 => by first | omega | (dsimp only; omega)) (by clear hpu; simp_all [placeOk, upOkR, placeF] <;> omega) hpu⟩
    | skip
  have hj' : j = n.uses.length := by omega
  subst hj'
  rw [riseAt_end] at hpu
  replace hpu := hpu.symm
  clear hj
  refine wp_loop (fun i t ds S' => ∃ (j : Nat) (t0 : Tm), i = n.readings.length - j ∧ j ≤ n.readings.length ∧ [] = ds ∧ ⟨bx, true, .cells #[.slice qm n.mains.length cm, .slice qu n.uses.length cu, .slice qr n.readings.length cr, .slice qf n.faults.length cf, .slice qp n.prices.length cp] 28 (0, 0)⟩ :: S = S' ∧ t = den [(78, .int .i64 j), (77, .int .i64 n.readings.length), (76, .slice qr n.readings.length cr), (1, .pointer (some ⟨bx, 0, none⟩))] t0 ∧ riseAt (·.source) (fun x => readOk x && placeOk n x.main) n.readings j = riseN (·.source) (fun x => readOk x && placeOk n x.main) n.readings)
    n.readings.length ⟨0, _, rfl, Nat.zero_le _, rfl, rfl, keep ⟨rfl, rfl, rfl, rfl, trivial⟩, riseAt_zero⟩ ?_
  rintro i t ds S' ⟨j, t0, rfl, hj, rfl, rfl, rfl, hpr⟩
  repeat' first|(refine gX ?_;first|refine o_v rfl rfl ?_|(refine o_splitD rfl rfl rfl ?_ ?_<;>intro h)|(refine o_split rfl rfl rfl ?_ ?_<;>intro h<;>fail_if_success exact Bool.noConfusion h)|(refine gL ?_;first|refine o_load rfl rfl rfl rfl ?_|refine o_loadR rfl rfl rfl (by omega) rfl rfl ?_|refine o_loadW rfl rfl rfl rfl ?_|refine o_loadK rfl rfl rfl ?_)|(refine gF ?_;first|refine o_fieldI rfl rfl rfl rfl ?_|refine o_field rfl rfl rfl rfl ?_)|(refine gB ?_;first|refine o_add rfl rfl rfl rfl (by omega) ?_|refine o_sub rfl rfl rfl rfl (by omega) ?_|refine o_eqNil rfl rfl rfl rfl rfl ?_)|(refine gC ?_;first|refine o_callF rfl rfl rfl (c66 _ _ n.readings[j]) ?_|refine o_callF rfl rfl rfl (c91 _ _ n.mains _ _ (hn0.mains.sub Sb.h) lm) ?_)|(refine gI ?_;first|refine o_indexZ (j - 1) rfl rfl rfl rfl rfl rfl (by omega) (by omega) ?_|refine o_indexS rfl rfl rfl rfl rfl rfl (by omega) ?_|refine o_index rfl rfl rfl rfl rfl (by omega) ?_)|(refine gS ?_;first|refine o_store rfl rfl rfl rfl rfl rfl ?_|refine o_storeW rfl rfl rfl rfl rfl rfl ?_)|(refine o_allocZ rfl rfl ?_;intro _)|(refine o_box rfl rfl rfl ?_;intro _)|refine o_skip rfl rfl ?_|refine o_skipN rfl rfl ?_|refine o_iface rfl rfl rfl ?_|refine o_build rfl rfl rfl rfl rfl ?_|(refine o_bslice rfl rfl rfl rfl rfl rfl rfl ?_;intro _)|(refine o_splitP rfl ?_ ?_<;>intro h<;>fail_if_success exact Bool.noConfusion h))|refine o_head0 rfl ?_|refine o_end ?_|refine o_head1 rfl ?_|refine wp_seq ?_|refine o_region ?_|refine wp_block ?_|refine wp_skip ?_|refine wp_exit ?_|(refine w_condD rfl ?_ ?_<;>intro h)|(refine w_cond rfl ?_ ?_<;>intro h<;>try exact Bool.noConfusion h)|refine w_ret (S) (vs:=[_]) rfl (Res.tmp rfl Res.nil) ?_|(show WP _ _ _ _ (.region 6 _ true) _ _ _ _;refine o_drawnZ [(0, false), (1, true), (2, false), (3, false), (4, false), (5, false), (6, false), (7, false), (8, true), (9, false), (10, false), (11, false), (12, false), (13, false), (14, false), (15, false), (16, false), (17, false), (18, false), (19, false), (20, false), (21, false), (22, false), (23, false), (24, false), (25, false), (26, false)] [] mixed (by kernel_rfl) (List.nil_sublist _) ?_)|(show WP _ _ _ _ (.region 12 _ true) _ _ _ _;refine o_drawnZ [(0, false), (1, true), (2, false), (3, false), (4, false), (5, false), (6, false), (7, false), (8, true), (9, false), (10, false), (11, false), (12, false), (13, false), (14, false), (15, false), (16, false), (17, false), (18, false), (19, false), (20, false), (21, false), (22, false), (23, false), (24, false), (25, false), (26, false)] [] mixed (by kernel_rfl) (List.nil_sublist _) ?_)|(show WP _ _ _ _ (.region 18 _ true) _ _ _ _;refine o_drawnZ [(0, false), (1, true), (2, false), (3, false), (4, false), (5, false), (6, false), (7, false), (8, true), (9, false), (10, false), (11, false), (12, false), (13, false), (14, false), (15, false), (16, false), (17, false), (18, false), (19, false), (20, false), (21, false), (22, false), (23, false), (24, false), (25, false), (26, false)] [] mixed (by kernel_rfl) (List.nil_sublist _) ?_)|(show WP _ _ _ _ (.region 24 _ true) _ _ _ _;refine o_drawnZ [(0, false), (1, true), (2, false), (3, false), (4, false), (5, false), (6, false), (7, false), (8, false), (9, false), (10, false), (11, false), (12, false), (13, false), (14, false), (15, false), (16, false), (17, false), (18, false)] [] mixed (by kernel_rfl) (List.nil_sublist _) ?_)
  all_goals first
    | (refine ⟨?_, rfl⟩
       have hbad : riseN (·.source) (fun x => readOk x && placeOk n x.main) n.readings = false := by
        first
          | exact riseAt_bad1 (key := (·.source)) (ok := (fun x => readOk x && placeOk n x.main)) (l := n.readings) (j := j) (by omega) (by omega) (by first | omega | (dsimp only; omega)) hpr
          | exact riseAt_bad2 (key := (·.source)) (ok := (fun x => readOk x && placeOk n x.main)) (l := n.readings) (j := j) (by omega) (and_right_false (decide_eq_false (by unfold placeF; omega))) hpr
          | exact riseAt_bad2 (key := (·.source)) (ok := (fun x => readOk x && placeOk n x.main)) (l := n.readings) (j := j) (by omega) (by clear hpr; simp_all [placeOk, upOkR, placeF] <;> omega) hpr
       simp [validR, hbad, pack, iv]; done)
    | exact ⟨n.readings.length - (j + 1), by omega, _, Sb.h, j + 1, _, rfl, by omega, rfl, rfl, keep ⟨rfl, rfl, rfl, rfl, trivial⟩, riseAt_next (key := (·.source)) (ok := (fun x => readOk x && placeOk n x.main)) (l := n.readings) (j := j) (by omega) (fun h0 => by first | omega | (dsimp only; omega)) (by clear hpr; simp_all [placeOk, upOkR, placeF] <;> omega) hpr⟩
    | skip
  have hj' : j = n.readings.length := by omega
  subst hj'
  rw [riseAt_end] at hpr
  replace hpr := hpr.symm
  clear hj
  refine wp_loop (fun i t ds S' => ∃ (j : Nat) (t0 : Tm), i = n.faults.length - j ∧ j ≤ n.faults.length ∧ [] = ds ∧ ⟨bx, true, .cells #[.slice qm n.mains.length cm, .slice qu n.uses.length cu, .slice qr n.readings.length cr, .slice qf n.faults.length cf, .slice qp n.prices.length cp] 28 (0, 0)⟩ :: S = S' ∧ t = den [(114, .int .i64 j), (113, .int .i64 n.faults.length), (112, .slice qf n.faults.length cf), (1, .pointer (some ⟨bx, 0, none⟩))] t0 ∧ riseAt (·.source) (fun x => faultOk x && placeOk n x.main) n.faults j = riseN (·.source) (fun x => faultOk x && placeOk n x.main) n.faults)
    n.faults.length ⟨0, _, rfl, Nat.zero_le _, rfl, rfl, keep ⟨rfl, rfl, rfl, rfl, trivial⟩, riseAt_zero⟩ ?_
  rintro i t ds S' ⟨j, t0, rfl, hj, rfl, rfl, rfl, hpf⟩
  repeat' first|(refine gX ?_;first|refine o_v rfl rfl ?_|(refine o_splitD rfl rfl rfl ?_ ?_<;>intro h)|(refine o_split rfl rfl rfl ?_ ?_<;>intro h<;>fail_if_success exact Bool.noConfusion h)|(refine gL ?_;first|refine o_load rfl rfl rfl rfl ?_|refine o_loadR rfl rfl rfl (by omega) rfl rfl ?_|refine o_loadW rfl rfl rfl rfl ?_|refine o_loadK rfl rfl rfl ?_)|(refine gF ?_;first|refine o_fieldI rfl rfl rfl rfl ?_|refine o_field rfl rfl rfl rfl ?_)|(refine gB ?_;first|refine o_add rfl rfl rfl rfl (by omega) ?_|refine o_sub rfl rfl rfl rfl (by omega) ?_|refine o_eqNil rfl rfl rfl rfl rfl ?_)|(refine gC ?_;first|refine o_callF rfl rfl rfl (c68 _ _ n.faults[j]) ?_|refine o_callF rfl rfl rfl (c91 _ _ n.mains _ _ (hn0.mains.sub Sb.h) lm) ?_)|(refine gI ?_;first|refine o_indexZ (j - 1) rfl rfl rfl rfl rfl rfl (by omega) (by omega) ?_|refine o_indexS rfl rfl rfl rfl rfl rfl (by omega) ?_|refine o_index rfl rfl rfl rfl rfl (by omega) ?_)|(refine gS ?_;first|refine o_store rfl rfl rfl rfl rfl rfl ?_|refine o_storeW rfl rfl rfl rfl rfl rfl ?_)|(refine o_allocZ rfl rfl ?_;intro _)|(refine o_box rfl rfl rfl ?_;intro _)|refine o_skip rfl rfl ?_|refine o_skipN rfl rfl ?_|refine o_iface rfl rfl rfl ?_|refine o_build rfl rfl rfl rfl rfl ?_|(refine o_bslice rfl rfl rfl rfl rfl rfl rfl ?_;intro _)|(refine o_splitP rfl ?_ ?_<;>intro h<;>fail_if_success exact Bool.noConfusion h))|refine o_head0 rfl ?_|refine o_end ?_|refine o_head1 rfl ?_|refine wp_seq ?_|refine o_region ?_|refine wp_block ?_|refine wp_skip ?_|refine wp_exit ?_|(refine w_condD rfl ?_ ?_<;>intro h)|(refine w_cond rfl ?_ ?_<;>intro h<;>try exact Bool.noConfusion h)|refine w_ret (S) (vs:=[_]) rfl (Res.tmp rfl Res.nil) ?_|(show WP _ _ _ _ (.region 6 _ true) _ _ _ _;refine o_drawnZ [(0, false), (1, true), (2, false), (3, false), (4, false), (5, false), (6, false), (7, false), (8, true), (9, false), (10, false), (11, false), (12, false), (13, false), (14, false), (15, false), (16, false), (17, false), (18, false), (19, false), (20, false), (21, false), (22, false), (23, false), (24, false), (25, false), (26, false)] [] mixed (by kernel_rfl) (List.nil_sublist _) ?_)|(show WP _ _ _ _ (.region 12 _ true) _ _ _ _;refine o_drawnZ [(0, false), (1, true), (2, false), (3, false), (4, false), (5, false), (6, false), (7, false), (8, true), (9, false), (10, false), (11, false), (12, false), (13, false), (14, false), (15, false), (16, false), (17, false), (18, false), (19, false), (20, false), (21, false), (22, false), (23, false), (24, false), (25, false), (26, false)] [] mixed (by kernel_rfl) (List.nil_sublist _) ?_)|(show WP _ _ _ _ (.region 18 _ true) _ _ _ _;refine o_drawnZ [(0, false), (1, true), (2, false), (3, false), (4, false), (5, false), (6, false), (7, false), (8, true), (9, false), (10, false), (11, false), (12, false), (13, false), (14, false), (15, false), (16, false), (17, false), (18, false), (19, false), (20, false), (21, false), (22, false), (23, false), (24, false), (25, false), (26, false)] [] mixed (by kernel_rfl) (List.nil_sublist _) ?_)|(show WP _ _ _ _ (.region 24 _ true) _ _ _ _;refine o_drawnZ [(0, false), (1, true), (2, false), (3, false), (4, false), (5, false), (6, false), (7, false), (8, false), (9, false), (10, false), (11, false), (12, false), (13, false), (14, false), (15, false), (16, false), (17, false), (18, false)] [] mixed (by kernel_rfl) (List.nil_sublist _) ?_)
  all_goals first
    | (refine ⟨?_, rfl⟩
       have hbad : riseN (·.source) (fun x => faultOk x && placeOk n x.main) n.faults = false := by
        first
          | exact riseAt_bad1 (key := (·.source)) (ok := (fun x => faultOk x && placeOk n x.main)) (l := n.faults) (j := j) (by omega) (by omega) (by first | omega | (dsimp only; omega)) hpf
          | exact riseAt_bad2 (key := (·.source)) (ok := (fun x => faultOk x && placeOk n x.main)) (l := n.faults) (j := j) (by omega) (and_right_false (decide_eq_false (by unfold placeF; omega))) hpf
          | exact riseAt_bad2 (key := (·.source)) (ok := (fun x => faultOk x && placeOk n x.main)) (l := n.faults) (j := j) (by omega) (by clear hpf; simp_all [placeOk, upOkR, placeF] <;> omega) hpf
       simp [validR, hbad, pack, iv]; done)
    | exact ⟨n.faults.length - (j + 1), by omega, _, Sb.h, j + 1, _, rfl, by omega, rfl, rfl, keep ⟨rfl, rfl, rfl, rfl, trivial⟩, riseAt_next (key := (·.source)) (ok := (fun x => faultOk x && placeOk n x.main)) (l := n.faults) (j := j) (by omega) (fun h0 => by first | omega | (dsimp only; omega)) (by clear hpf; simp_all [placeOk, upOkR, placeF] <;> omega) hpf⟩
    | skip
  have hj' : j = n.faults.length := by omega
  subst hj'
  rw [riseAt_end] at hpf
  replace hpf := hpf.symm
  clear hj
  refine wp_loop (fun i t ds S' => ∃ (j : Nat) (t0 : Tm), i = n.prices.length - j ∧ j ≤ n.prices.length ∧ [] = ds ∧ ⟨bx, true, .cells #[.slice qm n.mains.length cm, .slice qu n.uses.length cu, .slice qr n.readings.length cr, .slice qf n.faults.length cf, .slice qp n.prices.length cp] 28 (0, 0)⟩ :: S = S' ∧ t = den [(150, .int .i64 j), (149, .int .i64 n.prices.length), (148, .slice qp n.prices.length cp), (1, .pointer (some ⟨bx, 0, none⟩))] t0 ∧ riseAt (·.since) priceOk n.prices j = riseN (·.since) priceOk n.prices)
    n.prices.length ⟨0, _, rfl, Nat.zero_le _, rfl, rfl, keep ⟨rfl, rfl, rfl, rfl, trivial⟩, riseAt_zero⟩ ?_
  rintro i t ds S' ⟨j, t0, rfl, hj, rfl, rfl, rfl, hpp⟩
  repeat' first|(refine gX ?_;first|refine o_v rfl rfl ?_|(refine o_splitD rfl rfl rfl ?_ ?_<;>intro h)|(refine o_split rfl rfl rfl ?_ ?_<;>intro h<;>fail_if_success exact Bool.noConfusion h)|(refine gL ?_;first|refine o_load rfl rfl rfl rfl ?_|refine o_loadR rfl rfl rfl (by omega) rfl rfl ?_|refine o_loadW rfl rfl rfl rfl ?_|refine o_loadK rfl rfl rfl ?_)|(refine gF ?_;first|refine o_fieldI rfl rfl rfl rfl ?_|refine o_field rfl rfl rfl rfl ?_)|(refine gB ?_;first|refine o_add rfl rfl rfl rfl (by omega) ?_|refine o_sub rfl rfl rfl rfl (by omega) ?_|refine o_eqNil rfl rfl rfl rfl rfl ?_)|(refine gC ?_;first|refine o_callF rfl rfl rfl (c70 _ _ n.prices[j]) ?_|refine o_callF rfl rfl rfl (c91 _ _ n.mains _ _ (hn0.mains.sub Sb.h) lm) ?_)|(refine gI ?_;first|refine o_indexZ (j - 1) rfl rfl rfl rfl rfl rfl (by omega) (by omega) ?_|refine o_indexS rfl rfl rfl rfl rfl rfl (by omega) ?_|refine o_index rfl rfl rfl rfl rfl (by omega) ?_)|(refine gS ?_;first|refine o_store rfl rfl rfl rfl rfl rfl ?_|refine o_storeW rfl rfl rfl rfl rfl rfl ?_)|(refine o_allocZ rfl rfl ?_;intro _)|(refine o_box rfl rfl rfl ?_;intro _)|refine o_skip rfl rfl ?_|refine o_skipN rfl rfl ?_|refine o_iface rfl rfl rfl ?_|refine o_build rfl rfl rfl rfl rfl ?_|(refine o_bslice rfl rfl rfl rfl rfl rfl rfl ?_;intro _)|(refine o_splitP rfl ?_ ?_<;>intro h<;>fail_if_success exact Bool.noConfusion h))|refine o_head0 rfl ?_|refine o_end ?_|refine o_head1 rfl ?_|refine wp_seq ?_|refine o_region ?_|refine wp_block ?_|refine wp_skip ?_|refine wp_exit ?_|(refine w_condD rfl ?_ ?_<;>intro h)|(refine w_cond rfl ?_ ?_<;>intro h<;>try exact Bool.noConfusion h)|refine w_ret (S) (vs:=[_]) rfl (Res.tmp rfl Res.nil) ?_|(show WP _ _ _ _ (.region 6 _ true) _ _ _ _;refine o_drawnZ [(0, false), (1, true), (2, false), (3, false), (4, false), (5, false), (6, false), (7, false), (8, true), (9, false), (10, false), (11, false), (12, false), (13, false), (14, false), (15, false), (16, false), (17, false), (18, false), (19, false), (20, false), (21, false), (22, false), (23, false), (24, false), (25, false), (26, false)] [] mixed (by kernel_rfl) (List.nil_sublist _) ?_)|(show WP _ _ _ _ (.region 12 _ true) _ _ _ _;refine o_drawnZ [(0, false), (1, true), (2, false), (3, false), (4, false), (5, false), (6, false), (7, false), (8, true), (9, false), (10, false), (11, false), (12, false), (13, false), (14, false), (15, false), (16, false), (17, false), (18, false), (19, false), (20, false), (21, false), (22, false), (23, false), (24, false), (25, false), (26, false)] [] mixed (by kernel_rfl) (List.nil_sublist _) ?_)|(show WP _ _ _ _ (.region 18 _ true) _ _ _ _;refine o_drawnZ [(0, false), (1, true), (2, false), (3, false), (4, false), (5, false), (6, false), (7, false), (8, true), (9, false), (10, false), (11, false), (12, false), (13, false), (14, false), (15, false), (16, false), (17, false), (18, false), (19, false), (20, false), (21, false), (22, false), (23, false), (24, false), (25, false), (26, false)] [] mixed (by kernel_rfl) (List.nil_sublist _) ?_)|(show WP _ _ _ _ (.region 24 _ true) _ _ _ _;refine o_drawnZ [(0, false), (1, true), (2, false), (3, false), (4, false), (5, false), (6, false), (7, false), (8, false), (9, false), (10, false), (11, false), (12, false), (13, false), (14, false), (15, false), (16, false), (17, false), (18, false)] [] mixed (by kernel_rfl) (List.nil_sublist _) ?_)
  all_goals first
    | (refine ⟨?_, rfl⟩
       have hbad : riseN (·.since) priceOk n.prices = false := by
        first
          | exact riseAt_bad1 (key := (·.since)) (ok := priceOk) (l := n.prices) (j := j) (by omega) (by omega) (by first | omega | (dsimp only; omega)) hpp
          | exact riseAt_bad2 (key := (·.since)) (ok := priceOk) (l := n.prices) (j := j) (by omega) (and_right_false (decide_eq_false (by unfold placeF; omega))) hpp
          | exact riseAt_bad2 (key := (·.since)) (ok := priceOk) (l := n.prices) (j := j) (by omega) (by clear hpp; simp_all [placeOk, upOkR, placeF] <;> omega) hpp
       simp [validR, hbad, pack, iv]; done)
    | exact ⟨n.prices.length - (j + 1), by omega, _, Sb.h, j + 1, _, rfl, by omega, rfl, rfl, keep ⟨rfl, rfl, rfl, rfl, trivial⟩, riseAt_next (key := (·.since)) (ok := priceOk) (l := n.prices) (j := j) (by omega) (fun h0 => by first | omega | (dsimp only; omega)) (by clear hpp; simp_all [placeOk, upOkR, placeF] <;> omega) hpp⟩
    | skip
  have hj' : j = n.prices.length := by omega
  subst hj'
  rw [riseAt_end] at hpp
  replace hpp := hpp.symm
  clear hj
  refine ⟨?_, rfl⟩
  have e1 : decide (n.uses.length ≤ 60) = true := by simp; omega
  have e2 : decide (n.readings.length ≤ 60) = true := by simp; omega
  have e3 : decide (n.faults.length ≤ 60) = true := by simp; omega
  have e4 : decide (n.prices.length ≤ 10) = true := by simp; omega
  simp [validR, g1, e1, e2, e3, e4, hpu, hpr, hpf, hpp, pack, iv]

end Go.Proofs.YtpnnmklacialgaaGreat
namespace Go.Proofs.YtpnnmklacialgaaGreat
open Go.Conc
attribute [local irreducible] WP OpF OpX CallW SemH retQ

section
variable {α : Type} {key : α → Int} {a b : α → Bool}
theorem riseF_and : ∀ {l : List α} {was : Int}, riseF key (fun x => a x && b x) was l = (l.all a && riseF key b was l)
  | [], was => rfl
  | x :: l, was => by
    simp only [riseF, List.all_cons, riseF_and (l := l) (was := key x)]
    cases a x <;> cases b x <;> cases decide (was < key x) <;> simp
theorem riseN_and {l : List α} : riseN key (fun x => a x && b x) l = (l.all a && riseN key b l) := by
  cases l with
  | nil => rfl
  | cons x l =>
    simp only [riseN, List.all_cons, riseF_and]
    cases a x <;> cases b x <;> simp
theorem riseF_congr : ∀ {l : List α} {was : Int}, (∀ x ∈ l, a x = b x) → riseF key a was l = riseF key b was l
  | [], was, h => rfl
  | x :: l, was, h => by
    simp only [riseF, h x (.head _), riseF_congr (l := l) (was := key x) fun y hy => h y (.tail _ hy)]
theorem riseN_congr {l : List α} (h : ∀ x ∈ l, a x = b x) : riseN key a l = riseN key b l := by
  cases l with
  | nil => rfl
  | cons x l => simp only [riseN, h x (.head _), riseF_congr fun y hy => h y (.tail _ hy)]
theorem riseF_zero {l : List α} (h : ∀ x ∈ l, 0 < key x) : riseF key a 0 l = riseN key a l := by
  cases l with
  | nil => rfl
  | cons x l => simp [riseF, riseN, h x (.head _)]
end

theorem head_source {a b c d e : Int} (h : headOk a b c d e = true) : 0 < a := by
  simp only [headOk, Bool.and_eq_true, within_iff] at h
  omega
theorem valid_eq (n : NetG) : validR n = validB n := by
  have hm : ∀ x ∈ n.mains, mainOk x = true → upOkR n.mains x = upOk n x := fun x _ h => by
    simp only [mainOk, Bool.and_eq_true, within_iff] at h
    unfold upOkR upOk placeOk placeF
    congr 1
    rw [Bool.eq_iff_iff]
    simp; omega
  have hu : n.uses.all useOk = true → riseF (·.source) (fun x => placeOk n x.main) 0 n.uses = riseN (·.source) (fun x => placeOk n x.main) n.uses := fun h => riseF_zero fun x hx => by
    have := List.all_eq_true.1 h x hx
    simp only [useOk, Bool.and_eq_true] at this
    exact head_source this.1.1
  have hr : n.readings.all readOk = true → riseF (·.source) (fun x => placeOk n x.main) 0 n.readings = riseN (·.source) (fun x => placeOk n x.main) n.readings := fun h => riseF_zero fun x hx => by
    have := List.all_eq_true.1 h x hx
    simp only [readOk, Bool.and_eq_true] at this
    exact head_source this.1
  have hf : n.faults.all faultOk = true → riseF (·.source) (fun x => placeOk n x.main) 0 n.faults = riseN (·.source) (fun x => placeOk n x.main) n.faults := fun h => riseF_zero fun x hx => by
    have := List.all_eq_true.1 h x hx
    simp only [faultOk, Bool.and_eq_true] at this
    exact head_source this.1
  have hp : riseN (·.since) priceOk n.prices = (n.prices.all priceOk && riseN (·.since) (fun _ => true) n.prices) := by
    rw [← riseN_and]; simp
  have hmm : n.mains.all mainOk = true → riseN (·.id) (upOkR n.mains) n.mains = riseN (·.id) (upOk n) n.mains := fun h => riseN_congr fun x hx => hm x hx (List.all_eq_true.1 h x hx)
  unfold validR validB mainsR lenAll
  rw [riseN_and, riseN_and, riseN_and, riseN_and, hp]
  cases h1 : n.mains.all mainOk
  · simp
  cases h2 : n.uses.all useOk
  · simp
  cases h3 : n.readings.all readOk
  · simp
  cases h4 : n.faults.all faultOk
  · simp
  rw [hmm h1, hu h2, hr h3, hf h4]
  rw [Bool.eq_iff_iff]
  simp only [Bool.and_eq_true, Bool.true_and, Bool.and_true]
  constructor <;> (rintro h; simp_all)

def lookE (n : NetG) (period known : Int) : Int := if validB n = true then (if within period 0 999 = true then (if within known 0 100000 = true then 0 else 6) else 1) else 74
theorem c28 (E : Env) (S : Ents) (n : NetG) (a b c d e : Value) (hn : NetV S a b c d e n) : CallW Tryz.prog E 28 #[.agg #[a, b, c, d, e]] S fun r S' => r = iv (if validB n = true then 0 else 74) ∧ S' = S := by
  have := c28R E S n a b c d e hn
  rwa [valid_eq] at this
theorem c72 (E : Env) (S : Ents) (n : NetG) (a b c d e : Value) (period known : Int) (hn : NetV S a b c d e n) : CallW Tryz.prog E 72 #[.agg #[a, b, c, d, e], iv period, iv known] S fun r S' => r = iv (lookE n period known) ∧ S' = S := by
  refine call_in (args := [.agg #[a, b, c, d, e], iv period, iv known]) Tryz.func72 (by decide) rfl rfl ?_
  repeat' first|(refine gX ?_;first|refine o_v rfl rfl ?_|(refine o_splitD rfl rfl rfl ?_ ?_<;>intro h)|(refine o_split rfl rfl rfl ?_ ?_<;>intro h<;>fail_if_success exact Bool.noConfusion h)|(refine gL ?_;first|refine o_load rfl rfl rfl rfl ?_|refine o_loadR rfl rfl rfl (by omega) rfl rfl ?_|refine o_loadW rfl rfl rfl rfl ?_)|(refine gF ?_;first|refine o_fieldI rfl rfl rfl rfl ?_|refine o_field rfl rfl rfl rfl ?_)|(refine gB ?_;first|refine o_add rfl rfl rfl rfl (by omega) ?_|refine o_sub rfl rfl rfl rfl (by omega) ?_|refine o_eqNil rfl rfl rfl rfl rfl ?_)|(refine gC ?_;first|refine o_callF rfl rfl rfl (c71 _ _ n _ _ _ _ _ (hn.sub Sb.h)) ?_|refine o_callF rfl rfl rfl (c132 _ _ _) ?_|refine o_callF rfl rfl rfl (c143 _ _ _) ?_)|(refine gI ?_;first|refine o_indexS rfl rfl rfl rfl rfl rfl (by omega) ?_|refine o_index rfl rfl rfl rfl rfl (by omega) ?_)|(refine gS ?_;first|refine o_store rfl rfl rfl rfl rfl rfl ?_|refine o_storeW rfl rfl rfl rfl rfl rfl ?_)|(refine o_alloc rfl rfl ?_;intro _)|(refine o_box rfl rfl rfl ?_;intro _)|refine o_skip rfl rfl ?_|refine o_skipN rfl rfl ?_|refine o_iface rfl rfl rfl ?_|refine o_build rfl rfl rfl rfl rfl ?_|(refine o_bslice rfl rfl rfl rfl rfl rfl rfl ?_;intro _)|(refine o_splitP rfl ?_ ?_<;>intro h<;>fail_if_success exact Bool.noConfusion h))|refine o_head0 rfl ?_|refine o_end ?_|refine o_head1 rfl ?_|refine wp_seq ?_|refine o_region ?_|refine wp_block ?_|refine wp_skip ?_|refine wp_exit ?_|(refine w_condD rfl ?_ ?_<;>intro h)|(refine w_cond rfl ?_ ?_<;>intro h<;>try exact Bool.noConfusion h)|refine w_ret (S) (vs:=[_]) rfl (Res.tmp rfl Res.nil) ?_
  all_goals (refine ⟨?_, rfl⟩; unfold lookE; simp_all [pack, iv])
end Go.Proofs.YtpnnmklacialgaaGreat
namespace Go.Proofs.YtpnnmklacialgaaGreat
open Go.Conc
attribute [local irreducible] WP OpF OpX CallW SemH retQ

def askedE (n : NetG) (main period known : Int) : Int := if validB n = true then (if main ≠ 0 ∧ placeF n main < 0 then 70 else (if within period 0 999 = true then (if within known 0 100000 = true then 0 else 6) else 1)) else 74
theorem c85 (E : Env) (S : Ents) (n : NetG) (a b c d e : Value) (main period known : Int) (hn : NetV S a b c d e n) : CallW Tryz.prog E 85 #[.agg #[a, b, c, d, e], iv main, .agg #[iv period, iv known]] S fun r S' => r = iv (askedE n main period known) ∧ S' = S := by
  refine call_in (args := [.agg #[a, b, c, d, e], iv main, .agg #[iv period, iv known]]) Tryz.func85 (by decide) rfl rfl ?_
  repeat' first|(refine gX ?_;first|refine o_v rfl rfl ?_|(refine o_splitD rfl rfl rfl ?_ ?_<;>intro h)|(refine o_split rfl rfl rfl ?_ ?_<;>intro h<;>fail_if_success exact Bool.noConfusion h)|(refine gL ?_;first|refine o_load rfl rfl rfl rfl ?_|refine o_loadR rfl rfl rfl (by omega) rfl rfl ?_|refine o_loadW rfl rfl rfl rfl ?_|refine o_loadK rfl rfl rfl ?_)|(refine gF ?_;first|refine o_fieldI rfl rfl rfl rfl ?_|refine o_field rfl rfl rfl rfl ?_)|(refine gB ?_;first|refine o_add rfl rfl rfl rfl (by omega) ?_|refine o_sub rfl rfl rfl rfl (by omega) ?_|refine o_eqNil rfl rfl rfl rfl rfl ?_)|(refine gC ?_;first|refine o_callF rfl rfl rfl (c28 _ _ n _ _ _ _ _ (hn.sub Sb.h)) ?_|refine o_callF rfl rfl rfl (c91 _ _ n.mains _ _ (hn.mains.sub Sb.h) hn.mains_le) ?_|refine o_callF rfl rfl rfl (c29 _ _ _ _ _) ?_|refine o_callF rfl rfl rfl (c30 _ _ _) ?_)|(refine gI ?_;first|refine o_indexS rfl rfl rfl rfl rfl rfl (by omega) ?_|refine o_index rfl rfl rfl rfl rfl (by omega) ?_)|(refine gS ?_;first|refine o_store rfl rfl rfl rfl rfl rfl ?_|refine o_storeW rfl rfl rfl rfl rfl rfl ?_)|(refine o_allocZ rfl rfl ?_;intro _)|(refine o_box rfl rfl rfl ?_;intro _)|refine o_skip rfl rfl ?_|refine o_skipN rfl rfl ?_|refine o_iface rfl rfl rfl ?_|refine o_build rfl rfl rfl rfl rfl ?_|(refine o_bslice rfl rfl rfl rfl rfl rfl rfl ?_;intro _)|(refine o_splitP rfl ?_ ?_<;>intro h<;>fail_if_success exact Bool.noConfusion h))|refine o_head0 rfl ?_|refine o_end ?_|refine o_head1 rfl ?_|refine wp_seq ?_|refine o_region ?_|refine wp_block ?_|refine wp_skip ?_|refine wp_exit ?_|(refine w_condD rfl ?_ ?_<;>intro h)|(refine w_cond rfl ?_ ?_<;>intro h<;>try exact Bool.noConfusion h)|refine w_ret (S) (vs:=[_]) rfl (Res.tmp rfl Res.nil) ?_
  all_goals (refine ⟨?_, rfl⟩; unfold askedE placeF; simp_all [pack, iv]; try omega)
theorem c89 (E : Env) (S : Ents) (main : Int) : CallW Tryz.prog E 89 #[iv main] S fun r S' => r = iv (if main = 0 then -1 else main) ∧ S' = S := by
  refine call_in (args := [iv main]) Tryz.func89 (by decide) rfl rfl ?_
  repeat' first|(refine gX ?_;first|refine o_v rfl rfl ?_|(refine o_splitD rfl rfl rfl ?_ ?_<;>intro h)|(refine o_split rfl rfl rfl ?_ ?_<;>intro h<;>fail_if_success exact Bool.noConfusion h)|(refine gL ?_;first|refine o_load rfl rfl rfl rfl ?_|refine o_loadR rfl rfl rfl (by omega) rfl rfl ?_|refine o_loadW rfl rfl rfl rfl ?_|refine o_loadK rfl rfl rfl ?_)|(refine gF ?_;first|refine o_fieldI rfl rfl rfl rfl ?_|refine o_field rfl rfl rfl rfl ?_)|(refine gB ?_;first|refine o_add rfl rfl rfl rfl (by omega) ?_|refine o_sub rfl rfl rfl rfl (by omega) ?_|refine o_eqNil rfl rfl rfl rfl rfl ?_)|(refine gI ?_;first|refine o_indexS rfl rfl rfl rfl rfl rfl (by omega) ?_|refine o_index rfl rfl rfl rfl rfl (by omega) ?_)|(refine gS ?_;first|refine o_store rfl rfl rfl rfl rfl rfl ?_|refine o_storeW rfl rfl rfl rfl rfl rfl ?_)|(refine o_allocZ rfl rfl ?_;intro _)|(refine o_box rfl rfl rfl ?_;intro _)|refine o_skip rfl rfl ?_|refine o_skipN rfl rfl ?_|refine o_iface rfl rfl rfl ?_|refine o_build rfl rfl rfl rfl rfl ?_|(refine o_bslice rfl rfl rfl rfl rfl rfl rfl ?_;intro _)|(refine o_splitP rfl ?_ ?_<;>intro h<;>fail_if_success exact Bool.noConfusion h))|refine o_head0 rfl ?_|refine o_end ?_|refine o_head1 rfl ?_|refine wp_seq ?_|refine o_region ?_|refine wp_block ?_|refine wp_skip ?_|refine wp_exit ?_|(refine w_condD rfl ?_ ?_<;>intro h)|(refine w_cond rfl ?_ ?_<;>intro h<;>try exact Bool.noConfusion h)|refine w_ret (S) (vs:=[_]) rfl (Res.tmp rfl Res.nil) ?_
  all_goals(simp_all [pack, iv]<;>(try omega))
theorem c15 (E : Env) (S : Ents) (xs ys : List Int) (v w : Value) (hv : SlV S v xs) (hw : SlV S w ys) (hm : xs.length ≤ 17592186044416) (hm2 : ys.length ≤ 17592186044416) : CallW Tryz.prog E 15 #[v, w] S fun r S' => r = .bool (xs == ys) ∧ S' = S := by
  obtain ⟨a, cp, rfl, _, hr⟩ := hv
  obtain ⟨b, cq, rfl, _, hq⟩ := hw
  have := SlI.mk hr
  have := SlI.mk hq
  refine call_in (args := [.slice a xs.length cp, .slice b ys.length cq]) Tryz.func15 (by decide) rfl rfl ?_
  repeat' first|(refine gX ?_;first|refine o_v rfl rfl ?_|(refine o_splitD rfl rfl rfl ?_ ?_<;>intro h)|(refine o_split rfl rfl rfl ?_ ?_<;>intro h<;>fail_if_success exact Bool.noConfusion h)|(refine gL ?_;first|refine o_load rfl rfl rfl rfl ?_|refine o_loadR rfl rfl rfl (by omega) rfl rfl ?_|refine o_loadW rfl rfl rfl rfl ?_|refine o_loadK rfl rfl rfl ?_)|(refine gF ?_;first|refine o_fieldI rfl rfl rfl rfl ?_|refine o_field rfl rfl rfl rfl ?_)|(refine gB ?_;first|refine o_add rfl rfl rfl rfl (by omega) ?_|refine o_sub rfl rfl rfl rfl (by omega) ?_|refine o_eqNil rfl rfl rfl rfl rfl ?_)|(refine gI ?_;first|refine o_indexS rfl rfl rfl rfl rfl rfl (by omega) ?_|refine o_index rfl rfl rfl rfl rfl (by omega) ?_)|(refine gS ?_;first|refine o_store rfl rfl rfl rfl rfl rfl ?_|refine o_storeW rfl rfl rfl rfl rfl rfl ?_)|(refine o_allocZ rfl rfl ?_;intro _)|(refine o_box rfl rfl rfl ?_;intro _)|refine o_skip rfl rfl ?_|refine o_skipN rfl rfl ?_|refine o_iface rfl rfl rfl ?_|refine o_build rfl rfl rfl rfl rfl ?_|(refine o_bslice rfl rfl rfl rfl rfl rfl rfl ?_;intro _)|(refine o_splitP rfl ?_ ?_<;>intro h<;>fail_if_success exact Bool.noConfusion h))|refine o_head0 rfl ?_|refine o_end ?_|refine o_head1 rfl ?_|refine wp_seq ?_|refine o_region ?_|refine wp_block ?_|refine wp_skip ?_|refine wp_exit ?_|(refine w_condD rfl ?_ ?_<;>intro h)|(refine w_cond rfl ?_ ?_<;>intro h<;>try exact Bool.noConfusion h)|refine w_ret (S) (vs:=[_]) rfl (Res.tmp rfl Res.nil) ?_|(show WP _ _ _ _ (.region 6 _ true) _ _ _ _;refine o_drawnZ [(0, false), (1, false), (2, false), (3, false), (4, false), (5, false), (6, false), (7, false), (8, false)] [] mixed (by kernel_rfl) (List.nil_sublist _) ?_)
  · refine ⟨?_, rfl⟩
    have : xs ≠ ys := fun e => by subst e; simp_all
    simp [pack, this]
  · have hl : xs.length = ys.length := by omega
    refine wp_loop (fun i t ds S' => ∃ (j : Nat) (t0 : Tm), i = xs.length - j ∧ j ≤ xs.length ∧ [] = ds ∧ S = S' ∧ t = den [(13, .int .i64 j), (12, .int .i64 xs.length), (0, .slice a xs.length cp), (1, .slice b ys.length cq)] t0 ∧ xs.take j = ys.take j)
      xs.length ⟨0, _, rfl, Nat.zero_le _, rfl, rfl, keep ⟨rfl, rfl, rfl, rfl, trivial⟩, rfl⟩ ?_
    rintro i t ds S' ⟨j, t0, rfl, hj, rfl, rfl, rfl, hp⟩
    repeat' first|(refine gX ?_;first|refine o_v rfl rfl ?_|(refine o_splitD rfl rfl rfl ?_ ?_<;>intro h)|(refine o_split rfl rfl rfl ?_ ?_<;>intro h<;>fail_if_success exact Bool.noConfusion h)|(refine gL ?_;first|refine o_load rfl rfl rfl rfl ?_|refine o_loadR rfl rfl rfl (by omega) rfl rfl ?_|refine o_loadW rfl rfl rfl rfl ?_|refine o_loadK rfl rfl rfl ?_)|(refine gF ?_;first|refine o_fieldI rfl rfl rfl rfl ?_|refine o_field rfl rfl rfl rfl ?_)|(refine gB ?_;first|refine o_add rfl rfl rfl rfl (by omega) ?_|refine o_sub rfl rfl rfl rfl (by omega) ?_|refine o_eqNil rfl rfl rfl rfl rfl ?_)|(refine gI ?_;first|refine o_indexS rfl rfl rfl rfl rfl rfl (by omega) ?_|refine o_index rfl rfl rfl rfl rfl (by omega) ?_)|(refine gS ?_;first|refine o_store rfl rfl rfl rfl rfl rfl ?_|refine o_storeW rfl rfl rfl rfl rfl rfl ?_)|(refine o_allocZ rfl rfl ?_;intro _)|(refine o_box rfl rfl rfl ?_;intro _)|refine o_skip rfl rfl ?_|refine o_skipN rfl rfl ?_|refine o_iface rfl rfl rfl ?_|refine o_build rfl rfl rfl rfl rfl ?_|(refine o_bslice rfl rfl rfl rfl rfl rfl rfl ?_;intro _)|(refine o_splitP rfl ?_ ?_<;>intro h<;>fail_if_success exact Bool.noConfusion h))|refine o_head0 rfl ?_|refine o_end ?_|refine o_head1 rfl ?_|refine wp_seq ?_|refine o_region ?_|refine wp_block ?_|refine wp_skip ?_|refine wp_exit ?_|(refine w_condD rfl ?_ ?_<;>intro h)|(refine w_cond rfl ?_ ?_<;>intro h<;>try exact Bool.noConfusion h)|refine w_ret (S) (vs:=[_]) rfl (Res.tmp rfl Res.nil) ?_|(show WP _ _ _ _ (.region 6 _ true) _ _ _ _;refine o_drawnZ [(0, false), (1, false), (2, false), (3, false), (4, false), (5, false), (6, false), (7, false), (8, false)] [] mixed (by kernel_rfl) (List.nil_sublist _) ?_)
    · refine ⟨?_, rfl⟩
      have : xs ≠ ys := fun e => by subst e; exact absurd rfl ‹_›
      simp [pack, this]
    · exact ⟨xs.length - (j + 1), by omega, _, Sb.h, j + 1, _, rfl, by omega, rfl, rfl, keep ⟨rfl, rfl, rfl, rfl, trivial⟩, by rw [take_snoc (by omega), take_snoc (by omega), hp]; simp_all⟩
    · have : j = xs.length := by omega
      subst this
      rw [List.take_length, hl, List.take_length] at hp
      simp [pack, hp]
end Go.Proofs.YtpnnmklacialgaaGreat
namespace Go.Proofs.YtpnnmklacialgaaGreat
open Go.Conc
attribute [local irreducible] WP OpF OpX CallW SemH retQ

/-- Bounded. -/
def Bd (M : Int) (r : RangeG) : Prop := -M ≤ r.lo ∧ r.lo ≤ M ∧ -M ≤ r.hi ∧ r.hi ≤ M
def meetR (a b : RangeG) : RangeG := ⟨max a.lo b.lo, min a.hi b.hi⟩
def lessR (a b : RangeG) : RangeG := ⟨a.lo - b.hi, a.hi - b.lo⟩
def volR (u : UseG) : RangeG := ⟨u.minutes.lo * u.rate.lo / 60, (u.minutes.hi * u.rate.hi + 59) / 60⟩
def sumR : List RangeG → RangeG
  | [] => ⟨0, 0⟩
  | x :: l => ⟨x.lo + (sumR l).lo, x.hi + (sumR l).hi⟩
def tightR (part all flow : RangeG) : RangeG := meetR part ⟨flow.lo - (all.hi - part.hi), flow.hi - (all.lo - part.lo)⟩
theorem c110 (E : Env) (S : Ents) (x y : RangeG) : CallW Tryz.prog E 110 #[.agg (rangeC x), .agg (rangeC y)] S fun r S' => r = .agg (rangeC (meetR x y)) ∧ S' = S := by
  refine call_in (args := [.agg (rangeC x), .agg (rangeC y)]) Tryz.func110 (by decide) rfl rfl ?_
  repeat' first|(refine gX ?_;first|refine o_v rfl rfl ?_|(refine o_splitD rfl rfl rfl ?_ ?_<;>intro h)|(refine o_split rfl rfl rfl ?_ ?_<;>intro h<;>fail_if_success exact Bool.noConfusion h)|(refine gL ?_;first|refine o_load rfl rfl rfl rfl ?_|refine o_loadR rfl rfl rfl (by omega) rfl rfl ?_|refine o_loadW rfl rfl rfl rfl ?_)|(refine gF ?_;first|refine o_fieldI rfl rfl rfl rfl ?_|refine o_field rfl rfl rfl rfl ?_)|(refine gB ?_;first|refine o_add rfl rfl rfl rfl (by omega) ?_|refine o_sub rfl rfl rfl rfl (by omega) ?_|refine o_eqNil rfl rfl rfl rfl rfl ?_)|(refine gI ?_;first|refine o_indexS rfl rfl rfl rfl rfl rfl (by omega) ?_|refine o_index rfl rfl rfl rfl rfl (by omega) ?_)|(refine gS ?_;first|refine o_store rfl rfl rfl rfl rfl rfl ?_|refine o_storeW rfl rfl rfl rfl rfl rfl ?_)|(refine o_alloc rfl rfl ?_;intro _)|(refine o_box rfl rfl rfl ?_;intro _)|refine o_skip rfl rfl ?_|refine o_skipN rfl rfl ?_|refine o_iface rfl rfl rfl ?_|refine o_build rfl rfl rfl rfl rfl ?_|(refine o_bslice rfl rfl rfl rfl rfl rfl rfl ?_;intro _)|(refine o_splitP rfl ?_ ?_<;>intro h<;>fail_if_success exact Bool.noConfusion h))|refine o_head0 rfl ?_|refine o_end ?_|refine o_head1 rfl ?_|refine wp_seq ?_|refine o_region ?_|refine wp_block ?_|refine wp_skip ?_|refine wp_exit ?_|(refine w_condD rfl ?_ ?_<;>intro h)|(refine w_cond rfl ?_ ?_<;>intro h<;>try exact Bool.noConfusion h)|refine w_ret (S) (vs:=[_]) rfl (Res.cell rfl rfl Res.nil) ?_
  exact ⟨rfl, rfl⟩
theorem c146 (E : Env) (S : Ents) (x y : RangeG) : CallW Tryz.prog E 146 #[.agg (rangeC x), .agg (rangeC y)] S fun r S' => r = .agg (rangeC (meetR x y)) ∧ S' = S := by
  refine call_in (args := [.agg (rangeC x), .agg (rangeC y)]) Tryz.func146 (by decide) rfl rfl ?_
  repeat' first|(refine gX ?_;first|refine o_v rfl rfl ?_|(refine o_splitD rfl rfl rfl ?_ ?_<;>intro h)|(refine o_split rfl rfl rfl ?_ ?_<;>intro h<;>fail_if_success exact Bool.noConfusion h)|(refine gL ?_;first|refine o_load rfl rfl rfl rfl ?_|refine o_loadR rfl rfl rfl (by omega) rfl rfl ?_|refine o_loadW rfl rfl rfl rfl ?_)|(refine gF ?_;first|refine o_fieldI rfl rfl rfl rfl ?_|refine o_field rfl rfl rfl rfl ?_)|(refine gB ?_;first|refine o_add rfl rfl rfl rfl (by omega) ?_|refine o_sub rfl rfl rfl rfl (by omega) ?_|refine o_eqNil rfl rfl rfl rfl rfl ?_)|(refine gI ?_;first|refine o_indexS rfl rfl rfl rfl rfl rfl (by omega) ?_|refine o_index rfl rfl rfl rfl rfl (by omega) ?_)|(refine gS ?_;first|refine o_store rfl rfl rfl rfl rfl rfl ?_|refine o_storeW rfl rfl rfl rfl rfl rfl ?_)|(refine o_alloc rfl rfl ?_;intro _)|(refine o_box rfl rfl rfl ?_;intro _)|refine o_skip rfl rfl ?_|refine o_skipN rfl rfl ?_|refine o_iface rfl rfl rfl ?_|refine o_build rfl rfl rfl rfl rfl ?_|(refine o_bslice rfl rfl rfl rfl rfl rfl rfl ?_;intro _)|(refine o_splitP rfl ?_ ?_<;>intro h<;>fail_if_success exact Bool.noConfusion h))|refine o_head0 rfl ?_|refine o_end ?_|refine o_head1 rfl ?_|refine wp_seq ?_|refine o_region ?_|refine wp_block ?_|refine wp_skip ?_|refine wp_exit ?_|(refine w_condD rfl ?_ ?_<;>intro h)|(refine w_cond rfl ?_ ?_<;>intro h<;>try exact Bool.noConfusion h)|refine w_ret (S) (vs:=[_]) rfl (Res.cell rfl rfl Res.nil) ?_
  exact ⟨rfl, rfl⟩
theorem c149 (E : Env) (S : Ents) (x y : RangeG) (hx : Bd 1000000000000000000 x) (hy : Bd 1000000000000000000 y) : CallW Tryz.prog E 149 #[.agg (rangeC x), .agg (rangeC y)] S fun r S' => r = .agg (rangeC (lessR x y)) ∧ S' = S := by
  unfold Bd at hx hy
  refine call_in (args := [.agg (rangeC x), .agg (rangeC y)]) Tryz.func149 (by decide) rfl rfl ?_
  repeat' first|(refine gX ?_;first|refine o_v rfl rfl ?_|(refine o_splitD rfl rfl rfl ?_ ?_<;>intro h)|(refine o_split rfl rfl rfl ?_ ?_<;>intro h<;>fail_if_success exact Bool.noConfusion h)|(refine gL ?_;first|refine o_load rfl rfl rfl rfl ?_|refine o_loadR rfl rfl rfl (by omega) rfl rfl ?_|refine o_loadW rfl rfl rfl rfl ?_)|(refine gF ?_;first|refine o_fieldI rfl rfl rfl rfl ?_|refine o_field rfl rfl rfl rfl ?_)|(refine gB ?_;first|refine o_add rfl rfl rfl rfl (by omega) ?_|refine o_sub rfl rfl rfl rfl (by omega) ?_|refine o_eqNil rfl rfl rfl rfl rfl ?_)|(refine gI ?_;first|refine o_indexS rfl rfl rfl rfl rfl rfl (by omega) ?_|refine o_index rfl rfl rfl rfl rfl (by omega) ?_)|(refine gS ?_;first|refine o_store rfl rfl rfl rfl rfl rfl ?_|refine o_storeW rfl rfl rfl rfl rfl rfl ?_)|(refine o_alloc rfl rfl ?_;intro _)|(refine o_box rfl rfl rfl ?_;intro _)|refine o_skip rfl rfl ?_|refine o_skipN rfl rfl ?_|refine o_iface rfl rfl rfl ?_|refine o_build rfl rfl rfl rfl rfl ?_|(refine o_bslice rfl rfl rfl rfl rfl rfl rfl ?_;intro _)|(refine o_splitP rfl ?_ ?_<;>intro h<;>fail_if_success exact Bool.noConfusion h))|refine o_head0 rfl ?_|refine o_end ?_|refine o_head1 rfl ?_|refine wp_seq ?_|refine o_region ?_|refine wp_block ?_|refine wp_skip ?_|refine wp_exit ?_|(refine w_condD rfl ?_ ?_<;>intro h)|(refine w_cond rfl ?_ ?_<;>intro h<;>try exact Bool.noConfusion h)|refine w_ret (S) (vs:=[_]) rfl (Res.cell rfl rfl Res.nil) ?_
  exact ⟨rfl, rfl⟩
theorem c180 (E : Env) (S : Ents) (x y z : RangeG) (hx : Bd 1000000000000000000 x) (hy : Bd 1000000000000000000 y) (hz : Bd 1000000000000000000 z) : CallW Tryz.prog E 180 #[.agg (rangeC x), .agg (rangeC y), .agg (rangeC z)] S fun r S' => r = .agg (rangeC (tightR x y z)) ∧ S' = S := by
  unfold Bd at hx hy hz
  refine call_in (args := [.agg (rangeC x), .agg (rangeC y), .agg (rangeC z)]) Tryz.func180 (by decide) rfl rfl ?_
  repeat' first|(refine gX ?_;first|refine o_v rfl rfl ?_|(refine o_splitD rfl rfl rfl ?_ ?_<;>intro h)|(refine o_split rfl rfl rfl ?_ ?_<;>intro h<;>fail_if_success exact Bool.noConfusion h)|(refine gL ?_;first|refine o_load rfl rfl rfl rfl ?_|refine o_loadR rfl rfl rfl (by omega) rfl rfl ?_|refine o_loadW rfl rfl rfl rfl ?_)|(refine gF ?_;first|refine o_fieldI rfl rfl rfl rfl ?_|refine o_field rfl rfl rfl rfl ?_)|(refine gB ?_;first|refine o_add rfl rfl rfl rfl (by omega) ?_|refine o_sub rfl rfl rfl rfl (by omega) ?_|refine o_eqNil rfl rfl rfl rfl rfl ?_)|(refine gC ?_;first|refine o_callF rfl rfl rfl (c146 _ _ x ⟨_, _⟩) ?_)|(refine gI ?_;first|refine o_indexS rfl rfl rfl rfl rfl rfl (by omega) ?_|refine o_index rfl rfl rfl rfl rfl (by omega) ?_)|(refine gS ?_;first|refine o_store rfl rfl rfl rfl rfl rfl ?_|refine o_storeW rfl rfl rfl rfl rfl rfl ?_)|(refine o_alloc rfl rfl ?_;intro _)|(refine o_box rfl rfl rfl ?_;intro _)|refine o_skip rfl rfl ?_|refine o_skipN rfl rfl ?_|refine o_iface rfl rfl rfl ?_|refine o_build rfl rfl rfl rfl rfl ?_|(refine o_bslice rfl rfl rfl rfl rfl rfl rfl ?_;intro _)|(refine o_splitP rfl ?_ ?_<;>intro h<;>fail_if_success exact Bool.noConfusion h))|refine o_head0 rfl ?_|refine o_end ?_|refine o_head1 rfl ?_|refine wp_seq ?_|refine o_region ?_|refine wp_block ?_|refine wp_skip ?_|refine wp_exit ?_|(refine w_condD rfl ?_ ?_<;>intro h)|(refine w_cond rfl ?_ ?_<;>intro h<;>try exact Bool.noConfusion h)|refine w_ret (S) (vs:=[_]) rfl (Res.cell rfl rfl Res.nil) ?_
  exact ⟨rfl, rfl⟩
theorem mul_bd {a b A B : Int} (h1 : 0 ≤ a) (h2 : a ≤ A) (h3 : 0 ≤ b) (h4 : b ≤ B) : 0 ≤ a * b ∧ a * b ≤ A * B :=
  ⟨Int.mul_nonneg h1 h3, Int.mul_le_mul h2 h4 h3 (by omega)⟩
theorem vol_bd {u : UseG} (h : useOk u = true) : (0 ≤ u.minutes.lo * u.rate.lo ∧ u.minutes.lo * u.rate.lo ≤ 50000000) ∧ 0 ≤ u.minutes.hi * u.rate.hi ∧ u.minutes.hi * u.rate.hi ≤ 50000000 := by
  simp only [useOk, rangeOk, Bool.and_eq_true, decide_eq_true_eq] at h
  exact ⟨mul_bd (A := 50000) (B := 1000) (by omega) (by omega) (by omega) (by omega), mul_bd (A := 50000) (B := 1000) (by omega) (by omega) (by omega) (by omega)⟩
theorem c123 (E : Env) (S : Ents) (u : UseG) (h : useOk u = true) : CallW Tryz.prog E 123 #[.agg (useC u)] S fun r S' => r = .agg (rangeC (volR u)) ∧ S' = S := by
  obtain ⟨hl, hh⟩ := vol_bd h
  refine call_in (args := [.agg (useC u)]) Tryz.func123 (by decide) rfl rfl ?_
  repeat' first|(refine gX ?_;first|refine o_v rfl rfl ?_|(refine o_splitD rfl rfl rfl ?_ ?_<;>intro h)|(refine o_split rfl rfl rfl ?_ ?_<;>intro h<;>fail_if_success exact Bool.noConfusion h)|(refine gL ?_;first|refine o_load rfl rfl rfl rfl ?_|refine o_loadR rfl rfl rfl (by omega) rfl rfl ?_|refine o_loadW rfl rfl rfl rfl ?_)|(refine gF ?_;first|refine o_fieldI rfl rfl rfl rfl ?_|refine o_field rfl rfl rfl rfl ?_)|(refine gB ?_;first|refine o_mul rfl rfl rfl rfl (by omega) ?_|refine o_quoN rfl rfl rfl rfl (by decide) (by omega) ?_|refine o_add rfl rfl rfl rfl (by omega) ?_|refine o_sub rfl rfl rfl rfl (by omega) ?_|refine o_eqNil rfl rfl rfl rfl rfl ?_)|(refine gI ?_;first|refine o_indexS rfl rfl rfl rfl rfl rfl (by omega) ?_|refine o_index rfl rfl rfl rfl rfl (by omega) ?_)|(refine gS ?_;first|refine o_store rfl rfl rfl rfl rfl rfl ?_|refine o_storeW rfl rfl rfl rfl rfl rfl ?_)|(refine o_alloc rfl rfl ?_;intro _)|(refine o_box rfl rfl rfl ?_;intro _)|refine o_skip rfl rfl ?_|refine o_skipN rfl rfl ?_|refine o_iface rfl rfl rfl ?_|refine o_build rfl rfl rfl rfl rfl ?_|(refine o_bslice rfl rfl rfl rfl rfl rfl rfl ?_;intro _)|(refine o_splitP rfl ?_ ?_<;>intro h<;>fail_if_success exact Bool.noConfusion h))|refine o_head0 rfl ?_|refine o_end ?_|refine o_head1 rfl ?_|refine wp_seq ?_|refine o_region ?_|refine wp_block ?_|refine wp_skip ?_|refine wp_exit ?_|(refine w_condD rfl ?_ ?_<;>intro h)|(refine w_cond rfl ?_ ?_<;>intro h<;>try exact Bool.noConfusion h)|refine w_ret (S) (vs:=[_]) rfl (Res.cell rfl rfl Res.nil) ?_
  refine ⟨?_, rfl⟩
  have e : u.minutes.hi * u.rate.hi + 60 - 1 = u.minutes.hi * u.rate.hi + 59 := by omega
  simp [pack, rangeC, volR, e]
theorem c124 (E : Env) (S : Ents) (u : UseG) (h : useOk u = true) : CallW Tryz.prog E 124 #[.agg (useC u)] S fun r S' => r = .agg (rangeC (volR u)) ∧ S' = S := by
  obtain ⟨hl, hh⟩ := vol_bd h
  refine call_in (args := [.agg (useC u)]) Tryz.func124 (by decide) rfl rfl ?_
  repeat' first|(refine gX ?_;first|refine o_v rfl rfl ?_|(refine o_splitD rfl rfl rfl ?_ ?_<;>intro h)|(refine o_split rfl rfl rfl ?_ ?_<;>intro h<;>fail_if_success exact Bool.noConfusion h)|(refine gL ?_;first|refine o_load rfl rfl rfl rfl ?_|refine o_loadR rfl rfl rfl (by omega) rfl rfl ?_|refine o_loadW rfl rfl rfl rfl ?_)|(refine gF ?_;first|refine o_fieldI rfl rfl rfl rfl ?_|refine o_field rfl rfl rfl rfl ?_)|(refine gB ?_;first|refine o_mul rfl rfl rfl rfl (by omega) ?_|refine o_quoN rfl rfl rfl rfl (by decide) (by omega) ?_|refine o_add rfl rfl rfl rfl (by omega) ?_|refine o_sub rfl rfl rfl rfl (by omega) ?_|refine o_eqNil rfl rfl rfl rfl rfl ?_)|(refine gI ?_;first|refine o_indexS rfl rfl rfl rfl rfl rfl (by omega) ?_|refine o_index rfl rfl rfl rfl rfl (by omega) ?_)|(refine gS ?_;first|refine o_store rfl rfl rfl rfl rfl rfl ?_|refine o_storeW rfl rfl rfl rfl rfl rfl ?_)|(refine o_alloc rfl rfl ?_;intro _)|(refine o_box rfl rfl rfl ?_;intro _)|refine o_skip rfl rfl ?_|refine o_skipN rfl rfl ?_|refine o_iface rfl rfl rfl ?_|refine o_build rfl rfl rfl rfl rfl ?_|(refine o_bslice rfl rfl rfl rfl rfl rfl rfl ?_;intro _)|(refine o_splitP rfl ?_ ?_<;>intro h<;>fail_if_success exact Bool.noConfusion h))|refine o_head0 rfl ?_|refine o_end ?_|refine o_head1 rfl ?_|refine wp_seq ?_|refine o_region ?_|refine wp_block ?_|refine wp_skip ?_|refine wp_exit ?_|(refine w_condD rfl ?_ ?_<;>intro h)|(refine w_cond rfl ?_ ?_<;>intro h<;>try exact Bool.noConfusion h)|refine w_ret (S) (vs:=[_]) rfl (Res.cell rfl rfl Res.nil) ?_
  exact ⟨rfl, rfl⟩
end Go.Proofs.YtpnnmklacialgaaGreat
namespace Go.Proofs.YtpnnmklacialgaaGreat
open Go.Conc
attribute [local irreducible] WP OpF OpX CallW SemH retQ
theorem sumR_drop {xs : List RangeG} {j : Nat} (h : j < xs.length) : sumR (xs.drop j) = ⟨xs[j].lo + (sumR (xs.drop (j + 1))).lo, xs[j].hi + (sumR (xs.drop (j + 1))).hi⟩ := by
  rw [List.drop_eq_getElem_cons h, sumR]

theorem c102 (E : Env) (S : Ents) (xs : List RangeG) (v : Value) (hv : SlV S v xs) (hm : xs.length ≤ 1000) (hb : ∀ x ∈ xs, Bd 1000000000000000 x) : CallW Tryz.prog E 102 #[v] S fun r S' => r = .agg (rangeC (sumR xs)) ∧ S' = S := by
  obtain ⟨a, cp, rfl, _, hr⟩ := hv
  have := SlI.mk hr
  refine call_in (args := [.slice a xs.length cp]) Tryz.func102 (by decide) rfl rfl ?_
  repeat' first|(refine gX ?_;first|refine o_v rfl rfl ?_|(refine o_splitD rfl rfl rfl ?_ ?_<;>intro h)|(refine o_split rfl rfl rfl ?_ ?_<;>intro h<;>fail_if_success exact Bool.noConfusion h)|(refine gL ?_;first|refine o_load rfl rfl rfl rfl ?_|refine o_loadR rfl rfl rfl (by omega) rfl rfl ?_|refine o_loadW rfl rfl rfl rfl ?_)|(refine gF ?_;first|refine o_fieldI rfl rfl rfl rfl ?_|refine o_field rfl rfl rfl rfl ?_)|(refine gB ?_;first|refine o_add rfl rfl rfl rfl (by omega) ?_|refine o_sub rfl rfl rfl rfl (by omega) ?_|refine o_eqNil rfl rfl rfl rfl rfl ?_)|(refine gI ?_;first|refine o_indexS rfl rfl rfl rfl rfl rfl (by omega) ?_|refine o_index rfl rfl rfl rfl rfl (by omega) ?_)|(refine gS ?_;first|refine o_store rfl rfl rfl rfl rfl rfl ?_|refine o_storeW rfl rfl rfl rfl rfl rfl ?_)|(refine o_alloc rfl rfl ?_;intro _)|(refine o_box rfl rfl rfl ?_;intro _)|refine o_skip rfl rfl ?_|refine o_skipN rfl rfl ?_|refine o_iface rfl rfl rfl ?_|refine o_build rfl rfl rfl rfl rfl ?_|(refine o_bslice rfl rfl rfl rfl rfl rfl rfl ?_;intro _)|(refine o_splitP rfl ?_ ?_<;>intro h<;>fail_if_success exact Bool.noConfusion h))|refine o_head0 rfl ?_|refine o_end ?_|refine o_head1 rfl ?_|refine wp_seq ?_|refine o_region ?_|refine wp_block ?_|refine wp_skip ?_|refine wp_exit ?_|(refine w_condD rfl ?_ ?_<;>intro h)|(refine w_cond rfl ?_ ?_<;>intro h<;>try exact Bool.noConfusion h)|refine w_ret (S) (vs:=[_]) rfl (Res.cell rfl rfl Res.nil) ?_
  rename_i b2 b3
  refine wp_loop (fun i t ds S' => ∃ (j : Nat) (t0 : Tm) (lo hi : Int), i = xs.length - j ∧ j ≤ xs.length ∧ [] = ds ∧ ⟨b3, true, .cells #[.int .i64 lo, .int .i64 hi] 70 (0, 0)⟩ :: ⟨b2, true, .cells #[.int .i64 0, .int .i64 0] 70 (0, 0)⟩ :: S = S' ∧ t = den [(8, .int .i64 j), (7, .int .i64 xs.length), (6, .slice a xs.length cp), (3, .pointer (some ⟨b3, 0, none⟩)), (2, .pointer (some ⟨b2, 0, none⟩))] t0 ∧
      (lo + (sumR (xs.drop j)).lo = (sumR xs).lo ∧ hi + (sumR (xs.drop j)).hi = (sumR xs).hi) ∧ -(1000000000000000 * j) ≤ lo ∧ lo ≤ 1000000000000000 * j ∧ -(1000000000000000 * j) ≤ hi ∧ hi ≤ 1000000000000000 * j)
    xs.length ⟨0, _, 0, 0, rfl, Nat.zero_le _, rfl, rfl, keep ⟨rfl, rfl, rfl, rfl, rfl, trivial⟩, by simp, by simp⟩ ?_
  rintro i t ds S' ⟨j, t0, lo, hi, rfl, hj, rfl, rfl, rfl, hp, hq⟩
  repeat' first|(refine gX ?_;first|refine o_v rfl rfl ?_|(refine o_splitD rfl rfl rfl ?_ ?_<;>intro h)|(refine o_split rfl rfl rfl ?_ ?_<;>intro h<;>fail_if_success exact Bool.noConfusion h)|(refine gL ?_;first|refine o_load rfl rfl rfl rfl ?_|refine o_loadR rfl rfl rfl (by omega) rfl rfl ?_|refine o_loadW rfl rfl rfl rfl ?_)|(refine gF ?_;first|refine o_fieldI rfl rfl rfl rfl ?_|refine o_field rfl rfl rfl rfl ?_)|(refine gB ?_;first|refine o_add rfl rfl rfl rfl (by have := hb xs[j] (List.getElem_mem (by omega)); unfold Bd at this; omega) ?_|refine o_add rfl rfl rfl rfl (by omega) ?_|refine o_sub rfl rfl rfl rfl (by omega) ?_|refine o_eqNil rfl rfl rfl rfl rfl ?_)|(refine gI ?_;first|refine o_indexS rfl rfl rfl rfl rfl rfl (by omega) ?_|refine o_index rfl rfl rfl rfl rfl (by omega) ?_)|(refine gS ?_;first|refine o_store rfl rfl rfl rfl rfl rfl ?_|refine o_storeW rfl rfl rfl rfl rfl rfl ?_)|(refine o_alloc rfl rfl ?_;intro _)|(refine o_box rfl rfl rfl ?_;intro _)|refine o_skip rfl rfl ?_|refine o_skipN rfl rfl ?_|refine o_iface rfl rfl rfl ?_|refine o_build rfl rfl rfl rfl rfl ?_|(refine o_bslice rfl rfl rfl rfl rfl rfl rfl ?_;intro _)|(refine o_splitP rfl ?_ ?_<;>intro h<;>fail_if_success exact Bool.noConfusion h))|refine o_head0 rfl ?_|refine o_end ?_|refine o_head1 rfl ?_|refine wp_seq ?_|refine o_region ?_|refine wp_block ?_|refine wp_skip ?_|refine wp_exit ?_|(refine w_condD rfl ?_ ?_<;>intro h)|(refine w_cond rfl ?_ ?_<;>intro h<;>try exact Bool.noConfusion h)|refine w_ret (S) (vs:=[_]) rfl (Res.cell rfl rfl Res.nil) ?_
  · have hb' := hb xs[j] (List.getElem_mem (by omega))
    unfold Bd at hb'
    rw [sumR_drop (by omega)] at hp
    exact ⟨xs.length - (j + 1), by omega, _, Sb.h, j + 1, _, lo + xs[j].lo, hi + xs[j].hi, rfl, by omega, rfl, rfl, keep ⟨rfl, rfl, rfl, rfl, rfl, trivial⟩, by dsimp only at hp; omega, by omega⟩
  · have : j = xs.length := by omega
    subst this
    rw [List.drop_length] at hp
    simp only [sumR, Int.add_zero] at hp
    refine ⟨?_, rfl⟩
    simp [pack, rangeC, iv, hp]
theorem c103 (E : Env) (S : Ents) (xs : List RangeG) (v : Value) (hv : SlV S v xs) (hm : xs.length ≤ 1000) (hb : ∀ x ∈ xs, Bd 1000000000000000 x) : CallW Tryz.prog E 103 #[v] S fun r S' => r = .agg (rangeC (sumR xs)) ∧ S' = S := by
  obtain ⟨a, cp, rfl, _, hr⟩ := hv
  have := SlI.mk hr
  refine call_in (args := [.slice a xs.length cp]) Tryz.func103 (by decide) rfl rfl ?_
  repeat' first|(refine gX ?_;first|refine o_v rfl rfl ?_|(refine o_splitD rfl rfl rfl ?_ ?_<;>intro h)|(refine o_split rfl rfl rfl ?_ ?_<;>intro h<;>fail_if_success exact Bool.noConfusion h)|(refine gL ?_;first|refine o_load rfl rfl rfl rfl ?_|refine o_loadR rfl rfl rfl (by omega) rfl rfl ?_|refine o_loadW rfl rfl rfl rfl ?_)|(refine gF ?_;first|refine o_fieldI rfl rfl rfl rfl ?_|refine o_field rfl rfl rfl rfl ?_)|(refine gB ?_;first|refine o_add rfl rfl rfl rfl (by omega) ?_|refine o_sub rfl rfl rfl rfl (by omega) ?_|refine o_eqNil rfl rfl rfl rfl rfl ?_)|(refine gI ?_;first|refine o_indexS rfl rfl rfl rfl rfl rfl (by omega) ?_|refine o_index rfl rfl rfl rfl rfl (by omega) ?_)|(refine gS ?_;first|refine o_store rfl rfl rfl rfl rfl rfl ?_|refine o_storeW rfl rfl rfl rfl rfl rfl ?_)|(refine o_alloc rfl rfl ?_;intro _)|(refine o_box rfl rfl rfl ?_;intro _)|refine o_skip rfl rfl ?_|refine o_skipN rfl rfl ?_|refine o_iface rfl rfl rfl ?_|refine o_build rfl rfl rfl rfl rfl ?_|(refine o_bslice rfl rfl rfl rfl rfl rfl rfl ?_;intro _)|(refine o_splitP rfl ?_ ?_<;>intro h<;>fail_if_success exact Bool.noConfusion h))|refine o_head0 rfl ?_|refine o_end ?_|refine o_head1 rfl ?_|refine wp_seq ?_|refine o_region ?_|refine wp_block ?_|refine wp_skip ?_|refine wp_exit ?_|(refine w_condD rfl ?_ ?_<;>intro h)|(refine w_cond rfl ?_ ?_<;>intro h<;>try exact Bool.noConfusion h)|refine w_ret (S) (vs:=[_]) rfl (Res.cell rfl rfl Res.nil) ?_
  rename_i b2 b3
  refine wp_loop (fun i t ds S' => ∃ (j : Nat) (t0 : Tm) (lo hi : Int), i = xs.length - j ∧ j ≤ xs.length ∧ [] = ds ∧ ⟨b3, true, .cells #[.int .i64 lo, .int .i64 hi] 70 (0, 0)⟩ :: ⟨b2, true, .cells #[.int .i64 0, .int .i64 0] 70 (0, 0)⟩ :: S = S' ∧ t = den [(9, .int .i64 j), (8, .int .i64 xs.length), (7, .slice a xs.length cp), (3, .pointer (some ⟨b3, 0, none⟩)), (2, .pointer (some ⟨b2, 0, none⟩))] t0 ∧
      (lo + (sumR (xs.drop j)).lo = (sumR xs).lo ∧ hi + (sumR (xs.drop j)).hi = (sumR xs).hi) ∧ -(1000000000000000 * j) ≤ lo ∧ lo ≤ 1000000000000000 * j ∧ -(1000000000000000 * j) ≤ hi ∧ hi ≤ 1000000000000000 * j)
    xs.length ⟨0, _, 0, 0, rfl, Nat.zero_le _, rfl, rfl, keep ⟨rfl, rfl, rfl, rfl, rfl, trivial⟩, by simp, by simp⟩ ?_
  rintro i t ds S' ⟨j, t0, lo, hi, rfl, hj, rfl, rfl, rfl, hp, hq⟩
  repeat' first|(refine gX ?_;first|refine o_v rfl rfl ?_|(refine o_splitD rfl rfl rfl ?_ ?_<;>intro h)|(refine o_split rfl rfl rfl ?_ ?_<;>intro h<;>fail_if_success exact Bool.noConfusion h)|(refine gL ?_;first|refine o_load rfl rfl rfl rfl ?_|refine o_loadR rfl rfl rfl (by omega) rfl rfl ?_|refine o_loadW rfl rfl rfl rfl ?_)|(refine gF ?_;first|refine o_fieldI rfl rfl rfl rfl ?_|refine o_field rfl rfl rfl rfl ?_)|(refine gB ?_;first|refine o_add rfl rfl rfl rfl (by have := hb xs[j] (List.getElem_mem (by omega)); unfold Bd at this; omega) ?_|refine o_add rfl rfl rfl rfl (by omega) ?_|refine o_sub rfl rfl rfl rfl (by omega) ?_|refine o_eqNil rfl rfl rfl rfl rfl ?_)|(refine gI ?_;first|refine o_indexS rfl rfl rfl rfl rfl rfl (by omega) ?_|refine o_index rfl rfl rfl rfl rfl (by omega) ?_)|(refine gS ?_;first|refine o_store rfl rfl rfl rfl rfl rfl ?_|refine o_storeW rfl rfl rfl rfl rfl rfl ?_)|(refine o_alloc rfl rfl ?_;intro _)|(refine o_box rfl rfl rfl ?_;intro _)|refine o_skip rfl rfl ?_|refine o_skipN rfl rfl ?_|refine o_iface rfl rfl rfl ?_|refine o_build rfl rfl rfl rfl rfl ?_|(refine o_bslice rfl rfl rfl rfl rfl rfl rfl ?_;intro _)|(refine o_splitP rfl ?_ ?_<;>intro h<;>fail_if_success exact Bool.noConfusion h))|refine o_head0 rfl ?_|refine o_end ?_|refine o_head1 rfl ?_|refine wp_seq ?_|refine o_region ?_|refine wp_block ?_|refine wp_skip ?_|refine wp_exit ?_|(refine w_condD rfl ?_ ?_<;>intro h)|(refine w_cond rfl ?_ ?_<;>intro h<;>try exact Bool.noConfusion h)|refine w_ret (S) (vs:=[_]) rfl (Res.cell rfl rfl Res.nil) ?_
  · have hb' := hb xs[j] (List.getElem_mem (by omega))
    unfold Bd at hb'
    rw [sumR_drop (by omega)] at hp
    exact ⟨xs.length - (j + 1), by omega, _, Sb.h, j + 1, _, lo + xs[j].lo, hi + xs[j].hi, rfl, by omega, rfl, rfl, keep ⟨rfl, rfl, rfl, rfl, rfl, trivial⟩, by dsimp only at hp; omega, by omega⟩
  · have : j = xs.length := by omega
    subst this
    rw [List.drop_length] at hp
    simp only [sumR, Int.add_zero] at hp
    refine ⟨?_, rfl⟩
    simp [pack, rangeC, iv, hp]
end Go.Proofs.YtpnnmklacialgaaGreat
namespace Go.Proofs.YtpnnmklacialgaaGreat
open Go.Conc
attribute [local irreducible] WP OpF OpX CallW SemH retQ

def countsR (p k : Int) (x : ReadG) : Bool := decide (x.period = p) && countsB x.known x.til k
def countSrc (n : NetG) (p k : Int) : List Int := (n.readings.filter (countsR p k)).map (·.source)
theorem filter_snoc {α : Type} {l : List α} {q : α → Bool} {j : Nat} (h : j < l.length) : (l.take (j + 1)).filter q = (l.take j).filter q ++ (if q l[j] = true then [l[j]] else []) := by
  rw [take_snoc h, List.filter_append]
  congr 1
  cases hq : q l[j] <;> simp [hq]
theorem filter_len {α : Type} {l : List α} {q : α → Bool} {j : Nat} : ((l.take j).filter q).length ≤ l.length := Nat.le_trans (List.length_filter_le _ _) (by rw [List.length_take]; omega)
theorem c77 (E : Env) (S : Ents) (n : NetG) (a b c d e : Value) (p k : Int) (hn : NetV S a b c d e n) (hm : n.readings.length ≤ 100000) : CallW Tryz.prog E 77 #[.agg #[a, b, c, d, e], .agg #[iv p, iv k]] S fun r S' => ∃ Δ, Own r (countSrc n p k) Δ ∧ S' = Δ ++ S := by
  obtain ⟨q, cp, rfl, _, hr⟩ := hn.readings
  have := SlI.mk hr
  refine call_in (args := [.agg #[a, b, .slice q n.readings.length cp, d, e], .agg #[iv p, iv k]]) Tryz.func77 (by decide) rfl rfl ?_
  repeat' first|(refine gX ?_;first|refine o_v rfl rfl ?_|(refine o_splitD rfl rfl rfl ?_ ?_<;>intro h)|(refine o_split rfl rfl rfl ?_ ?_<;>intro h<;>fail_if_success exact Bool.noConfusion h)|(refine gL ?_;first|refine o_load rfl rfl rfl rfl ?_|refine o_loadR rfl rfl rfl (by omega) rfl rfl ?_|refine o_loadW rfl rfl rfl rfl ?_|refine o_loadK rfl rfl rfl ?_)|(refine gF ?_;first|refine o_fieldI rfl rfl rfl rfl ?_|refine o_field rfl rfl rfl rfl ?_)|(refine gB ?_;first|refine o_add rfl rfl rfl rfl (by omega) ?_|refine o_sub rfl rfl rfl rfl (by omega) ?_|refine o_eqNil rfl rfl rfl rfl rfl ?_)|(refine gI ?_;first|refine o_indexS rfl rfl rfl rfl rfl rfl (by omega) ?_|refine o_index rfl rfl rfl rfl rfl (by omega) ?_)|(refine gS ?_;first|refine o_store rfl rfl rfl rfl rfl rfl ?_|refine o_storeW rfl rfl rfl rfl rfl rfl ?_)|(refine o_allocZ rfl rfl ?_;intro _)|(refine o_box rfl rfl rfl ?_;intro _)|refine o_skip rfl rfl ?_|refine o_skipN rfl rfl ?_|refine o_iface rfl rfl rfl ?_|refine o_build rfl rfl rfl rfl rfl ?_|(refine o_bslice rfl rfl rfl rfl rfl rfl rfl ?_;intro _)|(refine o_splitP rfl ?_ ?_<;>intro h<;>fail_if_success exact Bool.noConfusion h))|refine o_head0 rfl ?_|refine o_end ?_|refine o_head1 rfl ?_|refine wp_seq ?_|refine o_region ?_|refine wp_block ?_|refine wp_skip ?_|refine wp_exit ?_|(refine w_condD rfl ?_ ?_<;>intro h)|(refine w_cond rfl ?_ ?_<;>intro h<;>try exact Bool.noConfusion h)|refine w_ret (S) (vs:=[_]) rfl (Res.tmp rfl Res.nil) ?_
  rename_i b2 b3
  refine w_drop (⟨b3, true, .cells #[.int .i64 p, .int .i64 k] 30 (0, 0)⟩ :: S) (List.Sublist.cons_cons _ (List.Sublist.cons _ (List.Sublist.refl _))) ?_
  refine wp_loop (fun i t ds S' => ∃ (j : Nat) (t0 : Tm) (w : Value) (Δ : Ents), i = n.readings.length - j ∧ j ≤ n.readings.length ∧ [] = ds ∧ Δ ++ ⟨b3, true, .cells #[.int .i64 p, .int .i64 k] 30 (0, 0)⟩ :: S = S' ∧ t = den [(11, .int .i64 j), (10, .int .i64 n.readings.length), (9, .slice q n.readings.length cp), (5, w), (3, .pointer (some ⟨b3, 0, none⟩))] t0 ∧ Own w (((n.readings.take j).filter (countsR p k)).map (·.source)) Δ)
    n.readings.length ⟨0, _, _, [], rfl, Nat.zero_le _, rfl, rfl, keep ⟨rfl, rfl, rfl, rfl, rfl, trivial⟩, .nil⟩ ?_
  rintro i t ds S' ⟨j, t0, w, Δ, rfl, hj, rfl, rfl, rfl, ho⟩
  repeat' first|(refine gX ?_;first|refine o_v rfl rfl ?_|(refine o_splitD rfl rfl rfl ?_ ?_<;>intro h)|(refine o_split rfl rfl rfl ?_ ?_<;>intro h<;>fail_if_success exact Bool.noConfusion h)|(refine gL ?_;first|refine o_load rfl rfl rfl rfl ?_|refine o_loadR rfl rfl rfl (by omega) rfl rfl ?_|refine o_loadW rfl rfl rfl rfl ?_|refine o_loadK rfl rfl rfl ?_)|(refine gF ?_;first|refine o_fieldI rfl rfl rfl rfl ?_|refine o_field rfl rfl rfl rfl ?_)|(refine gB ?_;first|refine o_add rfl rfl rfl rfl (by omega) ?_|refine o_sub rfl rfl rfl rfl (by omega) ?_|refine o_eqNil rfl rfl rfl rfl rfl ?_)|(refine gC ?_;first|(refine o_append1 (n.readings[j]'(by first|done|omega)).source rfl rfl rfl rfl ho rfl (by rw [List.length_map]; exact Nat.le_trans filter_len (by omega)) rfl rfl rfl rfl ?_;intro w2 Δ2 ho2;refine ⟨inferInstance, ?_⟩)|refine o_callF rfl rfl rfl (c109 _ _ _ _ _) ?_)|(refine gI ?_;first|refine o_indexS rfl rfl rfl rfl rfl rfl (by omega) ?_|refine o_index rfl rfl rfl rfl rfl (by omega) ?_)|(refine gS ?_;first|refine o_store rfl rfl rfl rfl rfl rfl ?_|refine o_storeW rfl rfl rfl rfl rfl rfl ?_)|(refine o_allocZ rfl rfl ?_;intro _)|(refine o_box rfl rfl rfl ?_;intro _)|refine o_skip rfl rfl ?_|refine o_skipN rfl rfl ?_|refine o_iface rfl rfl rfl ?_|refine o_build rfl rfl rfl rfl rfl ?_|(refine o_bslice rfl rfl rfl rfl rfl rfl rfl ?_;intro _)|(refine o_splitP rfl ?_ ?_<;>intro h<;>fail_if_success exact Bool.noConfusion h))|refine o_head0 rfl ?_|refine o_end ?_|refine o_head1 rfl ?_|refine wp_seq ?_|refine o_region ?_|refine wp_block ?_|refine wp_skip ?_|refine wp_exit ?_|(refine w_condD rfl ?_ ?_<;>intro h)|(refine w_cond rfl ?_ ?_<;>intro h<;>try exact Bool.noConfusion h)|refine w_ret (Δ ++ S) (vs:=[_]) rfl (Res.tmp rfl Res.nil) ?_|refine w_ret (S) (vs:=[_]) rfl (Res.tmp rfl Res.nil) ?_
  · rename_i Δ2 ho2
    refine ⟨n.readings.length - (j + 1), by omega, _, Sb.h, j + 1, _, _, Δ2, rfl, by omega, rfl, rfl, keep ⟨rfl, rfl, rfl, rfl, rfl, trivial⟩, ?_⟩
    rw [filter_snoc (by omega), if_pos (by simp_all [countsR, countsB]), List.map_append]
    exact ho2
  · refine ⟨n.readings.length - (j + 1), by omega, _, Sb.h, j + 1, _, _, Δ, rfl, by omega, rfl, rfl, keep ⟨rfl, rfl, rfl, rfl, rfl, trivial⟩, ?_⟩
    rw [filter_snoc (by omega), if_neg (by simp_all [countsR, countsB]), List.append_nil]
    exact ho
  · refine ⟨n.readings.length - (j + 1), by omega, _, Sb.h, j + 1, _, _, Δ, rfl, by omega, rfl, rfl, keep ⟨rfl, rfl, rfl, rfl, rfl, trivial⟩, ?_⟩
    rw [filter_snoc (by omega), if_neg (by simp_all [countsR, countsB]), List.append_nil]
    exact ho
  · have : j = n.readings.length := by omega
    subst this
    rw [List.take_length] at ho
    exact ⟨Δ, ho, rfl⟩
def onlyN (n : NetG) (by' : List Int) : NetG := { n with readings := n.readings.filter fun x => by'.contains x.source }
theorem c80 (E : Env) (S : Ents) (n : NetG) (a b c d e v : Value) (by' : List Int) (hn : NetV S a b c d e n) (hv : SlV S v by') (hm : n.readings.length ≤ 100000) (hm2 : by'.length ≤ 17592186044416) : CallW Tryz.prog E 80 #[.agg #[a, b, c, d, e], v] S fun r S' => ∃ Δ w, Own w (onlyN n by').readings Δ ∧ r = .agg #[a, b, w, d, e] ∧ S' = Δ ++ S := by
  have hn0 := hn
  obtain ⟨⟨qm, cm, rfl, _, _⟩, ⟨qu, cu, rfl, _, _⟩, ⟨q, cp, rfl, _, hr⟩, ⟨qf, cf, rfl, _, _⟩, ⟨qp, cq, rfl, _, _⟩, _, _, _, _, _⟩ := hn
  have := SlI.mk hr
  refine call_in (args := [.agg #[.slice qm n.mains.length cm, .slice qu n.uses.length cu, .slice q n.readings.length cp, .slice qf n.faults.length cf, .slice qp n.prices.length cq], v]) Tryz.func80 (by decide) rfl rfl ?_
  repeat' first|(refine gX ?_;first|refine o_v rfl rfl ?_|(refine o_splitD rfl rfl rfl ?_ ?_<;>intro h)|(refine o_split rfl rfl rfl ?_ ?_<;>intro h<;>fail_if_success exact Bool.noConfusion h)|(refine gL ?_;first|refine o_load rfl rfl rfl rfl ?_|refine o_loadR rfl rfl rfl (by omega) rfl rfl ?_|refine o_loadW rfl rfl rfl rfl ?_|refine o_loadK rfl rfl rfl ?_)|(refine gF ?_;first|refine o_fieldI rfl rfl rfl rfl ?_|refine o_field rfl rfl rfl rfl ?_)|(refine gB ?_;first|refine o_add rfl rfl rfl rfl (by omega) ?_|refine o_sub rfl rfl rfl rfl (by omega) ?_|refine o_eqNil rfl rfl rfl rfl rfl ?_)|(refine gI ?_;first|refine o_indexS rfl rfl rfl rfl rfl rfl (by omega) ?_|refine o_index rfl rfl rfl rfl rfl (by omega) ?_)|(refine gS ?_;first|refine o_store rfl rfl rfl rfl rfl rfl ?_|refine o_storeW rfl rfl rfl rfl rfl rfl ?_)|(refine o_allocZ rfl rfl ?_;intro _)|(refine o_box rfl rfl rfl ?_;intro _)|refine o_skip rfl rfl ?_|refine o_skipN rfl rfl ?_|refine o_iface rfl rfl rfl ?_|refine o_build rfl rfl rfl rfl rfl ?_|(refine o_bslice rfl rfl rfl rfl rfl rfl rfl ?_;intro _)|(refine o_splitP rfl ?_ ?_<;>intro h<;>fail_if_success exact Bool.noConfusion h))|refine o_head0 rfl ?_|refine o_end ?_|refine o_head1 rfl ?_|refine wp_seq ?_|refine o_region ?_|refine wp_block ?_|refine wp_skip ?_|refine wp_exit ?_|(refine w_condD rfl ?_ ?_<;>intro h)|(refine w_cond rfl ?_ ?_<;>intro h<;>try exact Bool.noConfusion h)|refine w_ret (S) (vs:=[_]) rfl (Res.cell rfl rfl Res.nil) ?_
  rename_i b2 b4
  refine wp_loop (fun i t ds S' => ∃ (j : Nat) (t0 : Tm) (w : Value) (Δ : Ents), i = n.readings.length - j ∧ j ≤ n.readings.length ∧ [] = ds ∧ Δ ++ ⟨b4, true, .cells #[.slice none 0 0, .slice none 0 0, .slice none 0 0, .slice none 0 0, .slice none 0 0] 28 (0, 0)⟩ :: ⟨b2, true, .cells #[.slice qm n.mains.length cm, .slice qu n.uses.length cu, .slice q n.readings.length cp, .slice qf n.faults.length cf, .slice qp n.prices.length cq] 28 (0, 0)⟩ :: S = S' ∧ t = den [(11, .int .i64 j), (10, .int .i64 n.readings.length), (9, .slice q n.readings.length cp), (5, w), (1, v), (4, .pointer (some ⟨b4, 0, none⟩)), (2, .pointer (some ⟨b2, 0, none⟩))] t0 ∧ Own w ((n.readings.take j).filter fun x => by'.contains x.source) Δ)
    n.readings.length ⟨0, _, _, [], rfl, Nat.zero_le _, rfl, rfl, keep ⟨rfl, rfl, rfl, rfl, rfl, rfl, rfl, trivial⟩, .nil⟩ ?_
  rintro i t ds S' ⟨j, t0, w, Δ, rfl, hj, rfl, rfl, rfl, ho⟩
  repeat' first|(refine gX ?_;first|refine o_v rfl rfl ?_|(refine o_splitD rfl rfl rfl ?_ ?_<;>intro h)|(refine o_split rfl rfl rfl ?_ ?_<;>intro h<;>fail_if_success exact Bool.noConfusion h)|(refine gL ?_;first|refine o_load rfl rfl rfl rfl ?_|refine o_loadR rfl rfl rfl (by omega) rfl rfl ?_|refine o_loadW rfl rfl rfl rfl ?_|refine o_loadK rfl rfl rfl ?_)|(refine gF ?_;first|refine o_fieldI rfl rfl rfl rfl ?_|refine o_field rfl rfl rfl rfl ?_)|(refine gB ?_;first|refine o_add rfl rfl rfl rfl (by omega) ?_|refine o_sub rfl rfl rfl rfl (by omega) ?_|refine o_eqNil rfl rfl rfl rfl rfl ?_)|(refine gC ?_;first|(refine o_append1 (n.readings[j]'(by first|done|omega)) rfl rfl rfl rfl ho rfl (Nat.le_trans filter_len (by omega)) rfl rfl rfl rfl ?_;intro w2 Δ2 ho2;refine ⟨inferInstance, ?_⟩)|refine o_callF rfl rfl rfl (c33 _ _ by' _ _ (hv.sub Sb.h) hm2) ?_)|(refine gI ?_;first|refine o_indexS rfl rfl rfl rfl rfl rfl (by omega) ?_|refine o_index rfl rfl rfl rfl rfl (by omega) ?_)|(refine gS ?_;first|refine o_store rfl rfl rfl rfl rfl rfl ?_|refine o_storeW rfl rfl rfl rfl rfl rfl ?_)|(refine o_allocZ rfl rfl ?_;intro _)|(refine o_box rfl rfl rfl ?_;intro _)|refine o_skip rfl rfl ?_|refine o_skipN rfl rfl ?_|refine o_iface rfl rfl rfl ?_|refine o_build rfl rfl rfl rfl rfl ?_|(refine o_bslice rfl rfl rfl rfl rfl rfl rfl ?_;intro _)|(refine o_splitP rfl ?_ ?_<;>intro h<;>fail_if_success exact Bool.noConfusion h))|refine o_head0 rfl ?_|refine o_end ?_|refine o_head1 rfl ?_|refine wp_seq ?_|refine o_region ?_|refine wp_block ?_|refine wp_skip ?_|refine wp_exit ?_|(refine w_condD rfl ?_ ?_<;>intro h)|(refine w_cond rfl ?_ ?_<;>intro h<;>try exact Bool.noConfusion h)|refine w_ret (Δ ++ S) (vs:=[_]) rfl (Res.cell rfl rfl Res.nil) ?_|refine w_ret (S) (vs:=[_]) rfl (Res.cell rfl rfl Res.nil) ?_
  · rename_i Δ2 ho2
    refine ⟨n.readings.length - (j + 1), by omega, _, Sb.h, j + 1, _, _, Δ2, rfl, by omega, rfl, rfl, keep ⟨rfl, rfl, rfl, rfl, rfl, rfl, rfl, trivial⟩, ?_⟩
    rw [filter_snoc (by omega), if_pos (by assumption)]
    exact ho2
  · refine ⟨n.readings.length - (j + 1), by omega, _, Sb.h, j + 1, _, _, Δ, rfl, by omega, rfl, rfl, keep ⟨rfl, rfl, rfl, rfl, rfl, rfl, rfl, trivial⟩, ?_⟩
    rw [filter_snoc (by omega), if_neg (by simp_all), List.append_nil]
    exact ho
  · have : j = n.readings.length := by omega
    subst this
    rw [List.take_length] at ho
    have hs := ho.slv
    obtain ⟨wa, wc, rfl, _, _⟩ := hs
    repeat' first|(refine gX ?_;first|refine o_v rfl rfl ?_|(refine o_splitD rfl rfl rfl ?_ ?_<;>intro h)|(refine o_split rfl rfl rfl ?_ ?_<;>intro h<;>fail_if_success exact Bool.noConfusion h)|(refine gL ?_;first|refine o_load rfl rfl rfl rfl ?_|refine o_loadR rfl rfl rfl (by omega) rfl rfl ?_|refine o_loadW rfl rfl rfl rfl ?_|refine o_loadK rfl rfl rfl ?_)|(refine gF ?_;first|refine o_fieldI rfl rfl rfl rfl ?_|refine o_field rfl rfl rfl rfl ?_)|(refine gB ?_;first|refine o_add rfl rfl rfl rfl (by omega) ?_|refine o_sub rfl rfl rfl rfl (by omega) ?_|refine o_eqNil rfl rfl rfl rfl rfl ?_)|(refine gI ?_;first|refine o_indexS rfl rfl rfl rfl rfl rfl (by omega) ?_|refine o_index rfl rfl rfl rfl rfl (by omega) ?_)|(refine gS ?_;first|refine o_store rfl rfl rfl rfl rfl rfl ?_|refine o_storeW rfl rfl rfl rfl rfl rfl ?_)|(refine o_allocZ rfl rfl ?_;intro _)|(refine o_box rfl rfl rfl ?_;intro _)|refine o_skip rfl rfl ?_|refine o_skipN rfl rfl ?_|refine o_iface rfl rfl rfl ?_|refine o_build rfl rfl rfl rfl rfl ?_|(refine o_bslice rfl rfl rfl rfl rfl rfl rfl ?_;intro _)|(refine o_splitP rfl ?_ ?_<;>intro h<;>fail_if_success exact Bool.noConfusion h))|refine o_head0 rfl ?_|refine o_end ?_|refine o_head1 rfl ?_|refine wp_seq ?_|refine o_region ?_|refine wp_block ?_|refine wp_skip ?_|refine wp_exit ?_|(refine w_condD rfl ?_ ?_<;>intro h)|(refine w_cond rfl ?_ ?_<;>intro h<;>try exact Bool.noConfusion h)|refine w_ret (Δ ++ S) (vs:=[_]) rfl (Res.cell rfl rfl Res.nil) ?_|refine w_ret (S) (vs:=[_]) rfl (Res.cell rfl rfl Res.nil) ?_
    exact ⟨Δ, _, ho, rfl, rfl⟩
end Go.Proofs.YtpnnmklacialgaaGreat
namespace Go.Proofs.YtpnnmklacialgaaGreat
open Go.Conc
attribute [local irreducible] WP OpF OpX CallW SemH retQ

theorem c76 (E : Env) (S : Ents) (v : Value) (xs : List Int) (hv : SlV S v xs) (hm : xs.length ≤ 17592186044416) : CallW Tryz.prog E 76 #[v] S fun r S' => ∃ Δ, Own r xs Δ ∧ S' = Δ ++ S := by
  have hv0 := hv
  obtain ⟨a, cp, rfl, _, hr⟩ := hv
  refine call_in (args := [.slice a xs.length cp]) Tryz.func76 (by decide) rfl rfl ?_
  repeat' first|(refine gX ?_;first|refine o_v rfl rfl ?_|(refine o_splitD rfl rfl rfl ?_ ?_<;>intro h)|(refine o_split rfl rfl rfl ?_ ?_<;>intro h<;>fail_if_success exact Bool.noConfusion h)|(refine gL ?_;first|refine o_load rfl rfl rfl rfl ?_|refine o_loadR rfl rfl rfl (by omega) rfl rfl ?_|refine o_loadW rfl rfl rfl rfl ?_|refine o_loadK rfl rfl rfl ?_)|(refine gF ?_;first|refine o_fieldI rfl rfl rfl rfl ?_|refine o_field rfl rfl rfl rfl ?_)|(refine gB ?_;first|refine o_add rfl rfl rfl rfl (by omega) ?_|refine o_sub rfl rfl rfl rfl (by omega) ?_|refine o_eqNil rfl rfl rfl rfl rfl ?_)|(refine gC ?_;first|(refine o_append (xs := ([] : List Int)) (ys := xs) rfl rfl rfl rfl (Own.some (ty := 3) (c := #[]) IsRow.nil rfl (Nat.le_refl _)) (fun _ _ => hv0.sub Sb.h) (by simp; omega) rfl rfl rfl rfl ?_;intro w2 Δ2 ho2;refine ⟨inferInstance, ?_⟩))|(refine gI ?_;first|refine o_indexS rfl rfl rfl rfl rfl rfl (by omega) ?_|refine o_index rfl rfl rfl rfl rfl (by omega) ?_)|(refine gS ?_;first|refine o_store rfl rfl rfl rfl rfl rfl ?_|refine o_storeW rfl rfl rfl rfl rfl rfl ?_)|(refine o_allocZ rfl rfl ?_;intro _)|(refine o_box rfl rfl rfl ?_;intro _)|refine o_skip rfl rfl ?_|refine o_skipN rfl rfl ?_|refine o_iface rfl rfl rfl ?_|refine o_build rfl rfl rfl rfl rfl ?_|(refine o_bslice rfl rfl rfl rfl rfl rfl rfl ?_;intro _)|(refine o_splitP rfl ?_ ?_<;>intro h<;>fail_if_success exact Bool.noConfusion h))|refine o_head0 rfl ?_|refine o_end ?_|refine o_head1 rfl ?_|refine wp_seq ?_|refine o_region ?_|refine wp_block ?_|refine wp_skip ?_|refine wp_exit ?_|(refine w_condD rfl ?_ ?_<;>intro h)|(refine w_cond rfl ?_ ?_<;>intro h<;>try exact Bool.noConfusion h)|refine w_ret (Δ2 ++ S) (vs:=[_]) rfl (Res.tmp rfl Res.nil) ?_|refine w_ret (S) (vs:=[_]) rfl (Res.tmp rfl Res.nil) ?_
  · have : a = none := Option.isNone_iff_eq_none.1 h
    subst this
    cases xs with
    | nil => exact ⟨[], .nil, rfl⟩
    | cons x xs => exact absurd (hr (by simp)).1 (by simp)
  · exact ⟨Δ2, by simpa [pack] using ho2, rfl⟩
end Go.Proofs.YtpnnmklacialgaaGreat
namespace Go.Proofs.YtpnnmklacialgaaGreat
open Go.Conc
attribute [local irreducible] WP OpF OpX CallW SemH retQ

theorem c78 (E : Env) (S : Ents) (v : Value) (xs : List Int) (k : Nat) (hk : k < xs.length) (hv : SlV S v xs) (hm : xs.length ≤ 17592186044416) : CallW Tryz.prog E 78 #[v, .int .i64 k] S fun r S' => ∃ Δ, Own r (xs.take k ++ xs.drop (k + 1)) Δ ∧ S' = Δ ++ S := by
  have hv0 := hv
  obtain ⟨a, cp, rfl, hcp, hr⟩ := hv
  have s1 : SlV S (slVal a 1 0 k cp) (xs.take k) := by
    have := SlV.slice (En := instEncInt) hv0 (l := 0) (hi := k) (q := cp) (by omega) (by omega) (by omega)
    rw [List.drop_zero, Nat.sub_zero] at this
    exact this
  have s2 : SlV S (slVal a 1 (k + 1) xs.length cp) (xs.drop (k + 1)) := by
    have := SlV.slice (En := instEncInt) hv0 (l := k + 1) (hi := xs.length) (q := cp) (by omega) (by omega) (by omega)
    rwa [List.take_of_length_le (by simp)] at this
  refine call_in (args := [.slice a xs.length cp, .int .i64 k]) Tryz.func78 (by decide) rfl rfl ?_
  repeat' first|(refine gX ?_;first|refine o_v rfl rfl ?_|(refine o_splitD rfl rfl rfl ?_ ?_<;>intro h)|(refine o_split rfl rfl rfl ?_ ?_<;>intro h<;>fail_if_success exact Bool.noConfusion h)|(refine gL ?_;first|refine o_load rfl rfl rfl rfl ?_|refine o_loadR rfl rfl rfl (by omega) rfl rfl ?_|refine o_loadW rfl rfl rfl rfl ?_|refine o_loadK rfl rfl rfl ?_)|(refine gF ?_;first|refine o_fieldI rfl rfl rfl rfl ?_|refine o_field rfl rfl rfl rfl ?_)|(refine gB ?_;first|refine o_add rfl rfl rfl rfl (by omega) ?_|refine o_sub rfl rfl rfl rfl (by omega) ?_|refine o_eqNil rfl rfl rfl rfl rfl ?_)|(refine gC ?_;first|(refine o_append (xs := ([] : List Int)) (ys := xs.take k) rfl rfl rfl rfl (Own.some (ty := 3) (c := #[]) IsRow.nil rfl (Nat.le_refl _)) (fun _ _ => s1.sub Sb.h) (by simp; omega) rfl rfl rfl rfl ?_;intro w2 Δ2 ho2;refine ⟨inferInstance, ?_⟩)|(refine o_append (ys := xs.drop (k + 1)) rfl rfl rfl rfl ho2 (fun _ _ => s2.sub Sb.h) (by simp; omega) rfl rfl rfl rfl ?_;intro w3 Δ3 ho3;refine ⟨inferInstance, ?_⟩))|(refine gI ?_;first|refine o_indexS rfl rfl rfl rfl rfl rfl (by omega) ?_|refine o_index rfl rfl rfl rfl rfl (by omega) ?_)|(refine gS ?_;first|refine o_store rfl rfl rfl rfl rfl rfl ?_|refine o_storeW rfl rfl rfl rfl rfl rfl ?_)|refine o_slice 0 k cp rfl rfl rfl rfl rfl rfl rfl (.inr ⟨rfl, rfl⟩) (.inl rfl) (.inr ⟨rfl, rfl⟩) (by omega) (by omega) (by omega) ?_|refine o_slice (k + 1) xs.length cp rfl rfl rfl rfl rfl rfl rfl (.inl rfl) (.inr ⟨rfl, rfl, rfl⟩) (.inr ⟨rfl, rfl⟩) (by omega) (by omega) (by omega) ?_|(refine o_allocZ rfl rfl ?_;intro _)|(refine o_box rfl rfl rfl ?_;intro _)|refine o_skip rfl rfl ?_|refine o_skipN rfl rfl ?_|refine o_iface rfl rfl rfl ?_|refine o_build rfl rfl rfl rfl rfl ?_|(refine o_bslice rfl rfl rfl rfl rfl rfl rfl ?_;intro _)|(refine o_splitP rfl ?_ ?_<;>intro h<;>fail_if_success exact Bool.noConfusion h))|refine o_head0 rfl ?_|refine o_end ?_|refine o_head1 rfl ?_|refine wp_seq ?_|refine o_region ?_|refine wp_block ?_|refine wp_skip ?_|refine wp_exit ?_|(refine w_condD rfl ?_ ?_<;>intro h)|(refine w_cond rfl ?_ ?_<;>intro h<;>try exact Bool.noConfusion h)|refine w_ret (Δ3 ++ S) (vs:=[_]) rfl (Res.tmp rfl Res.nil) ?_|refine w_ret (S) (vs:=[_]) rfl (Res.tmp rfl Res.nil) ?_|(show WP _ _ _ _ (.region 1 _ true) _ _ _ _;refine o_drawnZ [(1, true), (2, true), (3, true), (5, true), (6, true), (7, true), (8, true), (0, false), (4, false), (9, true), (10, false)] [] mixed (by kernel_rfl) (List.nil_sublist _) ?_)
  exact ⟨Δ3, by simpa [pack] using ho3, rfl⟩
end Go.Proofs.YtpnnmklacialgaaGreat
namespace Go.Proofs.YtpnnmklacialgaaGreat
open Go.Conc

def markE (r : Nat) : Ent := ⟨r, true, .deferred (some [])⟩
def mks (ms : List Nat) : Ents := ms.map markE
def dsOf (ms : List Nat) : List Deferred := ms.map fun r => { target := .collected r, args := #[] }

section
variable {P : Program} {E : Env} {Stop : StopAt} {fn n : Nat} {t : Tm} {ds : List Deferred} {S : Ents}

/-- The marks of range-over-func loops are taken up one by one. -/
theorem RunE.marks {b c : Frame} {arr : Array Value} {cs : List Frame} {k : List Item} : ∀ (ms : List Nat) {w : World} {O : Nat → Prop} {F S0 : Ents}, Holds (mks ms ++ S0 ++ F) w O E.m.ro →
    (∀ w' O', Holds (S0 ++ F) w' O' E.m.ro → RunE P E Stop (G { b.st arr [] k with mode := .returning } (c :: cs)) w' O') → RunE P E Stop (G { b.st arr (dsOf ms) k with mode := .returning } (c :: cs)) w O
  | [], w, O, F, S0, hh, h => h w O (by simpa [mks] using hh)
  | r :: ms, w, O, F, S0, hh, h => by
    refine Run.step rfl fun w₁ hrel => ?_
    have hs : SemH P E.m (Instr.takeDeferred r) (mks (r :: ms) ++ S0) fun x S' => x = [] ∧ S' = ⟨r, true, .deferred none⟩ :: (mks ms ++ S0) := by
      unfold Instr.takeDeferred
      refine semH_bind (semH_getObj (o := .deferred (some [])) (by simp [mks, markE]) rfl ?_)
      simp only
      exact semH_bind (semH_setObj (o := .deferred (some [])) (S' := ⟨r, true, .deferred none⟩ :: (mks ms ++ S0)) .here rfl rfl (semH_pure ⟨rfl, rfl⟩))
    obtain ⟨v, w', es, S', hrun, hb', hh', hes, rfl, rfl⟩ := hs F O w₁ w₁ #[] (Base.refl O w₁) (by rw [grow_self]; exact hh.rely hrel) (by simp)
    refine ⟨G { b.st arr (dsOf ms) k with mode := .returning } (c :: cs), w', seen P b.fn es, ?_, ⟨hb'.tape, hb'.os, hb'.output, hb'.size, hb'.keep, fun e he => hes e (seen_sub e he)⟩, ?_⟩
    · simp [G, stepG, unwind, Frame.st, dsOf, hrun, GStep.after, -Sem.runT_eq]
    · exact RunE.marks ms (F := F) (S0 := S0) (hh'.sub (List.Sublist.cons _ (List.Sublist.refl _))) h

def retM (P : Program) (m : Mode) (rs : Array ResultVar) (R : Value → Ents → Prop) : Post
  | .ret, t, ds, S => ∃ ms S0, ds = dsOf ms ∧ S.Perm (mks ms ++ S0) ∧ SemH P m (resultsT rs t) S0 R
  | .normal, t, ds, S => ∃ ms S0, ds = dsOf ms ∧ S.Perm (mks ms ++ S0) ∧ SemH P m (resultsT rs t) S0 R
  | _, _, _, _ => False

theorem callM_of {f : FuncId} {fr : Func} {c : Code} {args : Array Value} {R : Value → Ents → Prop} (hf : P.funcs[f]? = some fr) (hname : (fr.name == "runtime.NumGoroutine") = false) (hb : fr.body = some c) (hargs : args.size ≤ fr.ntmps)
    (h : WP P E f fr.ntmps c (retM P E.m fr.results R) (enterT args) [] S) : CallW P E f args S R := by
  refine ⟨⟨fr, hf, hname, by rw [hb]; rfl⟩, fun F c' cs w O Stop hh hc => ?_⟩
  rw [enter_st args hf hb]
  refine h F (base f) _ [] (c' :: cs) w O Stop rfl ⟨by simp [base], fun _ => rfl⟩ (agree_enter hargs) hh fun e t' ds' S' arr' w' O' q ha hh' => ?_
  have key : ∀ (k' : List Item) w₁, Rely O' E.m w' w₁ → (∃ ms S0, ds' = dsOf ms ∧ S'.Perm (mks ms ++ S0) ∧ SemH P E.m (resultsT fr.results t') S0 R) → RunE P E Stop (G { (base f).st arr' ds' k' with mode := .returning } (c' :: cs)) w₁ O' := by
    rintro k' w₁ hr ⟨ms, S0, rfl, hp, hs⟩
    exact RunE.marks ms (F := F) (S0 := S0) ((hh'.perm (hp.append_right F)).rely hr) fun w₂ O₂ hh₂ => RunE.returns hf rfl rfl ha hs hh₂ hc
  cases e with
  | normal => exact RunE.silent (g' := G { (base f).st arr' ds' [] with mode := .returning } (c' :: cs)) rfl (fun _ => by simp [G, stepG, stepG.exec, Frame.st, base, default, instInhabitedFrame.default]) fun w₁ hr => key [] w₁ hr q
  | ret =>
    intro k'
    exact RunE.silent (g' := G { (base f).st arr' ds' (.code .ret :: k') with mode := .returning } (c' :: cs)) rfl (fun _ => by simp [G, stepG, stepG.exec, Frame.st, base, default, instInhabitedFrame.default]) fun w₁ hr => key _ w₁ hr q
  | exit id => exact q.elim
  | goto l => exact q.elim
  | panic c => exact q.elim
  | outgrown => exact q.elim
end
end Go.Proofs.YtpnnmklacialgaaGreat
namespace Go.Proofs.YtpnnmklacialgaaGreat
open Go.Conc

section
variable {P : Program} {E : Env} {Stop : StopAt} {fn n : Nat} {t : Tm} {ds : List Deferred} {S : Ents}

def finQ (lp : Nat) (R : Value → Ents → Prop) : Post
  | .normal, t, ds, S => ds = [] ∧ ∃ L S', Upd S lp (.loop L) (.loop { L with state := .ready, pending := none }) S' ∧ R (.bool true) S'
  | .ret, t, ds, S => ds = [] ∧ ∃ L S', Upd S lp (.loop L) (.loop { L with state := .done, pending := some .ret }) S' ∧ R (.bool false) S'
  | _, _, _, _ => False
def midQ (P : Program) (E : Env) (fn n lp : Nat) (body : Code) (R : Value → Ents → Prop) : Post
  | .normal, t, ds, S => ds = [] ∧ ∃ L S', L.state = .ready ∧ Upd S lp (.loop L) (.loop { L with state := .busy }) S' ∧ WP P E fn n body (finQ lp R) t [] S'
  | _, _, _, _ => False

def rbase (f lp : Nat) : Frame := { fn := f, tmps := #[], todo := [], defers := [], mode := .run, kind := .normal, roundOf := some lp }
theorem round_st (lp f : Nat) (arr : Array Value) (a c : Code) : Frame.round lp f arr a c .normal = (rbase f lp).st arr [] [.code a, .beginRound, .code c] := rfl

theorem semH_beginRound {m : Mode} {lp : Nat} {L : Loop} {S S' : Ents} {R : Unit → Ents → Prop} (hl : L.state = .ready) (hu : Upd S lp (.loop L) (.loop { L with state := .busy }) S') (h : R () S') : SemH P m (Instr.beginRound lp) S R := by
  unfold Instr.beginRound Instr.getLoop
  refine semH_bind (semH_bind (semH_getObj hu.mem rfl (semH_pure ?_)))
  refine semH_bind (semH_setObj hu rfl rfl ?_)
  rw [hl]
  exact semH_pure h
theorem semH_endRound {m : Mode} {lp : Nat} {L : Loop} {S S' : Ents} {j : Option Code} {R : Value → Ents → Prop} (hu : Upd S lp (.loop L) (.loop { L with state := if j.isNone then .ready else .done, pending := j }) S') (h : R (.bool j.isNone) S') : SemH P m (Instr.endRound lp j) S R := by
  unfold Instr.endRound Instr.getLoop
  refine semH_bind (semH_bind (semH_getObj hu.mem rfl (semH_pure ?_)))
  exact semH_bind (semH_setObj hu rfl rfl (semH_pure h))

/-- Inside a round. -/
def inRd (E : Env) : Env := { E with rd := true }
theorem roundW_of {lp : Nat} {arr : Array Value} {assign body : Code} {R : Value → Ents → Prop} (ha : Agree n arr t) (h : WP P (inRd E) fn n assign (midQ P (inRd E) fn n lp body R) t [] S) : RoundW P E lp fn arr assign body S R := by
  intro F c cs w O Stop hh hc
  rw [round_st]
  refine h F (rbase fn lp) arr [.beginRound, .code body] (c :: cs) w O Stop rfl ⟨by simp [rbase], fun h => by cases h⟩ ha hh fun e t1 ds1 S1 arr1 w1 O1 q ha1 hh1 => ?_
  cases e with
  | normal =>
    obtain ⟨rfl, L, S2, hst, hu, hb⟩ := q
    refine Run.step rfl fun w₁ hrel => ?_
    obtain ⟨_, w', es, S3, hrun, hb', hh', hes, rfl⟩ := (semH_beginRound (P := P) (m := E.m) (R := fun _ S' => S' = S2) hst hu rfl) F O1 w₁ w₁ #[] (Base.refl O1 w₁) (by rw [grow_self]; exact hh1.rely hrel) (by simp)
    refine ⟨G ((rbase fn lp).st arr1 [] [.code body]) (c :: cs), w', seen P fn es, ?_, ⟨hb'.tape, hb'.os, hb'.output, hb'.size, hb'.keep, fun e he => hes e (seen_sub e he)⟩, ?_⟩
    · have hrun' : Sem.runT P (do Instr.beginRound lp; pure Next.skip) w₁ #[] = (.ok .skip w', es) := by
        show (Sem.bind _ _).runT P w₁ #[] = _
        rw [Sem.runT_bind', hrun]; rfl
      have hrun2 : Sem.runT P ((fun _ => Next.skip) <$> Instr.beginRound lp) w₁ #[] = (.ok .skip w', es) := hrun'
      simp [G, stepG, stepG.exec, stepG.apply, Frame.st, rbase, hrun2, -Sem.runT_eq, GStep.after, Frame.finish]
    · refine hb F (rbase fn lp) arr1 [] (c :: cs) w' _ Stop rfl ⟨by simp [rbase], fun h => by cases h⟩ ha1 hh' fun e t2 ds2 S4 arr2 w2 O2 q2 ha2 hh2 => ?_
      cases e with
      | normal =>
        obtain ⟨rfl, L', S5, hu', hR⟩ := q2
        refine Run.step rfl fun w₂ hrel2 => ?_
        obtain ⟨v, w3, es3, S6, hrun3, hb3, hh3, hes3, rfl, rfl⟩ := (semH_endRound (P := P) (m := E.m) (j := none) (R := fun v S' => v = .bool true ∧ S' = S5) hu' ⟨rfl, rfl⟩) F O2 w₂ w₂ #[] (Base.refl O2 w₂) (by rw [grow_self]; exact hh2.rely hrel2) (by simp)
        refine ⟨G (c.finish (.bool true)) cs, w3, seen P fn es3, ?_, ⟨hb3.tape, hb3.os, hb3.output, hb3.size, hb3.keep, fun e he => hes3 e (seen_sub e he)⟩, hc _ _ _ _ hR hh3⟩
        simp [G, stepG, stepG.exec, Frame.st, rbase, hrun3, -Sem.runT_eq, GStep.after, doReturn]
      | ret =>
        obtain ⟨rfl, L', S5, hu', hR⟩ := q2
        intro k'
        refine Run.step rfl fun w₂ hrel2 => ?_
        obtain ⟨v, w3, es3, S6, hrun3, hb3, hh3, hes3, rfl, rfl⟩ := (semH_endRound (P := P) (m := E.m) (j := some .ret) (R := fun v S' => v = .bool false ∧ S' = S5) hu' ⟨rfl, rfl⟩) F O2 w₂ w₂ #[] (Base.refl O2 w₂) (by rw [grow_self]; exact hh2.rely hrel2) (by simp)
        refine ⟨G (c.finish (.bool false)) cs, w3, seen P fn es3, ?_, ⟨hb3.tape, hb3.os, hb3.output, hb3.size, hb3.keep, fun e he => hes3 e (seen_sub e he)⟩, hc _ _ _ _ hR hh3⟩
        simp [G, stepG, stepG.exec, Frame.st, rbase, hrun3, -Sem.runT_eq, GStep.after, doReturn]
      | exit id => exact q2.elim
      | goto l => exact q2.elim
      | panic c => exact q2.elim
      | outgrown => exact q2.elim
  | ret => exact q.elim
  | exit id => exact q.elim
  | goto l => exact q.elim
  | panic c => exact q.elim
  | outgrown => exact q.elim
end
end Go.Proofs.YtpnnmklacialgaaGreat
namespace Go.Proofs.YtpnnmklacialgaaGreat
open Go.Conc

/-- A loop's entry. -/
@[reducible] def loopE (lp : Nat) (L : Loop) : Ent := ⟨lp, true, .loop L⟩

section
variable {P : Program} {E : Env} {fn n : Nat} {t : Tm} {ds : List Deferred} {S : Ents} {Q : Post}

theorem CallW.rd {f : FuncId} {args : Array Value} {R : Value → Ents → Prop} {r : Bool} (h : CallW P { E with rd := r } f args S R) : CallW P E f args S R := h
theorem CallW.inRd {f : FuncId} {args : Array Value} {R : Value → Ents → Prop} (h : CallW P E f args S R) : CallW P (inRd E) f args S R := h

theorem CallW.weaken {f : FuncId} {args : Array Value} {R R' : Value → Ents → Prop} (h : CallW P E f args S R) (hr : ∀ v S', R v S' → ∃ S'', List.Sublist S'' S' ∧ R' v S'') : CallW P E f args S R' :=
  ⟨h.1, fun F c cs w O Stop h1 h2 => h.2 F c cs w O Stop h1 fun v S' w' O' q hh => let ⟨S'', hs, hq⟩ := hr v S' q; h2 v S'' w' O' hq (hh.sub (hs.append_right F))⟩
theorem RoundW.sub {lp : Nat} {f : FuncId} {tmps : Array Value} {assign body : Code} {S S' : Ents} {R : Value → Ents → Prop} (h : RoundW P E lp f tmps assign body S' R) (hs : List.Sublist S' S) : RoundW P E lp f tmps assign body S R :=
  fun F c cs w O Stop h1 h2 => h F c cs w O Stop (h1.sub (hs.append_right F)) h2

def mkD (r : Nat) : Deferred := { target := .collected r, args := #[] }
def newL (fn : FuncId) (arr : Array Value) (params : Array Tmp) (assign body : Code) (r : Nat) : Loop := { state := .ready, pending := none, fn, tmps := arr, params, assign, body, defers := r }

theorem semH_enterLoop {m : Mode} {arr : Array Value} {params : Array Tmp} {assign body : Code} {R : Nat × List Deferred → Ents → Prop} (h : ∀ r lp, R (lp, [mkD r]) (loopE lp (newL fn arr params assign body r) :: markE r :: S)) : SemH P m (Instr.enterLoop fn arr params assign body none) S R := by
  unfold Instr.enterLoop
  refine semH_bind (semH_bind (semH_new fun r => semH_pure (semH_bind (semH_new fun lp => semH_pure (h r lp)))))

theorem semH_endLoop {m : Mode} {lp : Nat} {L : Loop} {S S' : Ents} {R : Option Code → Ents → Prop} (hst : L.state ≠ .busy) (hu : Upd S lp (.loop L) (.loop { L with state := .exhausted }) S') (h : R L.pending S') : SemH P m (Instr.endLoop lp) S R := by
  unfold Instr.endLoop Instr.getLoop
  refine semH_bind (semH_bind (semH_getObj hu.mem rfl (semH_pure ?_)))
  have : (L.state == LoopState.busy) = false := by cases hs : L.state <;> simp_all <;> rfl
  rw [this]
  exact semH_bind (semH_setObj hu rfl rfl (semH_pure h))

def rfQ (Q : Post) (t : Tm) (ds : List Deferred) (S : Ents) : Option Code → Prop
  | none => Q .normal t ds S
  | some .ret => Q .ret t ds S
  | some (.exit id) => Q (.exit id) t ds S
  | _ => False

theorem wp_rangeFunc {f : Operand} {params : Array Tmp} {assign body : Code} {F : FuncId} {first captured : Array Value} {R : Nat → Nat → Array Value → Value → Ents → Prop} (hf : ev t f = .func (.func F) first captured) (hrd : E.rd = false)
    (h : ∀ r lp arr, Agree n arr t → CallW P E F (first ++ #[.func (.yield lp) #[] #[]] ++ captured) (loopE lp (newL fn arr params assign body r) :: markE r :: S) (R r lp arr))
    (hk : ∀ r lp arr v S', R r lp arr v S' → ∃ L S'', L.state ≠ .busy ∧ Upd S' lp (.loop L) (.loop { L with state := .exhausted }) S'' ∧ rfQ Q t (mkD r :: ds) S'' L.pending) : WP P E fn n (.rangeFunc f params assign body) Q t ds S := by
  intro F' b arr k cs w O Stop h1 h2 h3 h4 h5
  have hro : b.roundOf = none := h2.2 hrd
  have hev : (b.st arr ds (.code (.rangeFunc f params assign body) :: k)).eval f = .func (.func F) first captured := by rw [eval_st h3]; exact hf
  refine Run.step rfl fun w₁ hrel => ?_
  obtain ⟨x, w', es, S1, hrun, hb, hh, hes, r, lp, rfl, rfl⟩ := (semH_enterLoop (P := P) (m := E.m) (fn := fn) (arr := arr) (params := params) (assign := assign) (body := body) (S := S) (R := fun x S' => ∃ r lp, x = (lp, [mkD r]) ∧ S' = loopE lp (newL fn arr params assign body r) :: markE r :: S) fun r lp => ⟨r, lp, rfl, rfl⟩) F' O w₁ w₁ #[] (Base.refl O w₁) (by rw [grow_self]; exact h4.rely hrel) (by simp)
  have hC := h r lp arr h3
  have hcall : ∀ w es', (callFunc F (first ++ #[.func (.yield lp) #[] #[]] ++ captured)).runT P w es' = (.ok (.enter F (first ++ #[.func (.yield lp) #[] #[]] ++ captured)) w, es') := fun w es' => run_callFunc hC.1 _ w es'
  refine ⟨G (Frame.enter P F (first ++ #[.func (.yield lp) #[] #[]] ++ captured) .normal) (b.st arr (mkD r :: ds) (.inRangeFunc lp :: k) :: cs), w', seen P b.fn es, ?_, ⟨hb.tape, hb.os, hb.output, hb.size, hb.keep, fun e he => hes e (seen_sub e he)⟩, ?_⟩
  · have hrun' : Sem.runT P (Instr.enterLoop b.fn arr params assign body b.roundOf) w₁ #[] = (.ok (lp, [mkD r]) w', es) := by rw [h1, hro]; exact hrun
    have he2 : ∀ x, ({ b with tmps := arr, defers := mkD r :: ds, todo := .inRangeFunc lp :: k, mode := .run } : Frame).eval x = (b.st arr ds (.code (.rangeFunc f params assign body) :: k)).eval x := fun x => by cases x <;> rfl
    have hinv : Sem.runT P (do let d ← resolve ({ b with tmps := arr, defers := mkD r :: ds, todo := .inRangeFunc lp :: k, mode := .run } : Frame).eval { callee := .value f, args := #[.const (.func (.yield lp) #[] #[])], argTypes := #[] } 0; invoke d.target d.args) w' #[] = (.ok (.enter F (first ++ #[.func (.yield lp) #[] #[]] ++ captured)) w', #[]) := by
      unfold resolve
      simp only [he2, hev, Deferred.ofValue]
      show (Sem.bind _ _).runT P w' #[] = _
      rw [Sem.runT_bind']
      simp only [pure, Sem.runT, invoke]
      have e3 : (first ++ Array.map ({ b with tmps := arr, defers := mkD r :: ds, todo := .inRangeFunc lp :: k, mode := .run } : Frame).eval #[.const (.func (.yield lp) #[] #[])]) ++ captured = first ++ #[.func (.yield lp) #[] #[]] ++ captured := by simp [Frame.eval]
      rw [e3]
      exact hcall w' #[]
    have hkk : (b.kind == CallKind.early) = false := by simpa using h2.1
    simp [G, stepG, stepG.exec, stepG.apply, Frame.st, hrun', hinv, -Sem.runT_eq, hkk, GStep.after, seen_none]
  · refine hC.2 F' _ cs w' _ Stop hh fun v S2 w2 O2 hR hh2 => ?_
    obtain ⟨L, S3, hst, hu, hq⟩ := hk r lp arr v S2 hR
    have hfin : (b.st arr (mkD r :: ds) (.inRangeFunc lp :: k)).finish v = b.st arr (mkD r :: ds) (.endRangeFunc lp :: k) := rfl
    rw [hfin]
    refine Run.step rfl fun w₂ hrel2 => ?_
    obtain ⟨j, w3, es3, S4, hrun3, hb3, hh3, hes3, rfl, rfl⟩ := (semH_endLoop (P := P) (m := E.m) (R := fun j S' => j = L.pending ∧ S' = S3) hst hu ⟨rfl, rfl⟩) F' O2 w₂ w₂ #[] (Base.refl O2 w₂) (by rw [grow_self]; exact hh2.rely hrel2) (by simp)
    refine ⟨G (b.st arr (mkD r :: ds) ((L.pending.map Item.code).toList ++ k)) cs, w3, seen P b.fn es3, ?_, ⟨hb3.tape, hb3.os, hb3.output, hb3.size, hb3.keep, fun e he => hes3 e (seen_sub e he)⟩, ?_⟩
    · simp [G, stepG, stepG.exec, Frame.st, hrun3, -Sem.runT_eq, GStep.after]
    · cases hp : L.pending with
      | none =>
        rw [hp] at hq
        exact h5 .normal _ _ _ _ _ _ hq h3 hh3
      | some c =>
        rw [hp] at hq
        cases c <;> first
          | exact hq.elim
          | exact h5 .ret _ _ _ _ _ _ hq h3 hh3 k
          | (obtain ⟨k', hk', hg⟩ := h5 _ _ _ _ _ _ _ hq h3 hh3
             exact RunE.silent rfl (fun _ => st_exit hk') fun w₃ hr3 => RunE.rely hg hr3)
end

section
variable {E : Env} {fn n : Nat} {Q : Post} {K : Tm → List Deferred → Ents → Prop} {l : TL} {t : Tm} {ds : List Deferred} {S Z Zi : Ents} {ops : Array Oper} {i : Nat} {z : Bool} {rest : List (Nat × Bool)} {sq : Bool}
variable {d : Nat} {ty : TypeId} {pos : String} {af : Array Edge} {g : Option (Nat × Bool)}

/-- The temporaries of a round. -/
def rndT (L : Loop) (vs : List Value) : Array Value := (L.params.zip vs.toArray).foldl (fun tmps (t, a) => tmps.setIfInBounds t a) L.tmps

/-- A call of a loop's body. -/
theorem o_yield {x : Nat} {args : Array Operand} {ats : Array TypeId} {vs : List Value} {lp : Nat} {L : Loop} {S1 : Ents} {R : Value → Ents → Prop} (hw : wantL ops l t g = some true) (hd : Nat.blt d n = true) (hf : evL l t (.tmp x) = some (.func (.yield lp) #[] #[])) (hx : evLs l t args.toList = some vs)
    (hl : loopE lp L ∈ S) (hn : vs.length = L.params.size) (hs : List.Sublist S1 S) (hr : RoundW Tryz.prog E lp L.fn (rndT L vs) L.assign L.body S1 R)
    (h : ∀ v S', R v S' → KZ sq S S' ∧ OpF Tryz.prog E fn n ops sq rest K (den ((d, v) :: l) t) ds S' S') : OpX Tryz.prog E fn n ops sq i z rest ⟨some d, .call { callee := .value (.tmp x), args := args, argTypes := ats }, ty, pos, af, g⟩ K (den l t) ds Zi Z S := by
  refine o_A rfl (R := R) ⟨hd, .inr ⟨wantL_ok (o := ⟨some d, .call { callee := .value (.tmp x), args := args, argTypes := ats }, ty, pos, af, g⟩) hw, rfl, rfl, .inr (.inr ?_)⟩⟩ fun v S' hR => ?_
  · unfold execOp
    simp only [resolve, evL_eq hf, Deferred.ofValue]
    refine semH_bind (semH_pure ?_)
    have e : (#[] ++ Array.map (ev (den l t)) args : Array Value) = vs.toArray := by
      have := evLs_eq hx
      rw [← this]; apply Array.ext'; simp
    simp only [invoke]
    rw [e]
    unfold Instr.yield Instr.getLoop
    refine semH_bind (semH_bind (semH_getObj hl rfl (semH_pure ?_)))
    rw [if_neg (by simp [hn])]
    exact semH_pure ⟨lp, L.fn, rndT L vs, L.assign, L.body, rfl, hr.sub hs⟩
  · obtain ⟨h1, h2⟩ := h v S' hR
    exact ⟨S', fun hq hz => ⟨fun _ => hz.trans (h1.h hq), List.Sublist.refl _⟩, h2⟩
end

theorem rndT1 {L : Loop} {q : Nat} {v : Value} (hq : L.params = #[q]) : rndT L [v] = L.tmps.setIfInBounds q v := by
  unfold rndT
  rw [hq]
  simp
/-- A round of a loop with one parameter. -/
theorem round1 {P : Program} {E : Env} {n lp q : Nat} {L : Loop} {v : Value} {S : Ents} {R : Value → Ents → Prop} {l : TL} {t0 : Tm} (hq : L.params = #[q]) (hlt : q < n) (ha : Agree n L.tmps (den l t0))
    (h : WP P (inRd E) L.fn n L.assign (midQ P (inRd E) L.fn n lp L.body R) (den ((q, v) :: l) t0) [] S) : RoundW P E lp L.fn (rndT L [v]) L.assign L.body S R := by
  rw [rndT1 hq]
  exact roundW_of (t := den ((q, v) :: l) t0) (ha.set hlt v) h
theorem mid_of {P : Program} {E : Env} {fn n lp : Nat} {body : Code} {R : Value → Ents → Prop} {t : Tm} {S : Ents} {L : Loop} {re : Obj → Ents} [hu : OwnS lp S (.loop L) re] (hst : L.state = .ready)
    (h : WP P E fn n body (finQ lp R) t [] (re (.loop { L with state := .busy }))) : midQ P E fn n lp body R .normal t [] S := ⟨rfl, L, _, hst, hu.h _, h⟩
theorem fin_of {lp : Nat} {R : Value → Ents → Prop} {t : Tm} {S : Ents} {L : Loop} {re : Obj → Ents} [hu : OwnS lp S (.loop L) re] (h : R (.bool true) (re (.loop { L with state := .ready, pending := none }))) : finQ lp R .normal t [] S := ⟨rfl, L, _, hu.h _, h⟩
theorem fin_ofB {lp id : Nat} {R : Value → Ents → Prop} {t : Tm} {S : Ents} {L : Loop} {re : Obj → Ents} [hu : OwnS lp S (.loop L) re] (h : R (.bool true) (re (.loop { L with state := .ready, pending := none }))) : blockQ id (finQ lp R) .normal t [] S := ⟨rfl, L, _, hu.h _, h⟩
/-- Results of functions with range-over-func loops. -/
theorem call_inM {P : Program} {E : Env} {S : Ents} {f : FuncId} {fr : Func} {c : Code} {args : List Value} {R : Value → Ents → Prop} (hf : P.funcs[f]? = some fr) (hname : (fr.name == "runtime.NumGoroutine") = false) (hb : fr.body = some c) (hargs : Nat.ble args.length fr.ntmps = true)
    (h : WP P { E with rd := false } f fr.ntmps c (retM P E.m fr.results R) (den (dens args 0) fun _ => undef) (dsOf []) (mks [] ++ S)) : CallW P E f args.toArray S R := by
  refine CallW.rd (r := false) (callM_of hf hname hb (by simpa using Nat.le_of_ble_eq_true hargs) ?_)
  have e : enterT args.toArray = den (dens args 0) fun _ => undef := by
    funext j
    rw [den_dens]
    simp [enterT, Array.getD, List.getD]
    split <;> simp_all
  rw [e]
  exact h

/-- A return; ms: the marks. -/
theorem w_retM {E : Env} {fn n : Nat} {l : TL} {t : Tm} {S : Ents} {Q : Post} {rs : Array ResultVar} {vs : List Value} {m : Mode} {R : Value → Ents → Prop} (ms : List Nat) (S0 : Ents) (hs : List.Sublist (mks ms ++ S0) S) (hq : Q .ret = retM Tryz.prog m rs R .ret) (hv : Res S0 l t rs.toList vs) (h : R (pack vs) S0) : WP Tryz.prog E fn n .ret Q (den l t) (dsOf ms) S :=
  WP.sub (wp_ret (by rw [hq]; exact ⟨ms, S0, rfl, List.Perm.refl _, res_sem hv h⟩)) hs
theorem dsOf_cons (r : Nat) (ms : List Nat) : mkD r :: dsOf ms = dsOf (r :: ms) := rfl
end Go.Proofs.YtpnnmklacialgaaGreat
