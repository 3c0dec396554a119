/- Whether a net is valid, by the specification.
   The two checks agree; what is asked.
   What is asked, by the specification; lists of numbers.
   Ranges.
   Sums of ranges.
   Which readings count; nets with some readings alone.
   Copies of lists of numbers.
   Range over a function: loops, rounds, and what a function leaves behind at its return.
   Rounds and loops over functions.
   The rules of range-over-func loops.
   Stores into rows, arrays sliced, slices made, structs compared.
   Structs of numbers compared; appending a part of a slice to another part; clearing. -/
import Derived.Test.YtpnnmklacialgaaGreatP03
set_option linter.unusedVariables false
set_option linter.unusedSimpArgs false
namespace Go.Proofs.YtpnnmklacialgaaGreat
open Go.Conc
attribute [local irreducible] WP OpF OpX CallW SemH retQ
theorem and_right_false {a b : Bool} (h : b = false) : (a && b) = false := by simp [h]
def upOkR (l : List MainG) (x : MainG) : Bool := decide (x.up ≤ 0) || decide (0 ≤ idxF (fun y : MainG => y.id == x.up) l 0)
def mainsR (l : List MainG) : Bool := riseN (·.id) (fun x => mainOk x && upOkR l x) l && decide (l.length ≤ 12)
def validR (n : NetG) : Bool :=
  mainsR n.mains && decide (n.uses.length ≤ 60) && decide (n.readings.length ≤ 60) && decide (n.faults.length ≤ 60) && decide (n.prices.length ≤ 10) &&
  riseN (·.source) (fun x => useOk x && placeOk n x.main) n.uses && riseN (·.source) (fun x => readOk x && placeOk n x.main) n.readings && riseN (·.source) (fun x => faultOk x && placeOk n x.main) n.faults && riseN (·.since) priceOk n.prices
theorem c91 (E : Env) (S : Ents) (l : List MainG) (id : Int) (v : Value) (hv : SlV S v l) (hmax : l.length ≤ 17592186044416) :
    CallW Tryz.prog E 91 #[v, iv id] S fun r S' => r = iv (idxF (fun x : MainG => x.id == id) l 0) ∧ S' = S := by
  obtain ⟨a, cap, rfl, _, hr⟩ := hv
  have := SlI.mk hr
  refine call_in (args := [.slice a l.length cap, iv id]) Tryz.func91 (by decide) rfl rfl ?_
  repeat' first|(refine gX ?_;first|refine o_v rfl rfl ?_|(refine gL ?_;first|refine o_load rfl rfl rfl rfl ?_|refine o_loadR rfl rfl rfl (by omega) rfl rfl ?_|refine o_loadW rfl rfl rfl rfl ?_|refine o_loadK rfl rfl rfl ?_)|(refine gF ?_;first|refine o_fieldI rfl rfl rfl rfl ?_|refine o_field rfl rfl rfl rfl ?_)|(refine gB ?_;first|refine o_add rfl rfl rfl rfl (by omega) ?_|refine o_eqNil rfl rfl rfl rfl rfl ?_)|(refine gI ?_;first|refine o_indexS rfl rfl rfl rfl rfl rfl (by omega) ?_|refine o_index rfl rfl rfl rfl rfl (by omega) ?_)|(refine gS ?_;first|refine o_store rfl rfl rfl rfl rfl rfl ?_|refine o_storeW rfl rfl rfl rfl rfl rfl ?_)|(refine o_allocZ rfl rfl ?_;intro _))|refine o_head0 rfl ?_|refine o_end ?_|refine o_head1 rfl ?_|refine wp_seq ?_|refine o_region ?_|refine wp_block ?_|refine wp_skip ?_|refine wp_exit ?_|(refine w_condD rfl ?_ ?_<;>intro h)|(refine w_cond rfl ?_ ?_<;>intro h<;>try exact Bool.noConfusion h)|refine w_ret (S) (vs:=[_]) rfl (Res.tmp rfl Res.nil) ?_
  refine wp_loop (fun i t ds S' => ∃ (j : Nat) (t0 : Tm), i = l.length - j ∧ j ≤ l.length ∧ [] = ds ∧ S = S' ∧ t = den [(9, .int .i64 j), (8, .int .i64 l.length), (7, .slice a l.length cap), (1, .int .i64 id)] t0 ∧ idxF (fun x : MainG => x.id == id) (l.drop j) j = idxF (fun x : MainG => x.id == id) l 0)
    l.length ⟨0, _, rfl, Nat.zero_le _, rfl, rfl, keep ⟨rfl, rfl, rfl, rfl, trivial⟩, rfl⟩ ?_
  rintro i t ds S' ⟨j, t0, rfl, hj, rfl, rfl, rfl, hp⟩
  repeat' first|(refine gX ?_;first|refine o_v rfl rfl ?_|(refine gL ?_;first|refine o_load rfl rfl rfl rfl ?_|refine o_loadR rfl rfl rfl (by omega) rfl rfl ?_|refine o_loadW rfl rfl rfl rfl ?_|refine o_loadK rfl rfl rfl ?_)|(refine gF ?_;first|refine o_fieldI rfl rfl rfl rfl ?_|refine o_field rfl rfl rfl rfl ?_)|(refine gB ?_;first|refine o_add rfl rfl rfl rfl (by omega) ?_|refine o_eqNil rfl rfl rfl rfl rfl ?_)|(refine gI ?_;first|refine o_indexS rfl rfl rfl rfl rfl rfl (by omega) ?_|refine o_index rfl rfl rfl rfl rfl (by omega) ?_)|(refine gS ?_;first|refine o_store rfl rfl rfl rfl rfl rfl ?_|refine o_storeW rfl rfl rfl rfl rfl rfl ?_)|(refine o_allocZ rfl rfl ?_;intro _))|refine o_head0 rfl ?_|refine o_end ?_|refine o_head1 rfl ?_|refine wp_seq ?_|refine o_region ?_|refine wp_block ?_|refine wp_skip ?_|refine wp_exit ?_|(refine w_condD rfl ?_ ?_<;>intro h)|(refine w_cond rfl ?_ ?_<;>intro h<;>try exact Bool.noConfusion h)|refine w_ret (S) (vs:=[_]) rfl (Res.tmp rfl Res.nil) ?_
  · rw [idxF_drop (by omega)] at hp
    simp_all [pack, iv]
  · rw [idxF_drop (by omega)] at hp
    exact ⟨l.length - (j + 1), by omega, _, Sb.h, j + 1, _, rfl, by omega, rfl, rfl, keep ⟨rfl, rfl, rfl, rfl, trivial⟩, by simp_all⟩
  · have : j = l.length := by omega
    subst this
    rw [← hp]; simp [idxF, pack, iv]
theorem c95 (E : Env) (S : Ents) (l : List MainG) (v : Value) (hv : SlV S v l) (hmax : l.length ≤ 17592186044416) : CallW Tryz.prog E 95 #[v] S fun r S' => r = .bool (mainsR l) ∧ S' = S := by
  have hv0 := hv
  obtain ⟨a, cap, rfl, _, hr⟩ := hv
  have := SlI.mk hr
  refine call_in (args := [.slice a l.length cap]) Tryz.func95 (by decide) rfl rfl ?_
  repeat' first|(refine gX ?_;first|refine o_v rfl rfl ?_|(refine o_splitD rfl rfl rfl ?_ ?_<;>intro h)|(refine o_split rfl rfl rfl ?_ ?_<;>intro h<;>fail_if_success exact Bool.noConfusion h)|(refine gL ?_;first|refine o_load rfl rfl rfl rfl ?_|refine o_loadR rfl rfl rfl (by omega) rfl rfl ?_|refine o_loadW rfl rfl rfl rfl ?_|refine o_loadK rfl rfl rfl ?_)|(refine gF ?_;first|refine o_fieldI rfl rfl rfl rfl ?_|refine o_field rfl rfl rfl rfl ?_)|(refine gB ?_;first|refine o_add rfl rfl rfl rfl (by omega) ?_|refine o_sub rfl rfl rfl rfl (by omega) ?_)|(refine gI ?_;first|refine o_indexS rfl rfl rfl rfl rfl rfl (by omega) ?_|refine o_index rfl rfl rfl rfl rfl (by omega) ?_)|(refine gS ?_;first|refine o_store rfl rfl rfl rfl rfl rfl ?_|refine o_storeW rfl rfl rfl rfl rfl rfl ?_)|(refine o_allocZ rfl rfl ?_;intro _)|refine o_skip rfl rfl ?_|refine o_skipN rfl rfl ?_|(refine o_splitP rfl ?_ ?_<;>intro h<;>fail_if_success exact Bool.noConfusion h))|refine o_head0 rfl ?_|refine o_end ?_|refine o_head1 rfl ?_|refine wp_seq ?_|refine o_region ?_|refine wp_block ?_|refine wp_skip ?_|refine wp_exit ?_|(refine w_condD rfl ?_ ?_<;>intro h)|(refine w_cond rfl ?_ ?_<;>intro h<;>try exact Bool.noConfusion h)|refine w_ret (S) (vs:=[_]) rfl (Res.tmp rfl Res.nil) ?_|(show WP _ _ _ _ (.region 4 _ true) _ _ _ _;refine o_drawnZ [Zf 0,Zt 1,Zf 2,Zf 3,Zf 4,Zf 5,Zf 6,Zf 7,Zf 8,Zf 9,Zf 10,Zf 11,Zf 12,Zf 13,Zf 14,Zf 15,Zf 16,Zf 17,Zf 18,Zf 19,Zf 20,Zf 21,Zf 22,Zf 23,Zf 24,Zf 25,Zt 26,Zf 27,Zf 28,Zf 29] [] mixed (by kernel_rfl) (List.nil_sublist _) ?_)
  refine wp_loop (fun i t ds S' => ∃ (j : Nat) (t0 : Tm), i = l.length - j ∧ j ≤ l.length ∧ [] = ds ∧ S = S' ∧ t = den [(7, .int .i64 j), (6, .int .i64 l.length), (5, .slice a l.length cap), (0, .slice a l.length cap)] t0 ∧ riseAt (·.id) (fun x => mainOk x && upOkR l x) l j = riseN (·.id) (fun x => mainOk x && upOkR l x) l)
    l.length ⟨0, _, rfl, Nat.zero_le _, rfl, rfl, keep ⟨rfl, rfl, rfl, rfl, trivial⟩, riseAt_zero⟩ ?_
  rintro i t ds S' ⟨j, t0, rfl, hj, rfl, rfl, rfl, hp⟩
  repeat' first|(refine gX ?_;first|refine o_v rfl rfl ?_|(refine o_splitD rfl rfl rfl ?_ ?_<;>intro h)|(refine o_split rfl rfl rfl ?_ ?_<;>intro h<;>fail_if_success exact Bool.noConfusion h)|(refine gL ?_;first|refine o_load rfl rfl rfl rfl ?_|refine o_loadR rfl rfl rfl (by omega) rfl rfl ?_|refine o_loadW rfl rfl rfl rfl ?_|refine o_loadK rfl rfl rfl ?_)|(refine gF ?_;first|refine o_fieldI rfl rfl rfl rfl ?_|refine o_field rfl rfl rfl rfl ?_)|(refine gB ?_;first|refine o_add rfl rfl rfl rfl (by omega) ?_|refine o_sub rfl rfl rfl rfl (by omega) ?_)|(refine gC ?_;first|refine o_callF rfl rfl rfl (c62 _ _ l[j]) ?_|refine o_callF rfl rfl rfl (c91 _ _ l _ _ (hv0.sub Sb.h) hmax) ?_)|(refine gI ?_;first|refine o_indexZ (j - 1) rfl rfl rfl rfl rfl rfl (by omega) (by omega) ?_|refine o_indexS rfl rfl rfl rfl rfl rfl (by omega) ?_|refine o_index rfl rfl rfl rfl rfl (by omega) ?_)|(refine gS ?_;first|refine o_store rfl rfl rfl rfl rfl rfl ?_|refine o_storeW rfl rfl rfl rfl rfl rfl ?_)|(refine o_allocZ rfl rfl ?_;intro _)|refine o_skip rfl rfl ?_|refine o_skipN rfl rfl ?_|(refine o_splitP rfl ?_ ?_<;>intro h<;>fail_if_success exact Bool.noConfusion h))|refine o_head0 rfl ?_|refine o_end ?_|refine o_head1 rfl ?_|refine wp_seq ?_|refine o_region ?_|refine wp_block ?_|refine wp_skip ?_|refine wp_exit ?_|(refine w_condD rfl ?_ ?_<;>intro h)|(refine w_cond rfl ?_ ?_<;>intro h<;>try exact Bool.noConfusion h)|refine w_ret (S) (vs:=[_]) rfl (Res.tmp rfl Res.nil) ?_|(show WP _ _ _ _ (.region 4 _ true) _ _ _ _;refine o_drawnZ [Zf 0,Zt 1,Zf 2,Zf 3,Zf 4,Zf 5,Zf 6,Zf 7,Zf 8,Zf 9,Zf 10,Zf 11,Zf 12,Zf 13,Zf 14,Zf 15,Zf 16,Zf 17,Zf 18,Zf 19,Zf 20,Zf 21,Zf 22,Zf 23,Zf 24,Zf 25,Zt 26,Zf 27,Zf 28,Zf 29] [] mixed (by kernel_rfl) (List.nil_sublist _) ?_)
  all_goals first
    | (refine ⟨?_, rfl⟩
       have hbad : riseN (·.id) (fun x => mainOk x && upOkR l x) l = false := by
        first
          | exact riseAt_bad1 (key := (·.id)) (ok := (fun x => mainOk x && upOkR l x)) (l := l) (j := j) (by omega) (by omega) (by first | omega | (dsimp only; omega)) hp
          | exact riseAt_bad2 (key := (·.id)) (ok := (fun x => mainOk x && upOkR l x)) (l := l) (j := j) (by omega) (and_right_false (decide_eq_false (by unfold placeF; omega))) hp
          | exact riseAt_bad2 (key := (·.id)) (ok := (fun x => mainOk x && upOkR l x)) (l := l) (j := j) (by omega) (by clear hp; simp_all [placeOk, upOkR, placeF] <;> omega) hp
       simp [mainsR, hbad, pack]; done)
    | exact ⟨l.length - (j + 1), by omega, _, Sb.h, j + 1, _, rfl, by omega, rfl, rfl, keep ⟨rfl, rfl, rfl, rfl, trivial⟩, riseAt_next (key := (·.id)) (ok := (fun x => mainOk x && upOkR l x)) (l := l) (j := j) (by omega) (fun h0 => by first | omega | (dsimp only; omega)) (by clear hp; simp_all [placeOk, upOkR, placeF] <;> omega) hp⟩
    | skip
  have hj' : j = l.length := by omega
  subst hj'
  rw [riseAt_end] at hp
  refine ⟨?_, rfl⟩
  have e1 := hp.symm
  clear hp
  simp [mainsR, e1, pack]; omega
theorem c28R (E : Env) (S : Ents) (n : NetG) (a b c d e : Value) (hn : NetV S a b c d e n) : CallW Tryz.prog E 28 #[.agg #[a, b, c, d, e]] S fun r S' => r = iv (if validR n = true then 0 else 74) ∧ S' = S := by
  have hn0 := hn
  obtain ⟨⟨qm, cm, rfl, hm1, hm2⟩, ⟨qu, cu, rfl, hu1, hu2⟩, ⟨qr, cr, rfl, hr1, hr2⟩, ⟨qf, cf, rfl, hf1, hf2⟩, ⟨qp, cp, rfl, hp1, hp2⟩, lm, lu, lr, lf, lp⟩ := hn
  have := SlI.mk hm2
  have := SlI.mk hu2
  have := SlI.mk hr2
  have := SlI.mk hf2
  have := SlI.mk hp2
  clear hm2 hu2 hr2 hf2 hp2
  refine call_in (args := [.agg #[.slice qm n.mains.length cm, .slice qu n.uses.length cu, .slice qr n.readings.length cr, .slice qf n.faults.length cf, .slice qp n.prices.length cp]]) Tryz.func28 (by decide) rfl rfl ?_
  repeat' first|(refine gX ?_;first|refine o_v rfl rfl ?_|(refine o_splitD rfl rfl rfl ?_ ?_<;>intro h)|(refine o_split rfl rfl rfl ?_ ?_<;>intro h<;>fail_if_success exact Bool.noConfusion h)|(refine gL ?_;first|refine o_load rfl rfl rfl rfl ?_|refine o_loadR rfl rfl rfl (by omega) rfl rfl ?_|refine o_loadW rfl rfl rfl rfl ?_|refine o_loadK rfl rfl rfl ?_)|(refine gF ?_;first|refine o_fieldI rfl rfl rfl rfl ?_|refine o_field rfl rfl rfl rfl ?_)|(refine gB ?_;first|refine o_add rfl rfl rfl rfl (by omega) ?_|refine o_sub rfl rfl rfl rfl (by omega) ?_)|(refine gC ?_;first|refine o_callF rfl rfl rfl (c95 _ _ n.mains _ (hn0.mains.sub Sb.h) lm) ?_)|(refine gI ?_;first|refine o_indexS rfl rfl rfl rfl rfl rfl (by omega) ?_|refine o_index rfl rfl rfl rfl rfl (by omega) ?_)|(refine gS ?_;first|refine o_store rfl rfl rfl rfl rfl rfl ?_|refine o_storeW rfl rfl rfl rfl rfl rfl ?_)|(refine o_allocZ rfl rfl ?_;intro _)|(refine o_box rfl rfl rfl ?_;intro _)|refine o_skip rfl rfl ?_|refine o_skipN rfl rfl ?_|(refine o_splitP rfl ?_ ?_<;>intro h<;>fail_if_success exact Bool.noConfusion h))|refine o_head0 rfl ?_|refine o_end ?_|refine o_head1 rfl ?_|refine wp_seq ?_|refine o_region ?_|refine wp_block ?_|refine wp_skip ?_|refine wp_exit ?_|(refine w_condD rfl ?_ ?_<;>intro h)|(refine w_cond rfl ?_ ?_<;>intro h<;>try exact Bool.noConfusion h)|refine w_ret (S) (vs:=[_]) rfl (Res.tmp rfl Res.nil) ?_|(show WP _ _ _ _ (.region 6 _ true) _ _ _ _;refine o_drawnZ [Zf 0,Zt 1,Zf 2,Zf 3,Zf 4,Zf 5,Zf 6,Zf 7,Zt 8,Zf 9,Zf 10,Zf 11,Zf 12,Zf 13,Zf 14,Zf 15,Zf 16,Zf 17,Zf 18,Zf 19,Zf 20,Zf 21,Zf 22,Zf 23,Zf 24,Zf 25,Zf 26] [] mixed (by kernel_rfl) (List.nil_sublist _) ?_)|(show WP _ _ _ _ (.region 12 _ true) _ _ _ _;refine o_drawnZ [Zf 0,Zt 1,Zf 2,Zf 3,Zf 4,Zf 5,Zf 6,Zf 7,Zt 8,Zf 9,Zf 10,Zf 11,Zf 12,Zf 13,Zf 14,Zf 15,Zf 16,Zf 17,Zf 18,Zf 19,Zf 20,Zf 21,Zf 22,Zf 23,Zf 24,Zf 25,Zf 26] [] mixed (by kernel_rfl) (List.nil_sublist _) ?_)|(show WP _ _ _ _ (.region 18 _ true) _ _ _ _;refine o_drawnZ [Zf 0,Zt 1,Zf 2,Zf 3,Zf 4,Zf 5,Zf 6,Zf 7,Zt 8,Zf 9,Zf 10,Zf 11,Zf 12,Zf 13,Zf 14,Zf 15,Zf 16,Zf 17,Zf 18,Zf 19,Zf 20,Zf 21,Zf 22,Zf 23,Zf 24,Zf 25,Zf 26] [] mixed (by kernel_rfl) (List.nil_sublist _) ?_)|(show WP _ _ _ _ (.region 24 _ true) _ _ _ _;refine o_drawnZ [Zf 0,Zt 1,Zf 2,Zf 3,Zf 4,Zf 5,Zf 6,Zf 7,Zf 8,Zf 9,Zf 10,Zf 11,Zf 12,Zf 13,Zf 14,Zf 15,Zf 16,Zf 17,Zf 18] [] mixed (by kernel_rfl) (List.nil_sublist _) ?_)
  all_goals try (refine ⟨?_, rfl⟩; first | (have hx : ¬ n.uses.length ≤ 60 := (by omega); simp [validR, hx, pack, iv]; done) | (have hx : ¬ n.readings.length ≤ 60 := (by omega); simp [validR, hx, pack, iv]; done) | (have hx : ¬ n.faults.length ≤ 60 := (by omega); simp [validR, hx, pack, iv]; done) | (have hx : ¬ n.prices.length ≤ 10 := (by omega); simp [validR, hx, pack, iv]; done) | (simp_all [validR, pack, iv]; done))
  rename_i bx g1 g2 g3 g4
  simp only [Bool.not_eq_false'] at g1
  refine wp_loop (fun i t ds S' => ∃ (j : Nat) (t0 : Tm), i = n.uses.length - j ∧ j ≤ n.uses.length ∧ [] = ds ∧ ⟨bx, true, .cells #[.slice qm n.mains.length cm, .slice qu n.uses.length cu, .slice qr n.readings.length cr, .slice qf n.faults.length cf, .slice qp n.prices.length cp] 28 (0, 0)⟩ :: S = S' ∧ t = den [(42, .int .i64 j), (41, .int .i64 n.uses.length), (40, .slice qu n.uses.length cu), (1, .pointer (some ⟨bx, 0, none⟩))] t0 ∧ riseAt (·.source) (fun x => useOk x && placeOk n x.main) n.uses j = riseN (·.source) (fun x => useOk x && placeOk n x.main) n.uses)
    n.uses.length ⟨0, _, rfl, Nat.zero_le _, rfl, rfl, keep ⟨rfl, rfl, rfl, rfl, trivial⟩, riseAt_zero⟩ ?_
  rintro i t ds S' ⟨j, t0, rfl, hj, rfl, rfl, rfl, hpu⟩
  repeat' first|(refine gX ?_;first|refine o_v rfl rfl ?_|(refine o_splitD rfl rfl rfl ?_ ?_<;>intro h)|(refine o_split rfl rfl rfl ?_ ?_<;>intro h<;>fail_if_success exact Bool.noConfusion h)|(refine gL ?_;first|refine o_load rfl rfl rfl rfl ?_|refine o_loadR rfl rfl rfl (by omega) rfl rfl ?_|refine o_loadW rfl rfl rfl rfl ?_|refine o_loadK rfl rfl rfl ?_)|(refine gF ?_;first|refine o_fieldI rfl rfl rfl rfl ?_|refine o_field rfl rfl rfl rfl ?_)|(refine gB ?_;first|refine o_add rfl rfl rfl rfl (by omega) ?_|refine o_sub rfl rfl rfl rfl (by omega) ?_)|(refine gC ?_;first|refine o_callF rfl rfl rfl (c64 _ _ n.uses[j]) ?_|refine o_callF rfl rfl rfl (c91 _ _ n.mains _ _ (hn0.mains.sub Sb.h) lm) ?_)|(refine gI ?_;first|refine o_indexZ (j - 1) rfl rfl rfl rfl rfl rfl (by omega) (by omega) ?_|refine o_indexS rfl rfl rfl rfl rfl rfl (by omega) ?_|refine o_index rfl rfl rfl rfl rfl (by omega) ?_)|(refine gS ?_;first|refine o_store rfl rfl rfl rfl rfl rfl ?_|refine o_storeW rfl rfl rfl rfl rfl rfl ?_)|(refine o_allocZ rfl rfl ?_;intro _)|(refine o_box rfl rfl rfl ?_;intro _)|refine o_skip rfl rfl ?_|refine o_skipN rfl rfl ?_|(refine o_splitP rfl ?_ ?_<;>intro h<;>fail_if_success exact Bool.noConfusion h))|refine o_head0 rfl ?_|refine o_end ?_|refine o_head1 rfl ?_|refine wp_seq ?_|refine o_region ?_|refine wp_block ?_|refine wp_skip ?_|refine wp_exit ?_|(refine w_condD rfl ?_ ?_<;>intro h)|(refine w_cond rfl ?_ ?_<;>intro h<;>try exact Bool.noConfusion h)|refine w_ret (S) (vs:=[_]) rfl (Res.tmp rfl Res.nil) ?_|(show WP _ _ _ _ (.region 6 _ true) _ _ _ _;refine o_drawnZ [Zf 0,Zt 1,Zf 2,Zf 3,Zf 4,Zf 5,Zf 6,Zf 7,Zt 8,Zf 9,Zf 10,Zf 11,Zf 12,Zf 13,Zf 14,Zf 15,Zf 16,Zf 17,Zf 18,Zf 19,Zf 20,Zf 21,Zf 22,Zf 23,Zf 24,Zf 25,Zf 26] [] mixed (by kernel_rfl) (List.nil_sublist _) ?_)|(show WP _ _ _ _ (.region 12 _ true) _ _ _ _;refine o_drawnZ [Zf 0,Zt 1,Zf 2,Zf 3,Zf 4,Zf 5,Zf 6,Zf 7,Zt 8,Zf 9,Zf 10,Zf 11,Zf 12,Zf 13,Zf 14,Zf 15,Zf 16,Zf 17,Zf 18,Zf 19,Zf 20,Zf 21,Zf 22,Zf 23,Zf 24,Zf 25,Zf 26] [] mixed (by kernel_rfl) (List.nil_sublist _) ?_)|(show WP _ _ _ _ (.region 18 _ true) _ _ _ _;refine o_drawnZ [Zf 0,Zt 1,Zf 2,Zf 3,Zf 4,Zf 5,Zf 6,Zf 7,Zt 8,Zf 9,Zf 10,Zf 11,Zf 12,Zf 13,Zf 14,Zf 15,Zf 16,Zf 17,Zf 18,Zf 19,Zf 20,Zf 21,Zf 22,Zf 23,Zf 24,Zf 25,Zf 26] [] mixed (by kernel_rfl) (List.nil_sublist _) ?_)|(show WP _ _ _ _ (.region 24 _ true) _ _ _ _;refine o_drawnZ [Zf 0,Zt 1,Zf 2,Zf 3,Zf 4,Zf 5,Zf 6,Zf 7,Zf 8,Zf 9,Zf 10,Zf 11,Zf 12,Zf 13,Zf 14,Zf 15,Zf 16,Zf 17,Zf 18] [] mixed (by kernel_rfl) (List.nil_sublist _) ?_)
  all_goals first
    | (refine ⟨?_, rfl⟩
       have hbad : riseN (·.source) (fun x => useOk x && placeOk n x.main) n.uses = false := by
        first
          | exact riseAt_bad1 (key := (·.source)) (ok := (fun x => useOk x && placeOk n x.main)) (l := n.uses) (j := j) (by omega) (by omega) (by first | omega | (dsimp only; omega)) hpu
          | exact riseAt_bad2 (key := (·.source)) (ok := (fun x => useOk x && placeOk n x.main)) (l := n.uses) (j := j) (by omega) (and_right_false (decide_eq_false (by unfold placeF; omega))) hpu
          | exact riseAt_bad2 (key := (·.source)) (ok := (fun x => useOk x && placeOk n x.main)) (l := n.uses) (j := j) (by omega) (by clear hpu; simp_all [placeOk, upOkR, placeF] <;> omega) hpu
       simp [validR, hbad, pack, iv]; done)
    | exact ⟨n.uses.length - (j + 1), by omega, _, Sb.h, j + 1, _, rfl, by omega, rfl, rfl, keep ⟨rfl, rfl, rfl, rfl, trivial⟩, riseAt_next (key := (·.source)) (ok := (fun x => useOk x && placeOk n x.main)) (l := n.uses) (j := j) (by omega) (fun h0 => by first | omega | (dsimp only; omega)) (by clear hpu; simp_all [placeOk, upOkR, placeF] <;> omega) hpu⟩
    | skip
  have hj' : j = n.uses.length := by omega
  subst hj'
  rw [riseAt_end] at hpu
  replace hpu := hpu.symm
  clear hj
  refine wp_loop (fun i t ds S' => ∃ (j : Nat) (t0 : Tm), i = n.readings.length - j ∧ j ≤ n.readings.length ∧ [] = ds ∧ ⟨bx, true, .cells #[.slice qm n.mains.length cm, .slice qu n.uses.length cu, .slice qr n.readings.length cr, .slice qf n.faults.length cf, .slice qp n.prices.length cp] 28 (0, 0)⟩ :: S = S' ∧ t = den [(78, .int .i64 j), (77, .int .i64 n.readings.length), (76, .slice qr n.readings.length cr), (1, .pointer (some ⟨bx, 0, none⟩))] t0 ∧ riseAt (·.source) (fun x => readOk x && placeOk n x.main) n.readings j = riseN (·.source) (fun x => readOk x && placeOk n x.main) n.readings)
    n.readings.length ⟨0, _, rfl, Nat.zero_le _, rfl, rfl, keep ⟨rfl, rfl, rfl, rfl, trivial⟩, riseAt_zero⟩ ?_
  rintro i t ds S' ⟨j, t0, rfl, hj, rfl, rfl, rfl, hpr⟩
  repeat' first|(refine gX ?_;first|refine o_v rfl rfl ?_|(refine o_splitD rfl rfl rfl ?_ ?_<;>intro h)|(refine o_split rfl rfl rfl ?_ ?_<;>intro h<;>fail_if_success exact Bool.noConfusion h)|(refine gL ?_;first|refine o_load rfl rfl rfl rfl ?_|refine o_loadR rfl rfl rfl (by omega) rfl rfl ?_|refine o_loadW rfl rfl rfl rfl ?_|refine o_loadK rfl rfl rfl ?_)|(refine gF ?_;first|refine o_fieldI rfl rfl rfl rfl ?_|refine o_field rfl rfl rfl rfl ?_)|(refine gB ?_;first|refine o_add rfl rfl rfl rfl (by omega) ?_|refine o_sub rfl rfl rfl rfl (by omega) ?_)|(refine gC ?_;first|refine o_callF rfl rfl rfl (c66 _ _ n.readings[j]) ?_|refine o_callF rfl rfl rfl (c91 _ _ n.mains _ _ (hn0.mains.sub Sb.h) lm) ?_)|(refine gI ?_;first|refine o_indexZ (j - 1) rfl rfl rfl rfl rfl rfl (by omega) (by omega) ?_|refine o_indexS rfl rfl rfl rfl rfl rfl (by omega) ?_|refine o_index rfl rfl rfl rfl rfl (by omega) ?_)|(refine gS ?_;first|refine o_store rfl rfl rfl rfl rfl rfl ?_|refine o_storeW rfl rfl rfl rfl rfl rfl ?_)|(refine o_allocZ rfl rfl ?_;intro _)|(refine o_box rfl rfl rfl ?_;intro _)|refine o_skip rfl rfl ?_|refine o_skipN rfl rfl ?_|(refine o_splitP rfl ?_ ?_<;>intro h<;>fail_if_success exact Bool.noConfusion h))|refine o_head0 rfl ?_|refine o_end ?_|refine o_head1 rfl ?_|refine wp_seq ?_|refine o_region ?_|refine wp_block ?_|refine wp_skip ?_|refine wp_exit ?_|(refine w_condD rfl ?_ ?_<;>intro h)|(refine w_cond rfl ?_ ?_<;>intro h<;>try exact Bool.noConfusion h)|refine w_ret (S) (vs:=[_]) rfl (Res.tmp rfl Res.nil) ?_|(show WP _ _ _ _ (.region 6 _ true) _ _ _ _;refine o_drawnZ [Zf 0,Zt 1,Zf 2,Zf 3,Zf 4,Zf 5,Zf 6,Zf 7,Zt 8,Zf 9,Zf 10,Zf 11,Zf 12,Zf 13,Zf 14,Zf 15,Zf 16,Zf 17,Zf 18,Zf 19,Zf 20,Zf 21,Zf 22,Zf 23,Zf 24,Zf 25,Zf 26] [] mixed (by kernel_rfl) (List.nil_sublist _) ?_)|(show WP _ _ _ _ (.region 12 _ true) _ _ _ _;refine o_drawnZ [Zf 0,Zt 1,Zf 2,Zf 3,Zf 4,Zf 5,Zf 6,Zf 7,Zt 8,Zf 9,Zf 10,Zf 11,Zf 12,Zf 13,Zf 14,Zf 15,Zf 16,Zf 17,Zf 18,Zf 19,Zf 20,Zf 21,Zf 22,Zf 23,Zf 24,Zf 25,Zf 26] [] mixed (by kernel_rfl) (List.nil_sublist _) ?_)|(show WP _ _ _ _ (.region 18 _ true) _ _ _ _;refine o_drawnZ [Zf 0,Zt 1,Zf 2,Zf 3,Zf 4,Zf 5,Zf 6,Zf 7,Zt 8,Zf 9,Zf 10,Zf 11,Zf 12,Zf 13,Zf 14,Zf 15,Zf 16,Zf 17,Zf 18,Zf 19,Zf 20,Zf 21,Zf 22,Zf 23,Zf 24,Zf 25,Zf 26] [] mixed (by kernel_rfl) (List.nil_sublist _) ?_)|(show WP _ _ _ _ (.region 24 _ true) _ _ _ _;refine o_drawnZ [Zf 0,Zt 1,Zf 2,Zf 3,Zf 4,Zf 5,Zf 6,Zf 7,Zf 8,Zf 9,Zf 10,Zf 11,Zf 12,Zf 13,Zf 14,Zf 15,Zf 16,Zf 17,Zf 18] [] mixed (by kernel_rfl) (List.nil_sublist _) ?_)
  all_goals first
    | (refine ⟨?_, rfl⟩
       have hbad : riseN (·.source) (fun x => readOk x && placeOk n x.main) n.readings = false := by
        first
          | exact riseAt_bad1 (key := (·.source)) (ok := (fun x => readOk x && placeOk n x.main)) (l := n.readings) (j := j) (by omega) (by omega) (by first | omega | (dsimp only; omega)) hpr
          | exact riseAt_bad2 (key := (·.source)) (ok := (fun x => readOk x && placeOk n x.main)) (l := n.readings) (j := j) (by omega) (and_right_false (decide_eq_false (by unfold placeF; omega))) hpr
          | exact riseAt_bad2 (key := (·.source)) (ok := (fun x => readOk x && placeOk n x.main)) (l := n.readings) (j := j) (by omega) (by clear hpr; simp_all [placeOk, upOkR, placeF] <;> omega) hpr
       simp [validR, hbad, pack, iv]; done)
    | exact ⟨n.readings.length - (j + 1), by omega, _, Sb.h, j + 1, _, rfl, by omega, rfl, rfl, keep ⟨rfl, rfl, rfl, rfl, trivial⟩, riseAt_next (key := (·.source)) (ok := (fun x => readOk x && placeOk n x.main)) (l := n.readings) (j := j) (by omega) (fun h0 => by first | omega | (dsimp only; omega)) (by clear hpr; simp_all [placeOk, upOkR, placeF] <;> omega) hpr⟩
    | skip
  have hj' : j = n.readings.length := by omega
  subst hj'
  rw [riseAt_end] at hpr
  replace hpr := hpr.symm
  clear hj
  refine wp_loop (fun i t ds S' => ∃ (j : Nat) (t0 : Tm), i = n.faults.length - j ∧ j ≤ n.faults.length ∧ [] = ds ∧ ⟨bx, true, .cells #[.slice qm n.mains.length cm, .slice qu n.uses.length cu, .slice qr n.readings.length cr, .slice qf n.faults.length cf, .slice qp n.prices.length cp] 28 (0, 0)⟩ :: S = S' ∧ t = den [(114, .int .i64 j), (113, .int .i64 n.faults.length), (112, .slice qf n.faults.length cf), (1, .pointer (some ⟨bx, 0, none⟩))] t0 ∧ riseAt (·.source) (fun x => faultOk x && placeOk n x.main) n.faults j = riseN (·.source) (fun x => faultOk x && placeOk n x.main) n.faults)
    n.faults.length ⟨0, _, rfl, Nat.zero_le _, rfl, rfl, keep ⟨rfl, rfl, rfl, rfl, trivial⟩, riseAt_zero⟩ ?_
  rintro i t ds S' ⟨j, t0, rfl, hj, rfl, rfl, rfl, hpf⟩
  repeat' first|(refine gX ?_;first|refine o_v rfl rfl ?_|(refine o_splitD rfl rfl rfl ?_ ?_<;>intro h)|(refine o_split rfl rfl rfl ?_ ?_<;>intro h<;>fail_if_success exact Bool.noConfusion h)|(refine gL ?_;first|refine o_load rfl rfl rfl rfl ?_|refine o_loadR rfl rfl rfl (by omega) rfl rfl ?_|refine o_loadW rfl rfl rfl rfl ?_|refine o_loadK rfl rfl rfl ?_)|(refine gF ?_;first|refine o_fieldI rfl rfl rfl rfl ?_|refine o_field rfl rfl rfl rfl ?_)|(refine gB ?_;first|refine o_add rfl rfl rfl rfl (by omega) ?_|refine o_sub rfl rfl rfl rfl (by omega) ?_)|(refine gC ?_;first|refine o_callF rfl rfl rfl (c68 _ _ n.faults[j]) ?_|refine o_callF rfl rfl rfl (c91 _ _ n.mains _ _ (hn0.mains.sub Sb.h) lm) ?_)|(refine gI ?_;first|refine o_indexZ (j - 1) rfl rfl rfl rfl rfl rfl (by omega) (by omega) ?_|refine o_indexS rfl rfl rfl rfl rfl rfl (by omega) ?_|refine o_index rfl rfl rfl rfl rfl (by omega) ?_)|(refine gS ?_;first|refine o_store rfl rfl rfl rfl rfl rfl ?_|refine o_storeW rfl rfl rfl rfl rfl rfl ?_)|(refine o_allocZ rfl rfl ?_;intro _)|(refine o_box rfl rfl rfl ?_;intro _)|refine o_skip rfl rfl ?_|refine o_skipN rfl rfl ?_|(refine o_splitP rfl ?_ ?_<;>intro h<;>fail_if_success exact Bool.noConfusion h))|refine o_head0 rfl ?_|refine o_end ?_|refine o_head1 rfl ?_|refine wp_seq ?_|refine o_region ?_|refine wp_block ?_|refine wp_skip ?_|refine wp_exit ?_|(refine w_condD rfl ?_ ?_<;>intro h)|(refine w_cond rfl ?_ ?_<;>intro h<;>try exact Bool.noConfusion h)|refine w_ret (S) (vs:=[_]) rfl (Res.tmp rfl Res.nil) ?_|(show WP _ _ _ _ (.region 6 _ true) _ _ _ _;refine o_drawnZ [Zf 0,Zt 1,Zf 2,Zf 3,Zf 4,Zf 5,Zf 6,Zf 7,Zt 8,Zf 9,Zf 10,Zf 11,Zf 12,Zf 13,Zf 14,Zf 15,Zf 16,Zf 17,Zf 18,Zf 19,Zf 20,Zf 21,Zf 22,Zf 23,Zf 24,Zf 25,Zf 26] [] mixed (by kernel_rfl) (List.nil_sublist _) ?_)|(show WP _ _ _ _ (.region 12 _ true) _ _ _ _;refine o_drawnZ [Zf 0,Zt 1,Zf 2,Zf 3,Zf 4,Zf 5,Zf 6,Zf 7,Zt 8,Zf 9,Zf 10,Zf 11,Zf 12,Zf 13,Zf 14,Zf 15,Zf 16,Zf 17,Zf 18,Zf 19,Zf 20,Zf 21,Zf 22,Zf 23,Zf 24,Zf 25,Zf 26] [] mixed (by kernel_rfl) (List.nil_sublist _) ?_)|(show WP _ _ _ _ (.region 18 _ true) _ _ _ _;refine o_drawnZ [Zf 0,Zt 1,Zf 2,Zf 3,Zf 4,Zf 5,Zf 6,Zf 7,Zt 8,Zf 9,Zf 10,Zf 11,Zf 12,Zf 13,Zf 14,Zf 15,Zf 16,Zf 17,Zf 18,Zf 19,Zf 20,Zf 21,Zf 22,Zf 23,Zf 24,Zf 25,Zf 26] [] mixed (by kernel_rfl) (List.nil_sublist _) ?_)|(show WP _ _ _ _ (.region 24 _ true) _ _ _ _;refine o_drawnZ [Zf 0,Zt 1,Zf 2,Zf 3,Zf 4,Zf 5,Zf 6,Zf 7,Zf 8,Zf 9,Zf 10,Zf 11,Zf 12,Zf 13,Zf 14,Zf 15,Zf 16,Zf 17,Zf 18] [] mixed (by kernel_rfl) (List.nil_sublist _) ?_)
  all_goals first
    | (refine ⟨?_, rfl⟩
       have hbad : riseN (·.source) (fun x => faultOk x && placeOk n x.main) n.faults = false := by
        first
          | exact riseAt_bad1 (key := (·.source)) (ok := (fun x => faultOk x && placeOk n x.main)) (l := n.faults) (j := j) (by omega) (by omega) (by first | omega | (dsimp only; omega)) hpf
          | exact riseAt_bad2 (key := (·.source)) (ok := (fun x => faultOk x && placeOk n x.main)) (l := n.faults) (j := j) (by omega) (and_right_false (decide_eq_false (by unfold placeF; omega))) hpf
          | exact riseAt_bad2 (key := (·.source)) (ok := (fun x => faultOk x && placeOk n x.main)) (l := n.faults) (j := j) (by omega) (by clear hpf; simp_all [placeOk, upOkR, placeF] <;> omega) hpf
       simp [validR, hbad, pack, iv]; done)
    | exact ⟨n.faults.length - (j + 1), by omega, _, Sb.h, j + 1, _, rfl, by omega, rfl, rfl, keep ⟨rfl, rfl, rfl, rfl, trivial⟩, riseAt_next (key := (·.source)) (ok := (fun x => faultOk x && placeOk n x.main)) (l := n.faults) (j := j) (by omega) (fun h0 => by first | omega | (dsimp only; omega)) (by clear hpf; simp_all [placeOk, upOkR, placeF] <;> omega) hpf⟩
    | skip
  have hj' : j = n.faults.length := by omega
  subst hj'
  rw [riseAt_end] at hpf
  replace hpf := hpf.symm
  clear hj
  refine wp_loop (fun i t ds S' => ∃ (j : Nat) (t0 : Tm), i = n.prices.length - j ∧ j ≤ n.prices.length ∧ [] = ds ∧ ⟨bx, true, .cells #[.slice qm n.mains.length cm, .slice qu n.uses.length cu, .slice qr n.readings.length cr, .slice qf n.faults.length cf, .slice qp n.prices.length cp] 28 (0, 0)⟩ :: S = S' ∧ t = den [(150, .int .i64 j), (149, .int .i64 n.prices.length), (148, .slice qp n.prices.length cp), (1, .pointer (some ⟨bx, 0, none⟩))] t0 ∧ riseAt (·.since) priceOk n.prices j = riseN (·.since) priceOk n.prices)
    n.prices.length ⟨0, _, rfl, Nat.zero_le _, rfl, rfl, keep ⟨rfl, rfl, rfl, rfl, trivial⟩, riseAt_zero⟩ ?_
  rintro i t ds S' ⟨j, t0, rfl, hj, rfl, rfl, rfl, hpp⟩
  repeat' first|(refine gX ?_;first|refine o_v rfl rfl ?_|(refine o_splitD rfl rfl rfl ?_ ?_<;>intro h)|(refine o_split rfl rfl rfl ?_ ?_<;>intro h<;>fail_if_success exact Bool.noConfusion h)|(refine gL ?_;first|refine o_load rfl rfl rfl rfl ?_|refine o_loadR rfl rfl rfl (by omega) rfl rfl ?_|refine o_loadW rfl rfl rfl rfl ?_|refine o_loadK rfl rfl rfl ?_)|(refine gF ?_;first|refine o_fieldI rfl rfl rfl rfl ?_|refine o_field rfl rfl rfl rfl ?_)|(refine gB ?_;first|refine o_add rfl rfl rfl rfl (by omega) ?_|refine o_sub rfl rfl rfl rfl (by omega) ?_)|(refine gC ?_;first|refine o_callF rfl rfl rfl (c70 _ _ n.prices[j]) ?_|refine o_callF rfl rfl rfl (c91 _ _ n.mains _ _ (hn0.mains.sub Sb.h) lm) ?_)|(refine gI ?_;first|refine o_indexZ (j - 1) rfl rfl rfl rfl rfl rfl (by omega) (by omega) ?_|refine o_indexS rfl rfl rfl rfl rfl rfl (by omega) ?_|refine o_index rfl rfl rfl rfl rfl (by omega) ?_)|(refine gS ?_;first|refine o_store rfl rfl rfl rfl rfl rfl ?_|refine o_storeW rfl rfl rfl rfl rfl rfl ?_)|(refine o_allocZ rfl rfl ?_;intro _)|(refine o_box rfl rfl rfl ?_;intro _)|refine o_skip rfl rfl ?_|refine o_skipN rfl rfl ?_|(refine o_splitP rfl ?_ ?_<;>intro h<;>fail_if_success exact Bool.noConfusion h))|refine o_head0 rfl ?_|refine o_end ?_|refine o_head1 rfl ?_|refine wp_seq ?_|refine o_region ?_|refine wp_block ?_|refine wp_skip ?_|refine wp_exit ?_|(refine w_condD rfl ?_ ?_<;>intro h)|(refine w_cond rfl ?_ ?_<;>intro h<;>try exact Bool.noConfusion h)|refine w_ret (S) (vs:=[_]) rfl (Res.tmp rfl Res.nil) ?_|(show WP _ _ _ _ (.region 6 _ true) _ _ _ _;refine o_drawnZ [Zf 0,Zt 1,Zf 2,Zf 3,Zf 4,Zf 5,Zf 6,Zf 7,Zt 8,Zf 9,Zf 10,Zf 11,Zf 12,Zf 13,Zf 14,Zf 15,Zf 16,Zf 17,Zf 18,Zf 19,Zf 20,Zf 21,Zf 22,Zf 23,Zf 24,Zf 25,Zf 26] [] mixed (by kernel_rfl) (List.nil_sublist _) ?_)|(show WP _ _ _ _ (.region 12 _ true) _ _ _ _;refine o_drawnZ [Zf 0,Zt 1,Zf 2,Zf 3,Zf 4,Zf 5,Zf 6,Zf 7,Zt 8,Zf 9,Zf 10,Zf 11,Zf 12,Zf 13,Zf 14,Zf 15,Zf 16,Zf 17,Zf 18,Zf 19,Zf 20,Zf 21,Zf 22,Zf 23,Zf 24,Zf 25,Zf 26] [] mixed (by kernel_rfl) (List.nil_sublist _) ?_)|(show WP _ _ _ _ (.region 18 _ true) _ _ _ _;refine o_drawnZ [Zf 0,Zt 1,Zf 2,Zf 3,Zf 4,Zf 5,Zf 6,Zf 7,Zt 8,Zf 9,Zf 10,Zf 11,Zf 12,Zf 13,Zf 14,Zf 15,Zf 16,Zf 17,Zf 18,Zf 19,Zf 20,Zf 21,Zf 22,Zf 23,Zf 24,Zf 25,Zf 26] [] mixed (by kernel_rfl) (List.nil_sublist _) ?_)|(show WP _ _ _ _ (.region 24 _ true) _ _ _ _;refine o_drawnZ [Zf 0,Zt 1,Zf 2,Zf 3,Zf 4,Zf 5,Zf 6,Zf 7,Zf 8,Zf 9,Zf 10,Zf 11,Zf 12,Zf 13,Zf 14,Zf 15,Zf 16,Zf 17,Zf 18] [] mixed (by kernel_rfl) (List.nil_sublist _) ?_)
  all_goals first
    | (refine ⟨?_, rfl⟩
       have hbad : riseN (·.since) priceOk n.prices = false := by
        first
          | exact riseAt_bad1 (key := (·.since)) (ok := priceOk) (l := n.prices) (j := j) (by omega) (by omega) (by first | omega | (dsimp only; omega)) hpp
          | exact riseAt_bad2 (key := (·.since)) (ok := priceOk) (l := n.prices) (j := j) (by omega) (and_right_false (decide_eq_false (by unfold placeF; omega))) hpp
          | exact riseAt_bad2 (key := (·.since)) (ok := priceOk) (l := n.prices) (j := j) (by omega) (by clear hpp; simp_all [placeOk, upOkR, placeF] <;> omega) hpp
       simp [validR, hbad, pack, iv]; done)
    | exact ⟨n.prices.length - (j + 1), by omega, _, Sb.h, j + 1, _, rfl, by omega, rfl, rfl, keep ⟨rfl, rfl, rfl, rfl, trivial⟩, riseAt_next (key := (·.since)) (ok := priceOk) (l := n.prices) (j := j) (by omega) (fun h0 => by first | omega | (dsimp only; omega)) (by clear hpp; simp_all [placeOk, upOkR, placeF] <;> omega) hpp⟩
    | skip
  have hj' : j = n.prices.length := by omega
  subst hj'
  rw [riseAt_end] at hpp
  replace hpp := hpp.symm
  clear hj
  refine ⟨?_, rfl⟩
  have e1 : decide (n.uses.length ≤ 60) = true := by simp; omega
  have e2 : decide (n.readings.length ≤ 60) = true := by simp; omega
  have e3 : decide (n.faults.length ≤ 60) = true := by simp; omega
  have e4 : decide (n.prices.length ≤ 10) = true := by simp; omega
  simp [validR, g1, e1, e2, e3, e4, hpu, hpr, hpf, hpp, pack, iv]
end Go.Proofs.YtpnnmklacialgaaGreat
namespace Go.Proofs.YtpnnmklacialgaaGreat
open Go.Conc
attribute [local irreducible] WP OpF OpX CallW SemH retQ
section
variable {α : Type} {key : α → Int} {a b : α → Bool}
theorem riseF_and : ∀ {l : List α} {was : Int}, riseF key (fun x => a x && b x) was l = (l.all a && riseF key b was l)
  | [], was => rfl
  | x :: l, was => by
    simp only [riseF, List.all_cons, riseF_and (l := l) (was := key x)]
    cases a x <;> cases b x <;> cases decide (was < key x) <;> simp
theorem riseN_and {l : List α} : riseN key (fun x => a x && b x) l = (l.all a && riseN key b l) := by
  cases l with
  | nil => rfl
  | cons x l =>
    simp only [riseN, List.all_cons, riseF_and]
    cases a x <;> cases b x <;> simp
theorem riseF_congr : ∀ {l : List α} {was : Int}, (∀ x ∈ l, a x = b x) → riseF key a was l = riseF key b was l
  | [], was, h => rfl
  | x :: l, was, h => by
    simp only [riseF, h x (.head _), riseF_congr (l := l) (was := key x) fun y hy => h y (.tail _ hy)]
theorem riseN_congr {l : List α} (h : ∀ x ∈ l, a x = b x) : riseN key a l = riseN key b l := by
  cases l with
  | nil => rfl
  | cons x l => simp only [riseN, h x (.head _), riseF_congr fun y hy => h y (.tail _ hy)]
theorem riseF_zero {l : List α} (h : ∀ x ∈ l, 0 < key x) : riseF key a 0 l = riseN key a l := by
  cases l with
  | nil => rfl
  | cons x l => simp [riseF, riseN, h x (.head _)]
end
theorem head_source {a b c d e : Int} (h : headOk a b c d e = true) : 0 < a := by
  simp only [headOk, Bool.and_eq_true, within_iff] at h
  omega
theorem valid_eq (n : NetG) : validR n = validB n := by
  have hm : ∀ x ∈ n.mains, mainOk x = true → upOkR n.mains x = upOk n x := fun x _ h => by
    simp only [mainOk, Bool.and_eq_true, within_iff] at h
    unfold upOkR upOk placeOk placeF
    congr 1
    rw [Bool.eq_iff_iff]
    simp; omega
  have hu : n.uses.all useOk = true → riseF (·.source) (fun x => placeOk n x.main) 0 n.uses = riseN (·.source) (fun x => placeOk n x.main) n.uses := fun h => riseF_zero fun x hx => by
    have := List.all_eq_true.1 h x hx
    simp only [useOk, Bool.and_eq_true] at this
    exact head_source this.1.1
  have hr : n.readings.all readOk = true → riseF (·.source) (fun x => placeOk n x.main) 0 n.readings = riseN (·.source) (fun x => placeOk n x.main) n.readings := fun h => riseF_zero fun x hx => by
    have := List.all_eq_true.1 h x hx
    simp only [readOk, Bool.and_eq_true] at this
    exact head_source this.1
  have hf : n.faults.all faultOk = true → riseF (·.source) (fun x => placeOk n x.main) 0 n.faults = riseN (·.source) (fun x => placeOk n x.main) n.faults := fun h => riseF_zero fun x hx => by
    have := List.all_eq_true.1 h x hx
    simp only [faultOk, Bool.and_eq_true] at this
    exact head_source this.1
  have hp : riseN (·.since) priceOk n.prices = (n.prices.all priceOk && riseN (·.since) (fun _ => true) n.prices) := by
    rw [← riseN_and]; simp
  have hmm : n.mains.all mainOk = true → riseN (·.id) (upOkR n.mains) n.mains = riseN (·.id) (upOk n) n.mains := fun h => riseN_congr fun x hx => hm x hx (List.all_eq_true.1 h x hx)
  unfold validR validB mainsR lenAll
  rw [riseN_and, riseN_and, riseN_and, riseN_and, hp]
  cases h1 : n.mains.all mainOk
  · simp
  cases h2 : n.uses.all useOk
  · simp
  cases h3 : n.readings.all readOk
  · simp
  cases h4 : n.faults.all faultOk
  · simp
  rw [hmm h1, hu h2, hr h3, hf h4]
  rw [Bool.eq_iff_iff]
  simp only [Bool.and_eq_true, Bool.true_and, Bool.and_true]
  constructor <;> (rintro h; simp_all)
def lookE (n : NetG) (period known : Int) : Int := if validB n = true then (if within period 0 999 = true then (if within known 0 100000 = true then 0 else 6) else 1) else 74
theorem c28 (E : Env) (S : Ents) (n : NetG) (a b c d e : Value) (hn : NetV S a b c d e n) : CallW Tryz.prog E 28 #[.agg #[a, b, c, d, e]] S fun r S' => r = iv (if validB n = true then 0 else 74) ∧ S' = S := by
  have := c28R E S n a b c d e hn
  rwa [valid_eq] at this
theorem c72 (E : Env) (S : Ents) (n : NetG) (a b c d e : Value) (period known : Int) (hn : NetV S a b c d e n) : CallW Tryz.prog E 72 #[.agg #[a, b, c, d, e], iv period, iv known] S fun r S' => r = iv (lookE n period known) ∧ S' = S := by
  refine call_in (args := [.agg #[a, b, c, d, e], iv period, iv known]) Tryz.func72 (by decide) rfl rfl ?_
  repeat' first|(refine gX ?_;first|refine o_v rfl rfl ?_|(refine gL ?_;first|refine o_load rfl rfl rfl rfl ?_|refine o_loadR rfl rfl rfl (by omega) rfl rfl ?_|refine o_loadW rfl rfl rfl rfl ?_|refine o_loadK rfl rfl rfl ?_)|(refine gC ?_;first|refine o_callF rfl rfl rfl (c71 _ _ n _ _ _ _ _ (hn.sub Sb.h)) ?_|refine o_callF rfl rfl rfl (c132 _ _ _) ?_|refine o_callF rfl rfl rfl (c143 _ _ _) ?_)|(refine o_box rfl rfl rfl ?_;intro _))|refine o_head0 rfl ?_|refine o_end ?_|refine o_head1 rfl ?_|refine wp_seq ?_|refine o_region ?_|refine wp_skip ?_|(refine w_condD rfl ?_ ?_<;>intro h)|(refine w_cond rfl ?_ ?_<;>intro h<;>try exact Bool.noConfusion h)|refine w_ret (S) (vs:=[_]) rfl (Res.tmp rfl Res.nil) ?_
  all_goals (refine ⟨?_, rfl⟩; unfold lookE; simp_all [pack, iv])
end Go.Proofs.YtpnnmklacialgaaGreat
namespace Go.Proofs.YtpnnmklacialgaaGreat
open Go.Conc
attribute [local irreducible] WP OpF OpX CallW SemH retQ
def askedE (n : NetG) (main period known : Int) : Int := if validB n = true then (if main ≠ 0 ∧ placeF n main < 0 then 70 else (if within period 0 999 = true then (if within known 0 100000 = true then 0 else 6) else 1)) else 74
theorem c85 (E : Env) (S : Ents) (n : NetG) (a b c d e : Value) (main period known : Int) (hn : NetV S a b c d e n) : CallW Tryz.prog E 85 #[.agg #[a, b, c, d, e], iv main, .agg #[iv period, iv known]] S fun r S' => r = iv (askedE n main period known) ∧ S' = S := by
  refine call_in (args := [.agg #[a, b, c, d, e], iv main, .agg #[iv period, iv known]]) Tryz.func85 (by decide) rfl rfl ?_
  repeat' first|(refine gX ?_;first|refine o_v rfl rfl ?_|(refine o_splitD rfl rfl rfl ?_ ?_<;>intro h)|(refine o_split rfl rfl rfl ?_ ?_<;>intro h<;>fail_if_success exact Bool.noConfusion h)|(refine gL ?_;first|refine o_load rfl rfl rfl rfl ?_|refine o_loadR rfl rfl rfl (by omega) rfl rfl ?_|refine o_loadW rfl rfl rfl rfl ?_|refine o_loadK rfl rfl rfl ?_)|(refine gF ?_;first|refine o_fieldI rfl rfl rfl rfl ?_|refine o_field rfl rfl rfl rfl ?_)|(refine gC ?_;first|refine o_callF rfl rfl rfl (c28 _ _ n _ _ _ _ _ (hn.sub Sb.h)) ?_|refine o_callF rfl rfl rfl (c91 _ _ n.mains _ _ (hn.mains.sub Sb.h) hn.mains_le) ?_|refine o_callF rfl rfl rfl (c29 _ _ _ _ _) ?_|refine o_callF rfl rfl rfl (c30 _ _ _) ?_)|(refine o_box rfl rfl rfl ?_;intro _)|refine o_skip rfl rfl ?_|refine o_skipN rfl rfl ?_|(refine o_splitP rfl ?_ ?_<;>intro h<;>fail_if_success exact Bool.noConfusion h))|refine o_head0 rfl ?_|refine o_end ?_|refine o_head1 rfl ?_|refine wp_seq ?_|refine o_region ?_|refine wp_skip ?_|(refine w_condD rfl ?_ ?_<;>intro h)|(refine w_cond rfl ?_ ?_<;>intro h<;>try exact Bool.noConfusion h)|refine w_ret (S) (vs:=[_]) rfl (Res.tmp rfl Res.nil) ?_
  all_goals (refine ⟨?_, rfl⟩; unfold askedE placeF; simp_all [pack, iv]; try omega)
theorem c89 (E : Env) (S : Ents) (main : Int) : CallW Tryz.prog E 89 #[iv main] S fun r S' => r = iv (if main = 0 then -1 else main) ∧ S' = S := by
  refine call_in (args := [iv main]) Tryz.func89 (by decide) rfl rfl ?_
  repeat' first|(refine gX ?_;first|refine o_v rfl rfl ?_|(refine gB ?_;first|refine o_eqNil rfl rfl rfl rfl rfl ?_))|refine o_head0 rfl ?_|refine o_end ?_|refine o_head1 rfl ?_|refine wp_seq ?_|refine o_region ?_|refine wp_skip ?_|(refine w_condD rfl ?_ ?_<;>intro h)|(refine w_cond rfl ?_ ?_<;>intro h<;>try exact Bool.noConfusion h)|refine w_ret (S) (vs:=[_]) rfl (Res.tmp rfl Res.nil) ?_
  all_goals(simp_all [pack, iv]<;>(try omega))
theorem c15 (E : Env) (S : Ents) (xs ys : List Int) (v w : Value) (hv : SlV S v xs) (hw : SlV S w ys) (hm : xs.length ≤ 17592186044416) (hm2 : ys.length ≤ 17592186044416) : CallW Tryz.prog E 15 #[v, w] S fun r S' => r = .bool (xs == ys) ∧ S' = S := by
  obtain ⟨a, cp, rfl, _, hr⟩ := hv
  obtain ⟨b, cq, rfl, _, hq⟩ := hw
  have := SlI.mk hr
  have := SlI.mk hq
  refine call_in (args := [.slice a xs.length cp, .slice b ys.length cq]) Tryz.func15 (by decide) rfl rfl ?_
  repeat' first|(refine gX ?_;first|refine o_v rfl rfl ?_|(refine gL ?_;first|refine o_load rfl rfl rfl rfl ?_|refine o_loadR rfl rfl rfl (by omega) rfl rfl ?_|refine o_loadW rfl rfl rfl rfl ?_|refine o_loadK rfl rfl rfl ?_)|(refine gB ?_;first|refine o_add rfl rfl rfl rfl (by omega) ?_)|(refine gI ?_;first|refine o_indexS rfl rfl rfl rfl rfl rfl (by omega) ?_|refine o_index rfl rfl rfl rfl rfl (by omega) ?_))|refine o_head0 rfl ?_|refine o_end ?_|refine o_head1 rfl ?_|refine wp_seq ?_|refine o_region ?_|refine wp_block ?_|refine wp_skip ?_|refine wp_exit ?_|(refine w_condD rfl ?_ ?_<;>intro h)|(refine w_cond rfl ?_ ?_<;>intro h<;>try exact Bool.noConfusion h)|refine w_ret (S) (vs:=[_]) rfl (Res.tmp rfl Res.nil) ?_|(show WP _ _ _ _ (.region 6 _ true) _ _ _ _;refine o_drawnZ [Zf 0,Zf 1,Zf 2,Zf 3,Zf 4,Zf 5,Zf 6,Zf 7,Zf 8] [] mixed (by kernel_rfl) (List.nil_sublist _) ?_)
  · refine ⟨?_, rfl⟩
    have : xs ≠ ys := fun e => by subst e; simp_all
    simp [pack, this]
  · have hl : xs.length = ys.length := by omega
    refine wp_loop (fun i t ds S' => ∃ (j : Nat) (t0 : Tm), i = xs.length - j ∧ j ≤ xs.length ∧ [] = ds ∧ S = S' ∧ t = den [(13, .int .i64 j), (12, .int .i64 xs.length), (0, .slice a xs.length cp), (1, .slice b ys.length cq)] t0 ∧ xs.take j = ys.take j)
      xs.length ⟨0, _, rfl, Nat.zero_le _, rfl, rfl, keep ⟨rfl, rfl, rfl, rfl, trivial⟩, rfl⟩ ?_
    rintro i t ds S' ⟨j, t0, rfl, hj, rfl, rfl, rfl, hp⟩
    repeat' first|(refine gX ?_;first|refine o_v rfl rfl ?_|(refine gL ?_;first|refine o_load rfl rfl rfl rfl ?_|refine o_loadR rfl rfl rfl (by omega) rfl rfl ?_|refine o_loadW rfl rfl rfl rfl ?_|refine o_loadK rfl rfl rfl ?_)|(refine gB ?_;first|refine o_add rfl rfl rfl rfl (by omega) ?_)|(refine gI ?_;first|refine o_indexS rfl rfl rfl rfl rfl rfl (by omega) ?_|refine o_index rfl rfl rfl rfl rfl (by omega) ?_))|refine o_head0 rfl ?_|refine o_end ?_|refine o_head1 rfl ?_|refine wp_seq ?_|refine o_region ?_|refine wp_block ?_|refine wp_skip ?_|refine wp_exit ?_|(refine w_condD rfl ?_ ?_<;>intro h)|(refine w_cond rfl ?_ ?_<;>intro h<;>try exact Bool.noConfusion h)|refine w_ret (S) (vs:=[_]) rfl (Res.tmp rfl Res.nil) ?_|(show WP _ _ _ _ (.region 6 _ true) _ _ _ _;refine o_drawnZ [Zf 0,Zf 1,Zf 2,Zf 3,Zf 4,Zf 5,Zf 6,Zf 7,Zf 8] [] mixed (by kernel_rfl) (List.nil_sublist _) ?_)
    · refine ⟨?_, rfl⟩
      have : xs ≠ ys := fun e => by subst e; exact absurd rfl ‹_›
      simp [pack, this]
    · exact ⟨xs.length - (j + 1), by omega, _, Sb.h, j + 1, _, rfl, by omega, rfl, rfl, keep ⟨rfl, rfl, rfl, rfl, trivial⟩, by rw [take_snoc (by omega), take_snoc (by omega), hp]; simp_all⟩
    · have : j = xs.length := by omega
      subst this
      rw [List.take_length, hl, List.take_length] at hp
      simp [pack, hp]
end Go.Proofs.YtpnnmklacialgaaGreat
namespace Go.Proofs.YtpnnmklacialgaaGreat
open Go.Conc
attribute [local irreducible] WP OpF OpX CallW SemH retQ
def Bd (M : Int) (r : RangeG) : Prop := -M ≤ r.lo ∧ r.lo ≤ M ∧ -M ≤ r.hi ∧ r.hi ≤ M
def meetR (a b : RangeG) : RangeG := ⟨max a.lo b.lo, min a.hi b.hi⟩
def lessR (a b : RangeG) : RangeG := ⟨a.lo - b.hi, a.hi - b.lo⟩
def volR (u : UseG) : RangeG := ⟨u.minutes.lo * u.rate.lo / 60, (u.minutes.hi * u.rate.hi + 59) / 60⟩
def sumR : List RangeG → RangeG
  | [] => ⟨0, 0⟩
  | x :: l => ⟨x.lo + (sumR l).lo, x.hi + (sumR l).hi⟩
def tightR (part all flow : RangeG) : RangeG := meetR part ⟨flow.lo - (all.hi - part.hi), flow.hi - (all.lo - part.lo)⟩
theorem c110 (E : Env) (S : Ents) (x y : RangeG) : CallW Tryz.prog E 110 #[.agg (rangeC x), .agg (rangeC y)] S fun r S' => r = .agg (rangeC (meetR x y)) ∧ S' = S := by
  refine call_in (args := [.agg (rangeC x), .agg (rangeC y)]) Tryz.func110 (by decide) rfl rfl ?_
  repeat' first|(refine gX ?_;first|refine o_v rfl rfl ?_|(refine gL ?_;first|refine o_load rfl rfl rfl rfl ?_|refine o_loadR rfl rfl rfl (by omega) rfl rfl ?_|refine o_loadW rfl rfl rfl rfl ?_|refine o_loadK rfl rfl rfl ?_)|(refine gF ?_;first|refine o_fieldI rfl rfl rfl rfl ?_|refine o_field rfl rfl rfl rfl ?_)|(refine gS ?_;first|refine o_store rfl rfl rfl rfl rfl rfl ?_|refine o_storeW rfl rfl rfl rfl rfl rfl ?_)|(refine o_allocZ rfl rfl ?_;intro _)|(refine o_box rfl rfl rfl ?_;intro _)|refine o_build rfl rfl rfl rfl rfl ?_)|refine o_head0 rfl ?_|refine o_end ?_|refine o_head1 rfl ?_|refine wp_seq ?_|refine o_region ?_|refine w_ret (S) (vs:=[_]) rfl (Res.cell rfl rfl Res.nil) ?_
  exact ⟨rfl, rfl⟩
theorem c146 (E : Env) (S : Ents) (x y : RangeG) : CallW Tryz.prog E 146 #[.agg (rangeC x), .agg (rangeC y)] S fun r S' => r = .agg (rangeC (meetR x y)) ∧ S' = S := by
  refine call_in (args := [.agg (rangeC x), .agg (rangeC y)]) Tryz.func146 (by decide) rfl rfl ?_
  repeat' first|(refine gX ?_;first|refine o_v rfl rfl ?_|(refine gL ?_;first|refine o_load rfl rfl rfl rfl ?_|refine o_loadR rfl rfl rfl (by omega) rfl rfl ?_|refine o_loadW rfl rfl rfl rfl ?_|refine o_loadK rfl rfl rfl ?_)|(refine gF ?_;first|refine o_fieldI rfl rfl rfl rfl ?_|refine o_field rfl rfl rfl rfl ?_)|(refine gS ?_;first|refine o_store rfl rfl rfl rfl rfl rfl ?_|refine o_storeW rfl rfl rfl rfl rfl rfl ?_)|(refine o_allocZ rfl rfl ?_;intro _)|(refine o_box rfl rfl rfl ?_;intro _)|refine o_build rfl rfl rfl rfl rfl ?_)|refine o_head0 rfl ?_|refine o_end ?_|refine o_head1 rfl ?_|refine wp_seq ?_|refine o_region ?_|refine w_ret (S) (vs:=[_]) rfl (Res.cell rfl rfl Res.nil) ?_
  exact ⟨rfl, rfl⟩
theorem c149 (E : Env) (S : Ents) (x y : RangeG) (hx : Bd 1000000000000000000 x) (hy : Bd 1000000000000000000 y) : CallW Tryz.prog E 149 #[.agg (rangeC x), .agg (rangeC y)] S fun r S' => r = .agg (rangeC (lessR x y)) ∧ S' = S := by
  unfold Bd at hx hy
  refine call_in (args := [.agg (rangeC x), .agg (rangeC y)]) Tryz.func149 (by decide) rfl rfl ?_
  repeat' first|(refine gX ?_;first|refine o_v rfl rfl ?_|(refine gL ?_;first|refine o_load rfl rfl rfl rfl ?_|refine o_loadR rfl rfl rfl (by omega) rfl rfl ?_|refine o_loadW rfl rfl rfl rfl ?_|refine o_loadK rfl rfl rfl ?_)|(refine gF ?_;first|refine o_fieldI rfl rfl rfl rfl ?_|refine o_field rfl rfl rfl rfl ?_)|(refine gB ?_;first|refine o_sub rfl rfl rfl rfl (by omega) ?_)|(refine gS ?_;first|refine o_store rfl rfl rfl rfl rfl rfl ?_|refine o_storeW rfl rfl rfl rfl rfl rfl ?_)|(refine o_allocZ rfl rfl ?_;intro _)|(refine o_box rfl rfl rfl ?_;intro _)|refine o_build rfl rfl rfl rfl rfl ?_)|refine o_head0 rfl ?_|refine o_end ?_|refine o_head1 rfl ?_|refine wp_seq ?_|refine o_region ?_|refine w_ret (S) (vs:=[_]) rfl (Res.cell rfl rfl Res.nil) ?_
  exact ⟨rfl, rfl⟩
theorem c180 (E : Env) (S : Ents) (x y z : RangeG) (hx : Bd 1000000000000000000 x) (hy : Bd 1000000000000000000 y) (hz : Bd 1000000000000000000 z) : CallW Tryz.prog E 180 #[.agg (rangeC x), .agg (rangeC y), .agg (rangeC z)] S fun r S' => r = .agg (rangeC (tightR x y z)) ∧ S' = S := by
  unfold Bd at hx hy hz
  refine call_in (args := [.agg (rangeC x), .agg (rangeC y), .agg (rangeC z)]) Tryz.func180 (by decide) rfl rfl ?_
  repeat' first|(refine gX ?_;first|refine o_v rfl rfl ?_|(refine gL ?_;first|refine o_load rfl rfl rfl rfl ?_|refine o_loadR rfl rfl rfl (by omega) rfl rfl ?_|refine o_loadW rfl rfl rfl rfl ?_|refine o_loadK rfl rfl rfl ?_)|(refine gF ?_;first|refine o_fieldI rfl rfl rfl rfl ?_|refine o_field rfl rfl rfl rfl ?_)|(refine gB ?_;first|refine o_sub rfl rfl rfl rfl (by omega) ?_)|(refine gC ?_;first|refine o_callF rfl rfl rfl (c146 _ _ x ⟨_, _⟩) ?_)|(refine gS ?_;first|refine o_store rfl rfl rfl rfl rfl rfl ?_|refine o_storeW rfl rfl rfl rfl rfl rfl ?_)|(refine o_allocZ rfl rfl ?_;intro _)|(refine o_box rfl rfl rfl ?_;intro _)|refine o_build rfl rfl rfl rfl rfl ?_)|refine o_head0 rfl ?_|refine o_end ?_|refine o_head1 rfl ?_|refine wp_seq ?_|refine o_region ?_|refine w_ret (S) (vs:=[_]) rfl (Res.cell rfl rfl Res.nil) ?_
  exact ⟨rfl, rfl⟩
theorem mul_bd {a b A B : Int} (h1 : 0 ≤ a) (h2 : a ≤ A) (h3 : 0 ≤ b) (h4 : b ≤ B) : 0 ≤ a * b ∧ a * b ≤ A * B :=
  ⟨Int.mul_nonneg h1 h3, Int.mul_le_mul h2 h4 h3 (by omega)⟩
theorem vol_bd {u : UseG} (h : useOk u = true) : (0 ≤ u.minutes.lo * u.rate.lo ∧ u.minutes.lo * u.rate.lo ≤ 50000000) ∧ 0 ≤ u.minutes.hi * u.rate.hi ∧ u.minutes.hi * u.rate.hi ≤ 50000000 := by
  simp only [useOk, rangeOk, Bool.and_eq_true, decide_eq_true_eq] at h
  exact ⟨mul_bd (A := 50000) (B := 1000) (by omega) (by omega) (by omega) (by omega), mul_bd (A := 50000) (B := 1000) (by omega) (by omega) (by omega) (by omega)⟩
theorem c123 (E : Env) (S : Ents) (u : UseG) (h : useOk u = true) : CallW Tryz.prog E 123 #[.agg (useC u)] S fun r S' => r = .agg (rangeC (volR u)) ∧ S' = S := by
  obtain ⟨hl, hh⟩ := vol_bd h
  refine call_in (args := [.agg (useC u)]) Tryz.func123 (by decide) rfl rfl ?_
  repeat' first|(refine gX ?_;first|refine o_v rfl rfl ?_|(refine gL ?_;first|refine o_load rfl rfl rfl rfl ?_|refine o_loadR rfl rfl rfl (by omega) rfl rfl ?_|refine o_loadW rfl rfl rfl rfl ?_|refine o_loadK rfl rfl rfl ?_)|(refine gF ?_;first|refine o_fieldI rfl rfl rfl rfl ?_|refine o_field rfl rfl rfl rfl ?_)|(refine gB ?_;first|refine o_mul rfl rfl rfl rfl (by omega) ?_|refine o_quoN rfl rfl rfl rfl (by decide) (by omega) ?_|refine o_add rfl rfl rfl rfl (by omega) ?_|refine o_sub rfl rfl rfl rfl (by omega) ?_)|(refine gS ?_;first|refine o_store rfl rfl rfl rfl rfl rfl ?_|refine o_storeW rfl rfl rfl rfl rfl rfl ?_)|(refine o_allocZ rfl rfl ?_;intro _)|(refine o_box rfl rfl rfl ?_;intro _)|refine o_build rfl rfl rfl rfl rfl ?_)|refine o_head0 rfl ?_|refine o_end ?_|refine o_head1 rfl ?_|refine wp_seq ?_|refine o_region ?_|refine w_ret (S) (vs:=[_]) rfl (Res.cell rfl rfl Res.nil) ?_
  refine ⟨?_, rfl⟩
  have e : u.minutes.hi * u.rate.hi + 60 - 1 = u.minutes.hi * u.rate.hi + 59 := by omega
  simp [pack, rangeC, volR, e]
theorem c124 (E : Env) (S : Ents) (u : UseG) (h : useOk u = true) : CallW Tryz.prog E 124 #[.agg (useC u)] S fun r S' => r = .agg (rangeC (volR u)) ∧ S' = S := by
  obtain ⟨hl, hh⟩ := vol_bd h
  refine call_in (args := [.agg (useC u)]) Tryz.func124 (by decide) rfl rfl ?_
  repeat' first|(refine gX ?_;first|refine o_v rfl rfl ?_|(refine gL ?_;first|refine o_load rfl rfl rfl rfl ?_|refine o_loadR rfl rfl rfl (by omega) rfl rfl ?_|refine o_loadW rfl rfl rfl rfl ?_|refine o_loadK rfl rfl rfl ?_)|(refine gF ?_;first|refine o_fieldI rfl rfl rfl rfl ?_|refine o_field rfl rfl rfl rfl ?_)|(refine gB ?_;first|refine o_mul rfl rfl rfl rfl (by omega) ?_|refine o_quoN rfl rfl rfl rfl (by decide) (by omega) ?_|refine o_add rfl rfl rfl rfl (by omega) ?_)|(refine gS ?_;first|refine o_store rfl rfl rfl rfl rfl rfl ?_|refine o_storeW rfl rfl rfl rfl rfl rfl ?_)|(refine o_allocZ rfl rfl ?_;intro _)|(refine o_box rfl rfl rfl ?_;intro _)|refine o_build rfl rfl rfl rfl rfl ?_)|refine o_head0 rfl ?_|refine o_end ?_|refine o_head1 rfl ?_|refine wp_seq ?_|refine o_region ?_|refine w_ret (S) (vs:=[_]) rfl (Res.cell rfl rfl Res.nil) ?_
  exact ⟨rfl, rfl⟩
end Go.Proofs.YtpnnmklacialgaaGreat
namespace Go.Proofs.YtpnnmklacialgaaGreat
open Go.Conc
attribute [local irreducible] WP OpF OpX CallW SemH retQ
theorem sumR_drop {xs : List RangeG} {j : Nat} (h : j < xs.length) : sumR (xs.drop j) = ⟨xs[j].lo + (sumR (xs.drop (j + 1))).lo, xs[j].hi + (sumR (xs.drop (j + 1))).hi⟩ := by
  rw [List.drop_eq_getElem_cons h, sumR]
theorem c102 (E : Env) (S : Ents) (xs : List RangeG) (v : Value) (hv : SlV S v xs) (hm : xs.length ≤ 1000) (hb : ∀ x ∈ xs, Bd 1000000000000000 x) : CallW Tryz.prog E 102 #[v] S fun r S' => r = .agg (rangeC (sumR xs)) ∧ S' = S := by
  obtain ⟨a, cp, rfl, _, hr⟩ := hv
  have := SlI.mk hr
  refine call_in (args := [.slice a xs.length cp]) Tryz.func102 (by decide) rfl rfl ?_
  repeat' first|(refine gX ?_;first|refine o_v rfl rfl ?_|(refine gL ?_;first|refine o_load rfl rfl rfl rfl ?_|refine o_loadR rfl rfl rfl (by omega) rfl rfl ?_|refine o_loadW rfl rfl rfl rfl ?_|refine o_loadK rfl rfl rfl ?_)|(refine gF ?_;first|refine o_fieldI rfl rfl rfl rfl ?_|refine o_field rfl rfl rfl rfl ?_)|(refine gB ?_;first|refine o_add rfl rfl rfl rfl (by omega) ?_)|(refine gI ?_;first|refine o_indexS rfl rfl rfl rfl rfl rfl (by omega) ?_|refine o_index rfl rfl rfl rfl rfl (by omega) ?_)|(refine gS ?_;first|refine o_store rfl rfl rfl rfl rfl rfl ?_|refine o_storeW rfl rfl rfl rfl rfl rfl ?_)|(refine o_allocZ rfl rfl ?_;intro _))|refine o_head0 rfl ?_|refine o_end ?_|refine o_head1 rfl ?_|refine wp_seq ?_|refine o_region ?_|refine wp_block ?_|refine wp_skip ?_|refine wp_exit ?_|(refine w_condD rfl ?_ ?_<;>intro h)|(refine w_cond rfl ?_ ?_<;>intro h<;>try exact Bool.noConfusion h)|refine w_ret (S) (vs:=[_]) rfl (Res.cell rfl rfl Res.nil) ?_
  rename_i b2 b3
  refine wp_loop (fun i t ds S' => ∃ (j : Nat) (t0 : Tm) (lo hi : Int), i = xs.length - j ∧ j ≤ xs.length ∧ [] = ds ∧ ⟨b3, true, .cells #[.int .i64 lo, .int .i64 hi] 70 (0, 0)⟩ :: ⟨b2, true, .cells #[.int .i64 0, .int .i64 0] 70 (0, 0)⟩ :: S = S' ∧ t = den [(8, .int .i64 j), (7, .int .i64 xs.length), (6, .slice a xs.length cp), (3, .pointer (some ⟨b3, 0, none⟩)), (2, .pointer (some ⟨b2, 0, none⟩))] t0 ∧
      (lo + (sumR (xs.drop j)).lo = (sumR xs).lo ∧ hi + (sumR (xs.drop j)).hi = (sumR xs).hi) ∧ -(1000000000000000 * j) ≤ lo ∧ lo ≤ 1000000000000000 * j ∧ -(1000000000000000 * j) ≤ hi ∧ hi ≤ 1000000000000000 * j)
    xs.length ⟨0, _, 0, 0, rfl, Nat.zero_le _, rfl, rfl, keep ⟨rfl, rfl, rfl, rfl, rfl, trivial⟩, by simp, by simp⟩ ?_
  rintro i t ds S' ⟨j, t0, lo, hi, rfl, hj, rfl, rfl, rfl, hp, hq⟩
  repeat' first|(refine gX ?_;first|refine o_v rfl rfl ?_|(refine gL ?_;first|refine o_load rfl rfl rfl rfl ?_|refine o_loadR rfl rfl rfl (by omega) rfl rfl ?_|refine o_loadW rfl rfl rfl rfl ?_|refine o_loadK rfl rfl rfl ?_)|(refine gF ?_;first|refine o_fieldI rfl rfl rfl rfl ?_|refine o_field rfl rfl rfl rfl ?_)|(refine gB ?_;first|refine o_add rfl rfl rfl rfl (by have := hb xs[j] (List.getElem_mem (by omega)); unfold Bd at this; omega) ?_|refine o_add rfl rfl rfl rfl (by omega) ?_)|(refine gI ?_;first|refine o_indexS rfl rfl rfl rfl rfl rfl (by omega) ?_|refine o_index rfl rfl rfl rfl rfl (by omega) ?_)|(refine gS ?_;first|refine o_store rfl rfl rfl rfl rfl rfl ?_|refine o_storeW rfl rfl rfl rfl rfl rfl ?_)|(refine o_allocZ rfl rfl ?_;intro _))|refine o_head0 rfl ?_|refine o_end ?_|refine o_head1 rfl ?_|refine wp_seq ?_|refine o_region ?_|refine wp_block ?_|refine wp_skip ?_|refine wp_exit ?_|(refine w_condD rfl ?_ ?_<;>intro h)|(refine w_cond rfl ?_ ?_<;>intro h<;>try exact Bool.noConfusion h)|refine w_ret (S) (vs:=[_]) rfl (Res.cell rfl rfl Res.nil) ?_
  · have hb' := hb xs[j] (List.getElem_mem (by omega))
    unfold Bd at hb'
    rw [sumR_drop (by omega)] at hp
    exact ⟨xs.length - (j + 1), by omega, _, Sb.h, j + 1, _, lo + xs[j].lo, hi + xs[j].hi, rfl, by omega, rfl, rfl, keep ⟨rfl, rfl, rfl, rfl, rfl, trivial⟩, by dsimp only at hp; omega, by omega⟩
  · have : j = xs.length := by omega
    subst this
    rw [List.drop_length] at hp
    simp only [sumR, Int.add_zero] at hp
    refine ⟨?_, rfl⟩
    simp [pack, rangeC, iv, hp]
theorem c103 (E : Env) (S : Ents) (xs : List RangeG) (v : Value) (hv : SlV S v xs) (hm : xs.length ≤ 1000) (hb : ∀ x ∈ xs, Bd 1000000000000000 x) : CallW Tryz.prog E 103 #[v] S fun r S' => r = .agg (rangeC (sumR xs)) ∧ S' = S := by
  obtain ⟨a, cp, rfl, _, hr⟩ := hv
  have := SlI.mk hr
  refine call_in (args := [.slice a xs.length cp]) Tryz.func103 (by decide) rfl rfl ?_
  repeat' first|(refine gX ?_;first|refine o_v rfl rfl ?_|(refine gL ?_;first|refine o_load rfl rfl rfl rfl ?_|refine o_loadR rfl rfl rfl (by omega) rfl rfl ?_|refine o_loadW rfl rfl rfl rfl ?_|refine o_loadK rfl rfl rfl ?_)|(refine gF ?_;first|refine o_fieldI rfl rfl rfl rfl ?_|refine o_field rfl rfl rfl rfl ?_)|(refine gB ?_;first|refine o_add rfl rfl rfl rfl (by omega) ?_)|(refine gI ?_;first|refine o_indexS rfl rfl rfl rfl rfl rfl (by omega) ?_|refine o_index rfl rfl rfl rfl rfl (by omega) ?_)|(refine gS ?_;first|refine o_store rfl rfl rfl rfl rfl rfl ?_|refine o_storeW rfl rfl rfl rfl rfl rfl ?_)|(refine o_allocZ rfl rfl ?_;intro _)|refine o_build rfl rfl rfl rfl rfl ?_)|refine o_head0 rfl ?_|refine o_end ?_|refine o_head1 rfl ?_|refine wp_seq ?_|refine o_region ?_|refine wp_block ?_|refine wp_skip ?_|refine wp_exit ?_|(refine w_condD rfl ?_ ?_<;>intro h)|(refine w_cond rfl ?_ ?_<;>intro h<;>try exact Bool.noConfusion h)|refine w_ret (S) (vs:=[_]) rfl (Res.cell rfl rfl Res.nil) ?_
  rename_i b2 b3
  refine wp_loop (fun i t ds S' => ∃ (j : Nat) (t0 : Tm) (lo hi : Int), i = xs.length - j ∧ j ≤ xs.length ∧ [] = ds ∧ ⟨b3, true, .cells #[.int .i64 lo, .int .i64 hi] 70 (0, 0)⟩ :: ⟨b2, true, .cells #[.int .i64 0, .int .i64 0] 70 (0, 0)⟩ :: S = S' ∧ t = den [(9, .int .i64 j), (8, .int .i64 xs.length), (7, .slice a xs.length cp), (3, .pointer (some ⟨b3, 0, none⟩)), (2, .pointer (some ⟨b2, 0, none⟩))] t0 ∧
      (lo + (sumR (xs.drop j)).lo = (sumR xs).lo ∧ hi + (sumR (xs.drop j)).hi = (sumR xs).hi) ∧ -(1000000000000000 * j) ≤ lo ∧ lo ≤ 1000000000000000 * j ∧ -(1000000000000000 * j) ≤ hi ∧ hi ≤ 1000000000000000 * j)
    xs.length ⟨0, _, 0, 0, rfl, Nat.zero_le _, rfl, rfl, keep ⟨rfl, rfl, rfl, rfl, rfl, trivial⟩, by simp, by simp⟩ ?_
  rintro i t ds S' ⟨j, t0, lo, hi, rfl, hj, rfl, rfl, rfl, hp, hq⟩
  repeat' first|(refine gX ?_;first|refine o_v rfl rfl ?_|(refine gL ?_;first|refine o_load rfl rfl rfl rfl ?_|refine o_loadR rfl rfl rfl (by omega) rfl rfl ?_|refine o_loadW rfl rfl rfl rfl ?_|refine o_loadK rfl rfl rfl ?_)|(refine gF ?_;first|refine o_fieldI rfl rfl rfl rfl ?_|refine o_field rfl rfl rfl rfl ?_)|(refine gB ?_;first|refine o_add rfl rfl rfl rfl (by have := hb xs[j] (List.getElem_mem (by omega)); unfold Bd at this; omega) ?_|refine o_add rfl rfl rfl rfl (by omega) ?_)|(refine gI ?_;first|refine o_indexS rfl rfl rfl rfl rfl rfl (by omega) ?_|refine o_index rfl rfl rfl rfl rfl (by omega) ?_)|(refine gS ?_;first|refine o_store rfl rfl rfl rfl rfl rfl ?_|refine o_storeW rfl rfl rfl rfl rfl rfl ?_)|(refine o_allocZ rfl rfl ?_;intro _)|refine o_build rfl rfl rfl rfl rfl ?_)|refine o_head0 rfl ?_|refine o_end ?_|refine o_head1 rfl ?_|refine wp_seq ?_|refine o_region ?_|refine wp_block ?_|refine wp_skip ?_|refine wp_exit ?_|(refine w_condD rfl ?_ ?_<;>intro h)|(refine w_cond rfl ?_ ?_<;>intro h<;>try exact Bool.noConfusion h)|refine w_ret (S) (vs:=[_]) rfl (Res.cell rfl rfl Res.nil) ?_
  · have hb' := hb xs[j] (List.getElem_mem (by omega))
    unfold Bd at hb'
    rw [sumR_drop (by omega)] at hp
    exact ⟨xs.length - (j + 1), by omega, _, Sb.h, j + 1, _, lo + xs[j].lo, hi + xs[j].hi, rfl, by omega, rfl, rfl, keep ⟨rfl, rfl, rfl, rfl, rfl, trivial⟩, by dsimp only at hp; omega, by omega⟩
  · have : j = xs.length := by omega
    subst this
    rw [List.drop_length] at hp
    simp only [sumR, Int.add_zero] at hp
    refine ⟨?_, rfl⟩
    simp [pack, rangeC, iv, hp]
end Go.Proofs.YtpnnmklacialgaaGreat
namespace Go.Proofs.YtpnnmklacialgaaGreat
open Go.Conc
attribute [local irreducible] WP OpF OpX CallW SemH retQ
def countsR (p k : Int) (x : ReadG) : Bool := decide (x.period = p) && countsB x.known x.til k
def countSrc (n : NetG) (p k : Int) : List Int := (n.readings.filter (countsR p k)).map (·.source)
theorem filter_snoc {α : Type} {l : List α} {q : α → Bool} {j : Nat} (h : j < l.length) : (l.take (j + 1)).filter q = (l.take j).filter q ++ (if q l[j] = true then [l[j]] else []) := by
  rw [take_snoc h, List.filter_append]
  congr 1
  cases hq : q l[j] <;> simp [hq]
theorem filter_len {α : Type} {l : List α} {q : α → Bool} {j : Nat} : ((l.take j).filter q).length ≤ l.length := Nat.le_trans (List.length_filter_le _ _) (by rw [List.length_take]; omega)
def onlyN (n : NetG) (by' : List Int) : NetG := { n with readings := n.readings.filter fun x => by'.contains x.source }
end Go.Proofs.YtpnnmklacialgaaGreat
namespace Go.Proofs.YtpnnmklacialgaaGreat
open Go.Conc
attribute [local irreducible] WP OpF OpX CallW SemH retQ
theorem c76 (E : Env) (S : Ents) (v : Value) (xs : List Int) (hv : SlV S v xs) (hm : xs.length ≤ 17592186044416) : CallW Tryz.prog E 76 #[v] S fun r S' => ∃ Δ, Own r xs Δ ∧ S' = Δ ++ S := by
  have hv0 := hv
  obtain ⟨a, cp, rfl, _, hr⟩ := hv
  refine call_in (args := [.slice a xs.length cp]) Tryz.func76 (by decide) rfl rfl ?_
  repeat' first|(refine gX ?_;first|refine o_v rfl rfl ?_|(refine gB ?_;first|refine o_eqNil rfl rfl rfl rfl rfl ?_)|(refine gC ?_;first|(refine o_append (xs := ([] : List Int)) (ys := xs) rfl rfl rfl rfl (Own.some (ty := 3) (c := #[]) IsRow.nil rfl (Nat.le_refl _)) (fun _ _ => hv0.sub Sb.h) (by simp; omega) rfl rfl rfl rfl ?_;intro w2 Δ2 ho2;refine ⟨inferInstance, ?_⟩))|(refine o_bslice rfl rfl rfl rfl rfl rfl rfl ?_;intro _))|refine o_head0 rfl ?_|refine o_end ?_|refine o_head1 rfl ?_|refine wp_seq ?_|refine o_region ?_|refine wp_skip ?_|(refine w_condD rfl ?_ ?_<;>intro h)|(refine w_cond rfl ?_ ?_<;>intro h<;>try exact Bool.noConfusion h)|refine w_ret (Δ2 ++ S) (vs:=[_]) rfl (Res.tmp rfl Res.nil) ?_|refine w_ret (S) (vs:=[_]) rfl (Res.tmp rfl Res.nil) ?_
  · have : a = none := Option.isNone_iff_eq_none.1 h
    subst this
    cases xs with
    | nil => exact ⟨[], .nil, rfl⟩
    | cons x xs => exact absurd (hr (by simp)).1 (by simp)
  · exact ⟨Δ2, by simpa [pack] using ho2, rfl⟩
end Go.Proofs.YtpnnmklacialgaaGreat
namespace Go.Proofs.YtpnnmklacialgaaGreat
open Go.Conc
def markE (r : Nat) : Ent := ⟨r, true, .deferred (some [])⟩
def mks (ms : List Nat) : Ents := ms.map markE
def dsOf (ms : List Nat) : List Deferred := ms.map fun r => { target := .collected r, args := #[] }
section
variable {P : Program} {E : Env} {Stop : StopAt} {fn n : Nat} {t : Tm} {ds : List Deferred} {S : Ents}
theorem RunE.marks {b c : Frame} {arr : Array Value} {cs : List Frame} {k : List Item} : ∀ (ms : List Nat) {w : World} {O : Nat → Prop} {F S0 : Ents}, Holds (mks ms ++ S0 ++ F) w O E.m.ro →
    (∀ w' O', Holds (S0 ++ F) w' O' E.m.ro → RunE P E Stop (G { b.st arr [] k with mode := .returning } (c :: cs)) w' O') → RunE P E Stop (G { b.st arr (dsOf ms) k with mode := .returning } (c :: cs)) w O
  | [], w, O, F, S0, hh, h => h w O (by simpa [mks] using hh)
  | r :: ms, w, O, F, S0, hh, h => by
    refine Run.step rfl fun w₁ hrel => ?_
    have hs : SemH P E.m (Instr.takeDeferred r) (mks (r :: ms) ++ S0) fun x S' => x = [] ∧ S' = ⟨r, true, .deferred none⟩ :: (mks ms ++ S0) := by
      unfold Instr.takeDeferred
      refine semH_bind (semH_getObj (o := .deferred (some [])) (by simp [mks, markE]) rfl ?_)
      simp only
      exact semH_bind (semH_setObj (o := .deferred (some [])) (S' := ⟨r, true, .deferred none⟩ :: (mks ms ++ S0)) .here rfl rfl (semH_pure ⟨rfl, rfl⟩))
    obtain ⟨v, w', es, S', hrun, hb', hh', hes, rfl, rfl⟩ := hs F O w₁ w₁ #[] (Base.refl O w₁) (by rw [grow_self]; exact hh.rely hrel) (by simp)
    refine ⟨G { b.st arr (dsOf ms) k with mode := .returning } (c :: cs), w', seen P b.fn es, ?_, ⟨hb'.tape, hb'.os, hb'.output, hb'.size, hb'.keep, fun e he => hes e (seen_sub e he)⟩, ?_⟩
    · simp [G, stepG, unwind, Frame.st, dsOf, hrun, GStep.after, -Sem.runT_eq]
    · exact RunE.marks ms (F := F) (S0 := S0) (hh'.sub (List.Sublist.cons _ (List.Sublist.refl _))) h
def retM (P : Program) (m : Mode) (rs : Array ResultVar) (R : Value → Ents → Prop) : Post
  | .ret, t, ds, S => ∃ ms S0, ds = dsOf ms ∧ S.Perm (mks ms ++ S0) ∧ SemH P m (resultsT rs t) S0 R
  | .normal, t, ds, S => ∃ ms S0, ds = dsOf ms ∧ S.Perm (mks ms ++ S0) ∧ SemH P m (resultsT rs t) S0 R
  | _, _, _, _ => False
theorem callM_of {f : FuncId} {fr : Func} {c : Code} {args : Array Value} {R : Value → Ents → Prop} (hf : P.funcs[f]? = some fr) (hname : (fr.name == "runtime.NumGoroutine") = false) (hb : fr.body = some c) (hargs : args.size ≤ fr.ntmps)
    (h : WP P E f fr.ntmps c (retM P E.m fr.results R) (enterT args) [] S) : CallW P E f args S R := by
  refine ⟨⟨fr, hf, hname, by rw [hb]; rfl⟩, fun F c' cs w O Stop hh hc => ?_⟩
  rw [enter_st args hf hb]
  refine h F (base f) _ [] (c' :: cs) w O Stop rfl ⟨by simp [base], fun _ => rfl⟩ (agree_enter hargs) hh fun e t' ds' S' arr' w' O' q ha hh' => ?_
  have key : ∀ (k' : List Item) w₁, Rely O' E.m w' w₁ → (∃ ms S0, ds' = dsOf ms ∧ S'.Perm (mks ms ++ S0) ∧ SemH P E.m (resultsT fr.results t') S0 R) → RunE P E Stop (G { (base f).st arr' ds' k' with mode := .returning } (c' :: cs)) w₁ O' := by
    rintro k' w₁ hr ⟨ms, S0, rfl, hp, hs⟩
    exact RunE.marks ms (F := F) (S0 := S0) ((hh'.perm (hp.append_right F)).rely hr) fun w₂ O₂ hh₂ => RunE.returns hf rfl rfl ha hs hh₂ hc
  cases e with
  | normal => exact RunE.silent (g' := G { (base f).st arr' ds' [] with mode := .returning } (c' :: cs)) rfl (fun _ => by simp [G, stepG, stepG.exec, Frame.st, base, default, instInhabitedFrame.default]) fun w₁ hr => key [] w₁ hr q
  | ret =>
    intro k'
    exact RunE.silent (g' := G { (base f).st arr' ds' (.code .ret :: k') with mode := .returning } (c' :: cs)) rfl (fun _ => by simp [G, stepG, stepG.exec, Frame.st, base, default, instInhabitedFrame.default]) fun w₁ hr => key _ w₁ hr q
  | exit id => exact q.elim
  | goto l => exact q.elim
  | panic c => exact q.elim
  | outgrown => exact q.elim
end
end Go.Proofs.YtpnnmklacialgaaGreat
namespace Go.Proofs.YtpnnmklacialgaaGreat
open Go.Conc
section
variable {P : Program} {E : Env} {Stop : StopAt} {fn n : Nat} {t : Tm} {ds : List Deferred} {S : Ents}
def finQ (lp : Nat) (R : Value → Ents → Prop) : Post
  | .normal, t, ds, S => ds = [] ∧ ∃ L S', Upd S lp (.loop L) (.loop { L with state := .ready, pending := none }) S' ∧ R (.bool true) S'
  | .ret, t, ds, S => ds = [] ∧ ∃ L S', Upd S lp (.loop L) (.loop { L with state := .done, pending := some .ret }) S' ∧ R (.bool false) S'
  | _, _, _, _ => False
def midQ (P : Program) (E : Env) (fn n lp : Nat) (body : Code) (R : Value → Ents → Prop) : Post
  | .normal, t, ds, S => ds = [] ∧ ∃ L S', L.state = .ready ∧ Upd S lp (.loop L) (.loop { L with state := .busy }) S' ∧ WP P E fn n body (finQ lp R) t [] S'
  | _, _, _, _ => False
def rbase (f lp : Nat) : Frame := { fn := f, tmps := #[], todo := [], defers := [], mode := .run, kind := .normal, roundOf := some lp }
theorem round_st (lp f : Nat) (arr : Array Value) (a c : Code) : Frame.round lp f arr a c .normal = (rbase f lp).st arr [] [.code a, .beginRound, .code c] := rfl
theorem semH_beginRound {m : Mode} {lp : Nat} {L : Loop} {S S' : Ents} {R : Unit → Ents → Prop} (hl : L.state = .ready) (hu : Upd S lp (.loop L) (.loop { L with state := .busy }) S') (h : R () S') : SemH P m (Instr.beginRound lp) S R := by
  unfold Instr.beginRound Instr.getLoop
  refine semH_bind (semH_bind (semH_getObj hu.mem rfl (semH_pure ?_)))
  refine semH_bind (semH_setObj hu rfl rfl ?_)
  rw [hl]
  exact semH_pure h
theorem semH_endRound {m : Mode} {lp : Nat} {L : Loop} {S S' : Ents} {j : Option Code} {R : Value → Ents → Prop} (hu : Upd S lp (.loop L) (.loop { L with state := if j.isNone then .ready else .done, pending := j }) S') (h : R (.bool j.isNone) S') : SemH P m (Instr.endRound lp j) S R := by
  unfold Instr.endRound Instr.getLoop
  refine semH_bind (semH_bind (semH_getObj hu.mem rfl (semH_pure ?_)))
  exact semH_bind (semH_setObj hu rfl rfl (semH_pure h))
def inRd (E : Env) : Env := { E with rd := true }
theorem roundW_of {lp : Nat} {arr : Array Value} {assign body : Code} {R : Value → Ents → Prop} (ha : Agree n arr t) (h : WP P (inRd E) fn n assign (midQ P (inRd E) fn n lp body R) t [] S) : RoundW P E lp fn arr assign body S R := by
  intro F c cs w O Stop hh hc
  rw [round_st]
  refine h F (rbase fn lp) arr [.beginRound, .code body] (c :: cs) w O Stop rfl ⟨by simp [rbase], fun h => by cases h⟩ ha hh fun e t1 ds1 S1 arr1 w1 O1 q ha1 hh1 => ?_
  cases e with
  | normal =>
    obtain ⟨rfl, L, S2, hst, hu, hb⟩ := q
    refine Run.step rfl fun w₁ hrel => ?_
    obtain ⟨_, w', es, S3, hrun, hb', hh', hes, rfl⟩ := (semH_beginRound (P := P) (m := E.m) (R := fun _ S' => S' = S2) hst hu rfl) F O1 w₁ w₁ #[] (Base.refl O1 w₁) (by rw [grow_self]; exact hh1.rely hrel) (by simp)
    refine ⟨G ((rbase fn lp).st arr1 [] [.code body]) (c :: cs), w', seen P fn es, ?_, ⟨hb'.tape, hb'.os, hb'.output, hb'.size, hb'.keep, fun e he => hes e (seen_sub e he)⟩, ?_⟩
    · have hrun' : Sem.runT P (do Instr.beginRound lp; pure Next.skip) w₁ #[] = (.ok .skip w', es) := by
        show (Sem.bind _ _).runT P w₁ #[] = _
        rw [Sem.runT_bind', hrun]; rfl
      have hrun2 : Sem.runT P ((fun _ => Next.skip) <$> Instr.beginRound lp) w₁ #[] = (.ok .skip w', es) := hrun'
      simp [G, stepG, stepG.exec, stepG.apply, Frame.st, rbase, hrun2, -Sem.runT_eq, GStep.after, Frame.finish]
    · refine hb F (rbase fn lp) arr1 [] (c :: cs) w' _ Stop rfl ⟨by simp [rbase], fun h => by cases h⟩ ha1 hh' fun e t2 ds2 S4 arr2 w2 O2 q2 ha2 hh2 => ?_
      cases e with
      | normal =>
        obtain ⟨rfl, L', S5, hu', hR⟩ := q2
        refine Run.step rfl fun w₂ hrel2 => ?_
        obtain ⟨v, w3, es3, S6, hrun3, hb3, hh3, hes3, rfl, rfl⟩ := (semH_endRound (P := P) (m := E.m) (j := none) (R := fun v S' => v = .bool true ∧ S' = S5) hu' ⟨rfl, rfl⟩) F O2 w₂ w₂ #[] (Base.refl O2 w₂) (by rw [grow_self]; exact hh2.rely hrel2) (by simp)
        refine ⟨G (c.finish (.bool true)) cs, w3, seen P fn es3, ?_, ⟨hb3.tape, hb3.os, hb3.output, hb3.size, hb3.keep, fun e he => hes3 e (seen_sub e he)⟩, hc _ _ _ _ hR hh3⟩
        simp [G, stepG, stepG.exec, Frame.st, rbase, hrun3, -Sem.runT_eq, GStep.after, doReturn]
      | ret =>
        obtain ⟨rfl, L', S5, hu', hR⟩ := q2
        intro k'
        refine Run.step rfl fun w₂ hrel2 => ?_
        obtain ⟨v, w3, es3, S6, hrun3, hb3, hh3, hes3, rfl, rfl⟩ := (semH_endRound (P := P) (m := E.m) (j := some .ret) (R := fun v S' => v = .bool false ∧ S' = S5) hu' ⟨rfl, rfl⟩) F O2 w₂ w₂ #[] (Base.refl O2 w₂) (by rw [grow_self]; exact hh2.rely hrel2) (by simp)
        refine ⟨G (c.finish (.bool false)) cs, w3, seen P fn es3, ?_, ⟨hb3.tape, hb3.os, hb3.output, hb3.size, hb3.keep, fun e he => hes3 e (seen_sub e he)⟩, hc _ _ _ _ hR hh3⟩
        simp [G, stepG, stepG.exec, Frame.st, rbase, hrun3, -Sem.runT_eq, GStep.after, doReturn]
      | exit id => exact q2.elim
      | goto l => exact q2.elim
      | panic c => exact q2.elim
      | outgrown => exact q2.elim
  | ret => exact q.elim
  | exit id => exact q.elim
  | goto l => exact q.elim
  | panic c => exact q.elim
  | outgrown => exact q.elim
end
end Go.Proofs.YtpnnmklacialgaaGreat
namespace Go.Proofs.YtpnnmklacialgaaGreat
open Go.Conc
@[reducible] def loopE (lp : Nat) (L : Loop) : Ent := ⟨lp, true, .loop L⟩
section
variable {P : Program} {E : Env} {fn n : Nat} {t : Tm} {ds : List Deferred} {S : Ents} {Q : Post}
theorem CallW.rd {f : FuncId} {args : Array Value} {R : Value → Ents → Prop} {r : Bool} (h : CallW P { E with rd := r } f args S R) : CallW P E f args S R := h
theorem CallW.inRd {f : FuncId} {args : Array Value} {R : Value → Ents → Prop} (h : CallW P E f args S R) : CallW P (inRd E) f args S R := h
theorem CallW.weaken {f : FuncId} {args : Array Value} {R R' : Value → Ents → Prop} (h : CallW P E f args S R) (hr : ∀ v S', R v S' → ∃ S'', List.Sublist S'' S' ∧ R' v S'') : CallW P E f args S R' :=
  ⟨h.1, fun F c cs w O Stop h1 h2 => h.2 F c cs w O Stop h1 fun v S' w' O' q hh => let ⟨S'', hs, hq⟩ := hr v S' q; h2 v S'' w' O' hq (hh.sub (hs.append_right F))⟩
theorem RoundW.sub {lp : Nat} {f : FuncId} {tmps : Array Value} {assign body : Code} {S S' : Ents} {R : Value → Ents → Prop} (h : RoundW P E lp f tmps assign body S' R) (hs : List.Sublist S' S) : RoundW P E lp f tmps assign body S R :=
  fun F c cs w O Stop h1 h2 => h F c cs w O Stop (h1.sub (hs.append_right F)) h2
def mkD (r : Nat) : Deferred := { target := .collected r, args := #[] }
def newL (fn : FuncId) (arr : Array Value) (params : Array Tmp) (assign body : Code) (r : Nat) : Loop := { state := .ready, pending := none, fn, tmps := arr, params, assign, body, defers := r }
theorem semH_enterLoop {m : Mode} {arr : Array Value} {params : Array Tmp} {assign body : Code} {R : Nat × List Deferred → Ents → Prop} (h : ∀ r lp, R (lp, [mkD r]) (loopE lp (newL fn arr params assign body r) :: markE r :: S)) : SemH P m (Instr.enterLoop fn arr params assign body none) S R := by
  unfold Instr.enterLoop
  refine semH_bind (semH_bind (semH_new fun r => semH_pure (semH_bind (semH_new fun lp => semH_pure (h r lp)))))
theorem semH_endLoop {m : Mode} {lp : Nat} {L : Loop} {S S' : Ents} {R : Option Code → Ents → Prop} (hst : L.state ≠ .busy) (hu : Upd S lp (.loop L) (.loop { L with state := .exhausted }) S') (h : R L.pending S') : SemH P m (Instr.endLoop lp) S R := by
  unfold Instr.endLoop Instr.getLoop
  refine semH_bind (semH_bind (semH_getObj hu.mem rfl (semH_pure ?_)))
  have : (L.state == LoopState.busy) = false := by cases hs : L.state <;> simp_all <;> rfl
  rw [this]
  exact semH_bind (semH_setObj hu rfl rfl (semH_pure h))
def rfQ (Q : Post) (t : Tm) (ds : List Deferred) (S : Ents) : Option Code → Prop
  | none => Q .normal t ds S
  | some .ret => Q .ret t ds S
  | some (.exit id) => Q (.exit id) t ds S
  | _ => False
theorem wp_rangeFunc {f : Operand} {params : Array Tmp} {assign body : Code} {F : FuncId} {first captured : Array Value} {R : Nat → Nat → Array Value → Value → Ents → Prop} (hf : ev t f = .func (.func F) first captured) (hrd : E.rd = false)
    (h : ∀ r lp arr, Agree n arr t → CallW P E F (first ++ #[.func (.yield lp) #[] #[]] ++ captured) (loopE lp (newL fn arr params assign body r) :: markE r :: S) (R r lp arr))
    (hk : ∀ r lp arr v S', R r lp arr v S' → ∃ L S'', L.state ≠ .busy ∧ Upd S' lp (.loop L) (.loop { L with state := .exhausted }) S'' ∧ rfQ Q t (mkD r :: ds) S'' L.pending) : WP P E fn n (.rangeFunc f params assign body) Q t ds S := by
  intro F' b arr k cs w O Stop h1 h2 h3 h4 h5
  have hro : b.roundOf = none := h2.2 hrd
  have hev : (b.st arr ds (.code (.rangeFunc f params assign body) :: k)).eval f = .func (.func F) first captured := by rw [eval_st h3]; exact hf
  refine Run.step rfl fun w₁ hrel => ?_
  obtain ⟨x, w', es, S1, hrun, hb, hh, hes, r, lp, rfl, rfl⟩ := (semH_enterLoop (P := P) (m := E.m) (fn := fn) (arr := arr) (params := params) (assign := assign) (body := body) (S := S) (R := fun x S' => ∃ r lp, x = (lp, [mkD r]) ∧ S' = loopE lp (newL fn arr params assign body r) :: markE r :: S) fun r lp => ⟨r, lp, rfl, rfl⟩) F' O w₁ w₁ #[] (Base.refl O w₁) (by rw [grow_self]; exact h4.rely hrel) (by simp)
  have hC := h r lp arr h3
  have hcall : ∀ w es', (callFunc F (first ++ #[.func (.yield lp) #[] #[]] ++ captured)).runT P w es' = (.ok (.enter F (first ++ #[.func (.yield lp) #[] #[]] ++ captured)) w, es') := fun w es' => run_callFunc hC.1 _ w es'
  refine ⟨G (Frame.enter P F (first ++ #[.func (.yield lp) #[] #[]] ++ captured) .normal) (b.st arr (mkD r :: ds) (.inRangeFunc lp :: k) :: cs), w', seen P b.fn es, ?_, ⟨hb.tape, hb.os, hb.output, hb.size, hb.keep, fun e he => hes e (seen_sub e he)⟩, ?_⟩
  · have hrun' : Sem.runT P (Instr.enterLoop b.fn arr params assign body b.roundOf) w₁ #[] = (.ok (lp, [mkD r]) w', es) := by rw [h1, hro]; exact hrun
    have he2 : ∀ x, ({ b with tmps := arr, defers := mkD r :: ds, todo := .inRangeFunc lp :: k, mode := .run } : Frame).eval x = (b.st arr ds (.code (.rangeFunc f params assign body) :: k)).eval x := fun x => by cases x <;> rfl
    have hinv : Sem.runT P (do let d ← resolve ({ b with tmps := arr, defers := mkD r :: ds, todo := .inRangeFunc lp :: k, mode := .run } : Frame).eval { callee := .value f, args := #[.const (.func (.yield lp) #[] #[])], argTypes := #[] } 0; invoke d.target d.args) w' #[] = (.ok (.enter F (first ++ #[.func (.yield lp) #[] #[]] ++ captured)) w', #[]) := by
      unfold resolve
      simp only [he2, hev, Deferred.ofValue]
      show (Sem.bind _ _).runT P w' #[] = _
      rw [Sem.runT_bind']
      simp only [pure, Sem.runT, invoke]
      have e3 : (first ++ Array.map ({ b with tmps := arr, defers := mkD r :: ds, todo := .inRangeFunc lp :: k, mode := .run } : Frame).eval #[.const (.func (.yield lp) #[] #[])]) ++ captured = first ++ #[.func (.yield lp) #[] #[]] ++ captured := by simp [Frame.eval]
      rw [e3]
      exact hcall w' #[]
    have hkk : (b.kind == CallKind.early) = false := by simpa using h2.1
    simp [G, stepG, stepG.exec, stepG.apply, Frame.st, hrun', hinv, -Sem.runT_eq, hkk, GStep.after, seen_none]
  · refine hC.2 F' _ cs w' _ Stop hh fun v S2 w2 O2 hR hh2 => ?_
    obtain ⟨L, S3, hst, hu, hq⟩ := hk r lp arr v S2 hR
    have hfin : (b.st arr (mkD r :: ds) (.inRangeFunc lp :: k)).finish v = b.st arr (mkD r :: ds) (.endRangeFunc lp :: k) := rfl
    rw [hfin]
    refine Run.step rfl fun w₂ hrel2 => ?_
    obtain ⟨j, w3, es3, S4, hrun3, hb3, hh3, hes3, rfl, rfl⟩ := (semH_endLoop (P := P) (m := E.m) (R := fun j S' => j = L.pending ∧ S' = S3) hst hu ⟨rfl, rfl⟩) F' O2 w₂ w₂ #[] (Base.refl O2 w₂) (by rw [grow_self]; exact hh2.rely hrel2) (by simp)
    refine ⟨G (b.st arr (mkD r :: ds) ((L.pending.map Item.code).toList ++ k)) cs, w3, seen P b.fn es3, ?_, ⟨hb3.tape, hb3.os, hb3.output, hb3.size, hb3.keep, fun e he => hes3 e (seen_sub e he)⟩, ?_⟩
    · simp [G, stepG, stepG.exec, Frame.st, hrun3, -Sem.runT_eq, GStep.after]
    · cases hp : L.pending with
      | none =>
        rw [hp] at hq
        exact h5 .normal _ _ _ _ _ _ hq h3 hh3
      | some c =>
        rw [hp] at hq
        cases c <;> first
          | exact hq.elim
          | exact h5 .ret _ _ _ _ _ _ hq h3 hh3 k
          | (obtain ⟨k', hk', hg⟩ := h5 _ _ _ _ _ _ _ hq h3 hh3
             exact RunE.silent rfl (fun _ => st_exit hk') fun w₃ hr3 => RunE.rely hg hr3)
end
section
variable {E : Env} {fn n : Nat} {Q : Post} {K : Tm → List Deferred → Ents → Prop} {l : TL} {t : Tm} {ds : List Deferred} {S Z Zi : Ents} {ops : Array Oper} {i : Nat} {z : Bool} {rest : List (Nat × Bool)} {sq : Bool}
variable {d : Nat} {ty : TypeId} {pos : String} {af : Array Edge} {g : Option (Nat × Bool)}
def rndT (L : Loop) (vs : List Value) : Array Value := (L.params.zip vs.toArray).foldl (fun tmps (t, a) => tmps.setIfInBounds t a) L.tmps
theorem o_yield {x : Nat} {args : Array Operand} {ats : Array TypeId} {vs : List Value} {lp : Nat} {L : Loop} {S1 : Ents} {R : Value → Ents → Prop} (hw : wantL ops l t g = some true) (hd : Nat.blt d n = true) (hf : evL l t (.tmp x) = some (.func (.yield lp) #[] #[])) (hx : evLs l t args.toList = some vs)
    (hl : loopE lp L ∈ S) (hn : vs.length = L.params.size) (hs : List.Sublist S1 S) (hr : RoundW Tryz.prog E lp L.fn (rndT L vs) L.assign L.body S1 R)
    (h : ∀ v S', R v S' → KZ sq S S' ∧ OpF Tryz.prog E fn n ops sq rest K (den ((d, v) :: l) t) ds S' S') : OpX Tryz.prog E fn n ops sq i z rest ⟨some d, .call { callee := .value (.tmp x), args := args, argTypes := ats }, ty, pos, af, g⟩ K (den l t) ds Zi Z S := by
  refine o_A rfl (R := R) ⟨hd, .inr ⟨wantL_ok (o := ⟨some d, .call { callee := .value (.tmp x), args := args, argTypes := ats }, ty, pos, af, g⟩) hw, rfl, rfl, .inr (.inr ?_)⟩⟩ fun v S' hR => ?_
  · unfold execOp
    simp only [resolve, evL_eq hf, Deferred.ofValue]
    refine semH_bind (semH_pure ?_)
    have e : (#[] ++ Array.map (ev (den l t)) args : Array Value) = vs.toArray := by
      have := evLs_eq hx
      rw [← this]; apply Array.ext'; simp
    simp only [invoke]
    rw [e]
    unfold Instr.yield Instr.getLoop
    refine semH_bind (semH_bind (semH_getObj hl rfl (semH_pure ?_)))
    rw [if_neg (by simp [hn])]
    exact semH_pure ⟨lp, L.fn, rndT L vs, L.assign, L.body, rfl, hr.sub hs⟩
  · obtain ⟨h1, h2⟩ := h v S' hR
    exact ⟨S', fun hq hz => ⟨fun _ => hz.trans (h1.h hq), List.Sublist.refl _⟩, h2⟩
end
theorem rndT1 {L : Loop} {q : Nat} {v : Value} (hq : L.params = #[q]) : rndT L [v] = L.tmps.setIfInBounds q v := by
  unfold rndT
  rw [hq]
  simp
theorem round1 {P : Program} {E : Env} {n lp q : Nat} {L : Loop} {v : Value} {S : Ents} {R : Value → Ents → Prop} {l : TL} {t0 : Tm} (hq : L.params = #[q]) (hlt : q < n) (ha : Agree n L.tmps (den l t0))
    (h : WP P (inRd E) L.fn n L.assign (midQ P (inRd E) L.fn n lp L.body R) (den ((q, v) :: l) t0) [] S) : RoundW P E lp L.fn (rndT L [v]) L.assign L.body S R := by
  rw [rndT1 hq]
  exact roundW_of (t := den ((q, v) :: l) t0) (ha.set hlt v) h
theorem mid_of {P : Program} {E : Env} {fn n lp : Nat} {body : Code} {R : Value → Ents → Prop} {t : Tm} {S : Ents} {L : Loop} {re : Obj → Ents} [hu : OwnS lp S (.loop L) re] (hst : L.state = .ready)
    (h : WP P E fn n body (finQ lp R) t [] (re (.loop { L with state := .busy }))) : midQ P E fn n lp body R .normal t [] S := ⟨rfl, L, _, hst, hu.h _, h⟩
theorem fin_ofB {lp id : Nat} {R : Value → Ents → Prop} {t : Tm} {S : Ents} {L : Loop} {re : Obj → Ents} [hu : OwnS lp S (.loop L) re] (h : R (.bool true) (re (.loop { L with state := .ready, pending := none }))) : blockQ id (finQ lp R) .normal t [] S := ⟨rfl, L, _, hu.h _, h⟩
theorem call_inM {P : Program} {E : Env} {S : Ents} {f : FuncId} {fr : Func} {c : Code} {args : List Value} {R : Value → Ents → Prop} (hf : P.funcs[f]? = some fr) (hname : (fr.name == "runtime.NumGoroutine") = false) (hb : fr.body = some c) (hargs : Nat.ble args.length fr.ntmps = true)
    (h : WP P { E with rd := false } f fr.ntmps c (retM P E.m fr.results R) (den (dens args 0) fun _ => undef) (dsOf []) (mks [] ++ S)) : CallW P E f args.toArray S R := by
  refine CallW.rd (r := false) (callM_of hf hname hb (by simpa using Nat.le_of_ble_eq_true hargs) ?_)
  have e : enterT args.toArray = den (dens args 0) fun _ => undef := by
    funext j
    rw [den_dens]
    simp [enterT, Array.getD, List.getD]
    split <;> simp_all
  rw [e]
  exact h
theorem w_retM {E : Env} {fn n : Nat} {l : TL} {t : Tm} {S : Ents} {Q : Post} {rs : Array ResultVar} {vs : List Value} {m : Mode} {R : Value → Ents → Prop} (ms : List Nat) (S0 : Ents) (hs : List.Sublist (mks ms ++ S0) S) (hq : Q .ret = retM Tryz.prog m rs R .ret) (hv : Res S0 l t rs.toList vs) (h : R (pack vs) S0) : WP Tryz.prog E fn n .ret Q (den l t) (dsOf ms) S :=
  WP.sub (wp_ret (by rw [hq]; exact ⟨ms, S0, rfl, List.Perm.refl _, res_sem hv h⟩)) hs
end Go.Proofs.YtpnnmklacialgaaGreat
namespace Go.Proofs.YtpnnmklacialgaaGreat
open Go.Conc
section
variable {α : Type} [En : Enc α] {c : Array Value} {off : Nat} {xs : List α}
theorem IsRow.setIn (h : IsRow c off xs) {j k : Nat} (hj : j < xs.length) {u : α} {vs : List Value} (hu : setO k vs (En.enc xs[j]).toList = some (En.enc u).toList) : IsRow (setCells c (off + j * En.sz + k) vs) off (xs.set j u) := by
  obtain ⟨h1, h2⟩ := setO_ok hu
  simp only [Array.length_toList, En.size] at h2
  have hle := h.ext hj
  intro i hi q hq
  simp only [List.length_set] at hi
  rw [setCells_get]
  by_cases hij : i = j
  · subst hij
    simp only [List.getElem_set_self]
    have e : (En.enc u)[q]? = ((En.enc xs[i]).toList.take k ++ vs ++ (En.enc xs[i]).toList.drop (k + vs.length))[q]? := by rw [← h1]; simp
    rw [e]
    have htk : ((En.enc xs[i]).toList.take k).length = k := by simp [En.size]; omega
    by_cases hin : off + i * En.sz + k ≤ off + i * En.sz + q ∧ off + i * En.sz + q < off + i * En.sz + k + vs.length ∧ off + i * En.sz + q < c.size
    · rw [if_pos hin, List.append_assoc, List.getElem?_append_right (by omega), htk, List.getElem?_append_left (by omega)]
      congr 1; omega
    · rw [if_neg hin, h i hj q hq]
      by_cases hqk : q < k
      · rw [List.append_assoc, List.getElem?_append_left (by omega), List.getElem?_take_of_lt hqk]; simp
      · rw [List.getElem?_append_right (by simp only [List.length_append, htk]; omega), List.getElem?_drop]
        simp only [List.length_append, htk]
        rw [show k + vs.length + (q - (k + vs.length)) = q by omega]; simp
  · rw [List.getElem_set_ne (Ne.symm hij), ← h i hi q hq]
    have hd : i * En.sz + En.sz ≤ j * En.sz ∨ j * En.sz + En.sz ≤ i * En.sz := by
      rcases Nat.lt_or_gt_of_ne hij with h3 | h3
      · left; have := Nat.mul_le_mul_right En.sz (show i + 1 ≤ j by omega); rw [Nat.add_mul, Nat.one_mul] at this; exact this
      · right; have := Nat.mul_le_mul_right En.sz (show j + 1 ≤ i by omega); rw [Nat.add_mul, Nat.one_mul] at this; exact this
    rw [if_neg (by omega)]
theorem IsRow.setOut (h : IsRow c off xs) {o : Nat} {vs : List Value} (hd : o + vs.length ≤ off ∨ off + xs.length * En.sz ≤ o) : IsRow (setCells c o vs) off xs := by
  intro i hi q hq
  rw [setCells_get, if_neg, h i hi q hq]
  have := Nat.mul_le_mul_right En.sz (show i + 1 ≤ xs.length by omega)
  rw [Nat.add_mul, Nat.one_mul] at this
  omega
end
class RowC (c : Array Value) (off : Nat) (α : outParam Type) (En : outParam (Enc α)) (xs : outParam (List α)) : Prop where h : @IsRow α En c off xs
class CellI (c : Array Value) (off : Nat) (v : outParam Value) : Prop where h : c[off]? = some v
instance (priority := low) rowI_in {S : Ents} {b off : Nat} {mn : Bool} {c : Array Value} {ty : TypeId} {fz : Nat × Nat} {α : Type} {En : Enc α} {xs : List α} [i : InS b S mn (.cells c ty fz)] [r : RowC c off α En xs] : RowI S b off α En xs := ⟨fun _ => ⟨mn, c, ty, fz, i.h, r.h⟩⟩
section
variable {E : Env} {fn n : Nat} {Q : Post} {K : Tm → List Deferred → Ents → Prop} {l : TL} {t : Tm} {ds : List Deferred} {S Z Zi : Ents} {ops : Array Oper} {i : Nat} {z : Bool} {rest : List (Nat × Bool)} {sq : Bool}
variable {d : Nat} {ty : TypeId} {pos : String} {af : Array Edge} {g : Option (Nat × Bool)}
theorem o_loadK {ty' s off b : Nat} {x : Operand} {mn : Bool} {c : Array Value} {tb : TypeId} {fz : Nat × Nat} {v : Value} (hw : wantL ops l t g = some true) (hd : Nat.blt d n = true) [hk : Tyk ty' (false, s)]
    (hx : evL l t x = some (.pointer (some ⟨b, off, none⟩))) [he : InS b Zi mn (.cells c tb fz)] [hv : CellI c off v]
    (h : OpF Tryz.prog E fn n ops sq rest K (den ((d, v) :: l) t) ds Z S) : OpX Tryz.prog E fn n ops sq i z rest ⟨some d, .load ty' x, ty, pos, af, g⟩ K (den l t) ds Zi Z S :=
  o_V rfl (vop_of hw hd rfl rfl fun S hS => op_load1 hk.h (evL_eq hx) (hS.subset he.h) hv.h ⟨rfl, rfl⟩) h
theorem o_indexAZ (j : Nat) {ty' e sz b off len : Nat} {a : Bool} {x y : Operand} {k : IntKind} {q : Int} (hw : wantL ops l t g = some true) (hd : Nat.blt d n = true) (hs : lk1 arT ty' = some (len, e)) [hk : Tyk e (a, sz)]
    (hx : evL l t x = some (.pointer (some ⟨b, off, none⟩))) (hy : evL l t y = some (.int k q)) (hq : q = (j : Int)) (hj : j < len)
    (h : OpF Tryz.prog E fn n ops sq rest K (den ((d, .pointer (some ⟨b, ix off j sz 0, none⟩)) :: l) t) ds Z S) : OpX Tryz.prog E fn n ops sq i z rest ⟨some d, .indexAddr ty' x y, ty, pos, af, g⟩ K (den l t) ds Zi Z S :=
  o_indexA hw hd hs hx (by rw [hy, hq]) hj h
theorem o_storeC {ty' s off b j sz k : Nat} {a : Bool} {x y : Operand} {c : Array Value} {tb : TypeId} {v : Value} {re : Obj → Ents} (hw : wantL ops l t g = some true) [hk : Tyk ty' (a, s)] (hx : evL l t x = some (.pointer (some ⟨b, ix off j sz k, none⟩))) (hy : evL l t y = some v)
    [hu : OwnS b S (.cells c tb (0, 0)) re] (hsz : Nat.beq v.cells.toList.length s = true) (hone : (v.cells.toList.all (·.oneCell')) = true) (hl : off + j * sz + k + s ≤ c.size)
    (h : ∀ c', c' = setCells c (off + j * sz + k) v.cells.toList → ∃ Z', KA z sq Z (re (.cells c' tb (0, 0))) Z' ∧ OpF Tryz.prog E fn n ops sq rest K (den l t) ds Z' (re (.cells c' tb (0, 0)))) : OpX Tryz.prog E fn n ops sq i z rest ⟨none, .store ty' x y, ty, pos, af, g⟩ K (den l t) ds Zi Z S := by
  have hs := Nat.eq_of_beq_eq_true hsz
  simp only [Array.length_toList] at hs
  rw [ix_eq] at hx
  refine o_A rfl (R := fun _ S' => S' = re (.cells (setCells c (off + j * sz + k) v.cells.toList) tb (0, 0))) (exec_of hw rfl rfl rfl (op_store (c := c) hk.h (evL_eq hx) (by rw [evL_eq hy]) hs hone (by simp only; omega) (hu.h _) rfl)) ?_
  rintro _ _ rfl
  obtain ⟨Z', h1, h2⟩ := h _ rfl
  exact ⟨Z', fun hq _ => h1.h hq, h2⟩
theorem o_storeD {ty' s off b : Nat} {a : Bool} {x y : Operand} {c : Array Value} {tb : TypeId} {v : Value} {re : Obj → Ents} (hw : wantL ops l t g = some true) [hk : Tyk ty' (a, s)] (hx : evL l t x = some (.pointer (some ⟨b, off, none⟩))) (hy : evL l t y = some v)
    [hu : OwnS b S (.cells c tb (0, 0)) re] (hsz : Nat.beq v.cells.toList.length s = true) (hone : (v.cells.toList.all (·.oneCell')) = true) (hl : off + s ≤ c.size)
    (h : ∀ c', c' = setCells c off v.cells.toList → ∃ Z', KA z sq Z (re (.cells c' tb (0, 0))) Z' ∧ OpF Tryz.prog E fn n ops sq rest K (den l t) ds Z' (re (.cells c' tb (0, 0)))) : OpX Tryz.prog E fn n ops sq i z rest ⟨none, .store ty' x y, ty, pos, af, g⟩ K (den l t) ds Zi Z S := by
  have hs := Nat.eq_of_beq_eq_true hsz
  simp only [Array.length_toList] at hs
  refine o_A rfl (R := fun _ S' => S' = re (.cells (setCells c off v.cells.toList) tb (0, 0))) (exec_of hw rfl rfl rfl (op_store (c := c) hk.h (evL_eq hx) (by rw [evL_eq hy]) hs hone (by simp only; omega) (hu.h _) rfl)) ?_
  rintro _ _ rfl
  obtain ⟨Z', h1, h2⟩ := h _ rfl
  exact ⟨Z', fun hq _ => h1.h hq, h2⟩
theorem o_storeO {α : Type} [En : Enc α] (u : α) {ty' s j sz k len cap : Nat} {a : Option Addr} {ag : Bool} {x y : Operand} {xs : List α} {Δ rs : Ents} {w : Value} (hw : wantL ops l t g = some true) [hk : Tyk ty' (ag, s)] (hx : evL l t x = some (.pointer (some ⟨blkA a, ix (offA a) j sz k, none⟩))) (hy : evL l t y = some w)
    (hv : Own (.slice a len cap) xs Δ) [fr : FrS Δ S rs] (hj : j < xs.length) (hsz : En.sz = sz) (hws : Nat.beq w.cells.toList.length s = true) (hone : (w.cells.toList.all (·.oneCell')) = true) (hu : setO k w.cells.toList (En.enc xs[j]).toList = some (En.enc u).toList)
    (h : ∀ Δ', Own (.slice a len cap) (xs.set j u) Δ' → ∃ Z', KA z sq Z (Δ' ++ rs) Z' ∧ OpF Tryz.prog E fn n ops sq rest K (den l t) ds Z' (Δ' ++ rs)) : OpX Tryz.prog E fn n ops sq i z rest ⟨none, .store ty' x y, ty, pos, af, g⟩ K (den l t) ds Zi Z S := by
  subst hsz
  have hs := Nat.eq_of_beq_eq_true hws
  cases hv with
  | nil => exact absurd hj (by simp)
  | @some b cap c tb xs h1 h2 h3 =>
    have hle := h1.ext hj
    obtain ⟨_, h5⟩ := setO_ok hu
    simp only [Array.length_toList, En.size] at h5 hs
    simp only [blkA, offA, ix_eq] at hx
    refine o_A rfl (R := fun _ S' => S' = ⟨b, true, .cells (setCells c (0 + j * En.sz + k) w.cells.toList) tb (0, 0)⟩ :: rs) (exec_of hw rfl rfl rfl ?_) ?_
    · refine semH_perm ?_ fr.h
      exact op_store (R := fun _ S' => S' = ⟨b, true, .cells (setCells c (0 + j * En.sz + k) w.cells.toList) tb (0, 0)⟩ :: rs) (S := [⟨b, true, .cells c tb (0, 0)⟩] ++ rs) (c := c) hk.h (evL_eq hx) (by rw [evL_eq hy]) (by simpa using hs) hone (by simp only; omega) .here rfl
    · rintro _ _ rfl
      have hsetlen : (xs.set j u).length = xs.length := List.length_set
      have ho : Own (.slice (some ⟨b, 0, none⟩) xs.length cap) (xs.set j u) [⟨b, true, .cells (setCells c (0 + j * En.sz + k) w.cells.toList) tb (0, 0)⟩] := by
        have := Own.some (b := b) (cap := cap) (ty := tb) (h1.setIn hj hu) (by rw [setCells_size 0]; exact h2) (by rw [hsetlen]; exact h3)
        rw [hsetlen] at this
        exact this
      obtain ⟨Z', k1, k2⟩ := h _ ho
      exact ⟨Z', fun hq _ => k1.h hq, k2⟩
theorem o_sliceA (hi' : Nat) {st e sz len b off : Nat} {ag : Bool} {x : Operand} {hi : Option Operand} {vh : Option Value} (hw : wantL ops l t g = some true) (hd : Nat.blt d n = true) (hs : lk1 arT st = some (len, e)) [hk : Tyk e (ag, sz)]
    (hx : evL l t x = some (.pointer (some ⟨b, off, none⟩))) (hh : evO l t hi = some vh) (hhi : vh = some (.int .i64 (hi' : Int))) (h2 : hi' ≤ len)
    (h : OpF Tryz.prog E fn n ops sq rest K (den ((d, .slice (some ⟨b, off, none⟩) hi' len) :: l) t) ds Z S) : OpX Tryz.prog E fn n ops sq i z rest ⟨some d, .slice st x none hi none, ty, pos, af, g⟩ K (den l t) ds Zi Z S := by
  refine o_V rfl (vop_of hw hd rfl rfl fun S hS => ?_) h
  refine semH_bind (?_ : SemH Tryz.prog E.m (Instr.sliceAt st (ev (den l t) x) none (hi.map (ev (den l t))) none) S _)
  rw [evL_eq hx, evO_eq hh, hhi]
  unfold Instr.sliceAt
  refine semH_bind (semH_underlying (arT_ok hs) ?_)
  refine semH_bind (semH_pure ?_)
  unfold Instr.sliceBounds
  refine semH_bind (semH_bind (semH_pure (semH_bind (semH_bound (x := none) rfl h2 (semH_bind (semH_pure (semH_pure ?_)))))))
  refine semH_bind (semH_sizeOf hk.h (semH_pure (semH_pure ⟨_, .inl rfl, ?_, rfl⟩)))
  simp only [Nat.zero_mul, Nat.sub_zero]
  split <;> simp [add_mk]
theorem isRow_zero {α : Type} [En : Enc α] {zs : Array Value} {u : α} (hz : zs = En.enc u) (k : Nat) : IsRow ((Array.range (k * En.sz)).map (zs[· % zs.size]!)) 0 (List.replicate k u) := by
  subst hz
  intro i hi q hq
  simp only [List.length_replicate] at hi
  have h1 : 0 + i * En.sz + q < k * En.sz := by
    have := Nat.mul_le_mul_right En.sz (show i + 1 ≤ k by omega)
    rw [Nat.add_mul, Nat.one_mul] at this
    omega
  simp only [List.getElem_replicate, Array.getElem?_map, En.size]
  rw [Array.getElem?_range, if_pos h1]
  simp only [Option.map_some]
  have h2 : (0 + i * En.sz + q) % En.sz = q := by rw [Nat.zero_add, Nat.add_comm, Nat.add_mul_mod_self_right, Nat.mod_eq_of_lt hq]
  rw [h2]
  have h3 : q < (En.enc u).size := by rw [En.size]; exact hq
  rw [Array.getElem?_eq_getElem h3, getElem!_pos (En.enc u) q h3]
theorem semH_askRoom {P : Program} {m : Mode} {S : Ents} {k : Nat} {R : Unit → Ents → Prop} (h : R () S) : SemH P m (askRoom k) S R := by
  unfold askRoom
  exact semH_ite (fun _ => semH_mark (.inl rfl) h) fun _ => semH_pure h
theorem semH_make {P : Program} {m : Mode} {S : Ents} {α : Type} [En : Enc α] (u : α) {st e sz by' k : Nat} {zs : Array Value} {R : Value → Ents → Prop} (hs : P.underlying st = some (.slice e)) (he : eb P e = some (sz, by') ∧ 0 < by' ∧ by' ≤ 1000) (hz : zeroOf P e = some zs) (hzu : zs = En.enc u) (hsz : En.sz = sz) (hk : k ≤ 1000000)
    (h : ∀ b c, IsRow c 0 (List.replicate k u) → c.size = k * En.sz → R (.slice (some ⟨b, 0, none⟩) k k) (⟨b, true, .cells c e (0, 0)⟩ :: S)) : SemH P m (Instr.makeSlice st (.int .i64 (k : Int)) (.int .i64 (k : Int))) S R := by
  obtain ⟨he, hb1, hb2⟩ := he
  subst hsz
  have hpos := En.pos
  unfold Instr.makeSlice
  refine semH_bind (semH_underlying hs ?_)
  simp only
  refine semH_bind (semH_pure ?_)
  refine semH_bind (semH_pure ?_)
  refine semH_bytes he fun i hi => ?_
  have hw : IntKind.i64.wrap (k : Int) = (k : Int) := wrap_in (by omega) (by omega)
  simp only [hw, hi]
  have h1 : by' * k ≤ 1000000000 := Nat.le_trans (Nat.mul_le_mul hb2 hk) (by decide)
  have h2 : (by' : Int) * (k : Int) ≤ 1000000000 := by
    have := Int.ofNat_le.2 h1
    rw [Int.natCast_mul] at this
    omega
  have e48 : (2 : Int) ^ 48 = 281474976710656 := by decide
  have hnb : ¬ (((decide ((k : Int) < 0) || decide ((by' : Int) * (k : Int) > 281474976710656)) = true ∨ (k : Int) < 0 ∨ (k : Int) > (k : Int))) := by
    simp only [Bool.or_eq_true, decide_eq_true_eq]
    omega
  rw [e48]
  rw [if_neg (by simp only [Bool.or_eq_true, decide_eq_true_eq] at hnb ⊢; omega)]
  refine semH_bind (semH_askRoom ?_)
  refine semH_bind (semH_sizeOf' he ?_)
  simp only [Int.toNat_natCast]
  by_cases h0 : k * En.sz = 0
  · have hk0 : k = 0 := by
      rcases Nat.mul_eq_zero.1 h0 with h | h
      · exact h
      · omega
    subst hk0
    rw [if_pos h0]
    refine semH_bind (semH_pure ?_)
    unfold newRow
    refine semH_bind (semH_bind (semH_new fun b => semH_pure (semH_pure ?_)))
    exact h b _ (by simpa using IsRow.nil) (by simp)
  · rw [if_neg h0]
    refine semH_bind (semH_zero hz fun v hv => semH_bind (semH_pure ?_))
    subst hv
    unfold newRow
    refine semH_bind (semH_bind (semH_new fun b => semH_pure (semH_pure ?_)))
    exact h b _ (isRow_zero hzu k) (by simp)
theorem o_make {α : Type} [En : Enc α] (u : α) {st e sz by' : Nat} (k : Nat) {x y : Operand} {zs : Array Value} (hw : wantL ops l t g = some true) (hd : Nat.blt d n = true) (hs : lk1 slT st = some e) [he : Eb e sz by'] [hz : Zo e zs] (hx : evL l t x = some (.int .i64 (k : Int))) (hy : evL l t y = some (.int .i64 (k : Int)))
    (hzu : zs = En.enc u) (hsz : En.sz = sz) (hk : k ≤ 1000000) (h : ∀ v Δ, Own v (List.replicate k u) Δ → OpF Tryz.prog E fn n ops sq rest K (den ((d, v) :: l) t) ds Z (Δ ++ S)) : OpX Tryz.prog E fn n ops sq i z rest ⟨some d, .makeSlice st x y, ty, pos, af, g⟩ K (den l t) ds Zi Z S := by
  refine o_A rfl (R := fun v S' => ∃ Δ, Own v (List.replicate k u) Δ ∧ S' = Δ ++ S) (exec_of hw hd rfl rfl ?_) ?_
  · refine semH_bind (?_ : SemH Tryz.prog E.m (Instr.makeSlice st (ev (den l t) x) (ev (den l t) y)) S _)
    rw [evL_eq hx, evL_eq hy]
    refine semH_make u (slT_ok hs) he.h hz.h hzu hsz hk fun b c h1 h2 => semH_pure ⟨_, .inl rfl, [⟨b, true, .cells c e (0, 0)⟩], ?_, rfl⟩
    have := Own.some (b := b) (cap := k) (ty := e) h1 h2 (by simp)
    simpa using this
  · rintro v _ ⟨Δ, ho, rfl⟩
    exact ⟨Z, fun _ hz => ⟨fun _ => List.Sublist.refl _, hz.trans (List.sublist_append_right _ _)⟩, h v Δ ho⟩
def intsT (P : Program) (t k : Nat) : Bool := match P.underlying t with
  | some (.struct fs) => decide (fs.toList.map (fun f => (f.type, f.offset, f.name == "_")) = (List.range k).map fun i => (3, i, false)) && !P.stoodInHeld t && !P.eqGuardType P.depth t && (match P.underlying 3 with | some (.int _) => true | _ => false)
  | _ => false
class IntsT (t k : Nat) : Prop where h : intsT Tryz.prog t k = true
end
end Go.Proofs.YtpnnmklacialgaaGreat
namespace Go.Proofs.YtpnnmklacialgaaGreat
open Go.Conc
def aggI (xs : List Int) : Value := .agg (xs.map fun x => Value.int .i64 x).toArray
theorem semH_forEq {P : Program} {m : Mode} {S : Ents} {xs ys : List Int} {B : Field → Option Bool × Unit → Sem (ForInStep (Option Bool × Unit))}
    (hB : ∀ f i, f.type = 3 → f.offset = i → (f.name == "_") = false → (h : i < xs.length) → (h2 : i < ys.length) → SemH P m (B f (none, ())) S fun r S' => S' = S ∧ r = if xs[i] = ys[i] then .yield (none, ()) else .done (some false, ())) :
    ∀ (l : List Field) (i q : Nat), l.map (fun f => (f.type, f.offset, f.name == "_")) = (List.range' i q).map (fun i => (3, i, false)) → i + q = xs.length → i + q = ys.length →
      SemH P m (forIn l (none, ()) B) S fun r S' => S' = S ∧ r = (if xs.drop i = ys.drop i then none else some false, ())
  | [], i, q, hl, hx, hy => by
    have : q = 0 := by
      cases q with
      | zero => rfl
      | succ q => simp [List.range'_succ] at hl
    subst this
    simp only [List.forIn_nil]
    refine semH_pure ⟨rfl, ?_⟩
    rw [List.drop_of_length_le (by omega), List.drop_of_length_le (by omega), if_pos rfl]
  | f :: l, i, q, hl, hx, hy => by
    cases q with
    | zero => simp at hl
    | succ q =>
      simp only [List.range'_succ, List.map_cons, List.cons.injEq, Prod.mk.injEq] at hl
      obtain ⟨⟨h1, h2, h3⟩, hl⟩ := hl
      simp only [List.forIn_cons]
      refine semH_bind (semH_mono (hB f i h1 h2 h3 (by omega) (by omega)) ?_)
      rintro r S' ⟨rfl, rfl⟩
      have e : (xs.drop i = ys.drop i) ↔ (xs[i]'(by omega) = ys[i]'(by omega) ∧ xs.drop (i + 1) = ys.drop (i + 1)) := by
        rw [List.drop_eq_getElem_cons (by omega : i < xs.length), List.drop_eq_getElem_cons (by omega : i < ys.length), List.cons.injEq]
      by_cases he : xs[i]'(by omega) = ys[i]'(by omega)
      · simp only [he, if_true]
        refine semH_mono (semH_forEq hB l (i + 1) q hl (by omega) (by omega)) ?_
        rintro r S' ⟨rfl, rfl⟩
        refine ⟨rfl, ?_⟩
        simp only [e, he, true_and]
      · simp only [he, if_false]
        exact semH_pure ⟨rfl, by simp [e, he]⟩
theorem semH_equal {P : Program} {m : Mode} {S : Ents} {t k : Nat} {xs ys : List Int} {R : Bool → Ents → Prop} (ht : intsT P t k = true) (hx : xs.length = k) (hy : ys.length = k) (hk3 : tyk P 3 = some (false, 1)) (h : R (decide (xs = ys)) S) : SemH P m (Op.equal t (aggI xs) (aggI ys)) S R := by
  unfold intsT at ht
  cases hu : P.underlying t with
  | none => simp [hu] at ht
  | some D =>
    cases D <;> simp only [hu] at ht <;> try (cases ht; done)
    rename_i fs
    simp only [Bool.and_eq_true, decide_eq_true_eq, Bool.not_eq_true'] at ht
    obtain ⟨⟨⟨hf, hst⟩, hg⟩, h3⟩ := ht
    unfold Op.equal Op.maxDepth Op.equalIn
    refine semH_bind (semH_underlying hu ?_)
    simp only [aggI]
    refine semH_bind (semH_program ?_)
    rw [hst]
    simp only [Bool.false_eq_true, if_false]
    have hi3 : ∃ kk, P.underlying 3 = some (.int kk) := by
      cases h4 : P.underlying 3 with
      | none => simp [h4] at h3
      | some D => cases D <;> simp [h4] at h3 <;> exact ⟨_, rfl⟩
    obtain ⟨kk, hi3⟩ := hi3
    have hpart : ∀ (zs : List Int) (i : Nat) (hz : i < zs.length) {R : Value → Ents → Prop}, R (.int .i64 zs[i]) S → SemH P m (part 3 (zs.map fun x => Value.int .i64 x).toArray i) S R := by
      intro zs i hz R hR
      unfold part
      refine semH_bind (semH_isAgg hk3 ?_)
      simp only [Bool.false_eq_true, if_false]
      have : ((zs.map fun x => Value.int .i64 x).toArray)[i]? = some (.int .i64 zs[i]) := by simp [hz]
      rw [this]
      exact semH_pure hR
    rw [← Array.forIn_toList]
    refine semH_bind (semH_mono (semH_forEq (xs := xs) (ys := ys) ?_ fs.toList 0 k (by rw [hf, List.range_eq_range']) (by omega) (by omega)) ?_)
    · intro f i h1 h2 h3 hx hy
      have hne : f.name ≠ "_" := by simpa using h3
      rw [if_pos hne, h1, h2]
      refine semH_bind (hpart xs i hx (semH_bind (hpart ys i hy (semH_bind ?_))))
      unfold Op.equalIn
      refine semH_bind (semH_underlying hi3 ?_)
      simp only [if_true]
      refine semH_pure ?_
      by_cases he : xs[i] = ys[i]
      · simp only [he, beq_self_eq_true, Bool.not_true, Bool.false_eq_true, if_false, if_true]
        exact semH_pure ⟨rfl, rfl⟩
      · have : (xs[i] == ys[i]) = false := by simpa using he
        simp only [this, he, Bool.not_false, if_true, if_false]
        exact semH_pure ⟨rfl, rfl⟩
    · rintro r S' ⟨rfl, rfl⟩
      simp only [List.drop_zero]
      by_cases he : xs = ys
      · simp only [he, if_true]
        exact semH_pure (by simpa [he] using h)
      · simp only [he, if_false]
        exact semH_pure (by simpa [he] using h)
def intsOf : List Value → Option (List Int)
  | [] => some []
  | .int .i64 a :: l => match intsOf l with
    | some r => some (a :: r)
    | none => none
  | _ => none
theorem intsOf_ok : ∀ {cs : List Value} {xs : List Int}, intsOf cs = some xs → cs = xs.map fun x => Value.int .i64 x
  | [], xs, h => by cases h; rfl
  | c :: cs, xs, h => by
    unfold intsOf at h
    split at h
    · cases h; rename_i e; cases e
    · rename_i e
      cases e
      split at h
      · rename_i hr
        cases h
        rw [intsOf_ok hr]; rfl
      · cases h
    · cases h
section
variable {P : Program} {m : Mode} {S : Ents} {α : Type} [En : Enc α]
def InP (v v' : Value) (n : Nat) : Prop := ∀ a len cap, v = .slice a len cap → n ≤ cap → v' = .slice a n cap
theorem op_appendS {ρ : Operand → Value} {d : Option Tmp} {ty sT xT e e2 sz by' : Nat} {pos : String} {af : Array Edge} {g : Option (Nat × Bool)} {x y : Operand} {xs ys : List α} {Δ rest : Ents} {v w : Value} {R : Value → Ents → Prop}
    (hs : P.underlying sT = some (.slice e)) (hs2 : P.underlying xT = some (.slice e2)) (he : eb P e = some (sz, by') ∧ 0 < by' ∧ by' ≤ 1000) (hz : (zeroOf P e).map (·.size) = some sz) (hsz : En.sz = sz) (hx : ρ x = v) (hy : ρ y = w) (hv : Own v xs Δ) [fr : FrS Δ S rest] (hws : SlV (Δ ++ rest) w ys)
    (hlen : (xs.length + ys.length) * by' ≤ 140737488355328) (h : ∀ v' Δ', Own v' (xs ++ ys) Δ' → InP v v' (xs.length + ys.length) → R v' (Δ' ++ rest)) :
    OpH P m ⟨d, .call { callee := .builtin .append, args := #[x, y], argTypes := #[sT, xT] }, ty, pos, af, g⟩ ρ S R := by
  subst hsz
  refine semH_perm ?_ fr.h
  obtain ⟨he, hb1, hb2⟩ := he
  have hpos := En.pos
  have hwl : ∃ a cap, w = .slice a ys.length cap := let ⟨a, cap, h1, _⟩ := hws; ⟨a, cap, h1⟩
  obtain ⟨wa, wc, hwe⟩ := hwl
  have hlenOf : Builtin.lenOf w = pure ys.length := by rw [hwe]; rfl
  have hvl : ∃ a cap, v = .slice a xs.length cap ∧ xs.length ≤ cap := let ⟨a, cap, h1, h2, _⟩ := hv.slv; ⟨a, cap, h1, h2⟩
  obtain ⟨va, vc, hve, hvc⟩ := hvl
  unfold execOp
  simp only [resolve]
  refine semH_bind (semH_pure ?_)
  simp only [invoke, builtin]
  refine semH_bind ?_
  unfold Builtin.append_
  simp only [List.map_toArray, List.map_cons, List.map_nil, hx, hy, List.getElem?_toArray, List.getElem?_cons_zero, List.getElem?_cons_succ]
  refine semH_bind (semH_underlying hs ?_)
  simp only [hve]
  refine semH_bind (semH_sizeOf' he ?_)
  refine semH_bind (semH_underlying hs2 ?_)
  refine semH_bind (semH_pure ?_)
  simp only [Bool.false_eq_true, if_false, Bool.not_false, if_true, false_or]
  rw [hlenOf]
  refine semH_bind (semH_pure ?_)
  by_cases hroom : xs.length + ys.length ≤ vc
  · rw [if_pos hroom]
    refine semH_bind (semH_row rfl hws ?_)
    cases hv with
    | nil =>
      cases hve
      have hy0 : ys = [] := by simpa using hroom
      subst hy0
      refine semH_bind (semH_pure (semH_pure (semH_pure ⟨_, .inl rfl, ?_⟩)))
      exact h _ [] .nil (fun a len cap e _ => by cases e; rfl)
    | @some b cap c ty xs h1 h2 h3 =>
      cases hve
      have hsz : (xs.length + ys.length) * En.sz ≤ c.size := by rw [h2]; exact Nat.mul_le_mul_right _ hroom
      have e : (⟨b, 0, none⟩ : Addr).add (xs.length * En.sz) = ⟨b, xs.length * En.sz, none⟩ := by rw [add_mk, Nat.zero_add]
      have hsz' : xs.length * En.sz + 0 + (rowL ys).length ≤ c.size := by rw [rowL_length, Nat.add_zero, ← Nat.add_mul]; exact hsz
      simp only [e]
      have hu : Upd ([⟨b, true, .cells c ty (0, 0)⟩] ++ rest) b (.cells c ty (0, 0)) (.cells (setCells c (xs.length * En.sz + 0) (rowL ys)) ty (0, 0)) (⟨b, true, .cells (setCells c (xs.length * En.sz) (rowL ys)) ty (0, 0)⟩ :: rest) := .here
      refine semH_bind (semH_storeCells (rowL ys) 0 rowL_one hsz' hu (semH_pure (semH_pure ⟨_, .inl rfl, ?_⟩)))
      have hk := h _ _ (.some (b := b) (ty := ty) (cap := vc) (isRow_set h1 hsz) (by rw [setCells_size 0]; exact h2) (by rw [List.length_append]; exact hroom)) (fun a len cap e _ => by cases e; rw [List.length_append])
      rw [List.length_append] at hk
      exact hk
  · rw [if_neg hroom]
    have hbig : Builtin.nextslicecap (xs.length + ys.length) vc * by' ≤ 2 ^ 48 := cap_room (by omega) hb2 hlen
    have hfit := need_fits hb1 hlen
    refine semH_bytes he fun i hi => ?_
    rw [if_neg (by rw [hi]; rintro ⟨hh, _⟩; revert hh; simp only [IntKind.max]; intro hh; have : ((xs.length + ys.length : Nat) : Int) ≤ 140737488355328 := by omega
                   revert hh this; generalize ((xs.length + ys.length : Nat) : Int) = z; intro hh hz; simp [IntKind.signed, IntKind.bits] at hh; omega)]
    refine semH_bytes he fun i2 hi2 => ?_
    rw [if_neg (by rw [hi2]; omega)]
    refine semH_bind (semH_choose fun n => ?_)
    obtain ⟨newCap, hnc, hge⟩ : ∃ nc, (if (Question.appendCap (xs.length + ys.length) vc e).forced = true then 0 else (Question.appendCap (xs.length + ys.length) vc e).cut n) = nc ∧ xs.length + ys.length ≤ nc := ⟨_, rfl, by
      simp only [Question.forced, Bool.false_eq_true, if_false, Question.cut]; omega⟩
    rw [hnc]
    refine semH_bytes he fun i3 hi3 => ?_
    have hask : ∀ {R' : Unit → Ents → Prop} {S : Ents} {k : Nat}, R' () S → SemH P m (askRoom k) S R' := fun hR => by
      unfold askRoom
      refine semH_ite (fun _ => semH_mark (.inl rfl) hR) fun _ => semH_pure hR
    refine semH_bind (hask ?_)
    have hvs : SlV (Δ ++ rest) (.slice va xs.length vc) xs := by rw [← hve]; exact hv.slvS
    refine semH_bind (semH_row rfl hvs ?_)
    refine semH_bind (semH_row rfl hws ?_)
    unfold zeroOf at hz
    cases hzi : (P.info? e).bind (·.zero) with
    | none => simp [hzi] at hz
    | some z =>
      have hz' : zeroOf P e = some z.cells := by unfold zeroOf; rw [hzi]; rfl
      simp only [hzi, Option.map_some, Option.some.injEq] at hz
      refine semH_bind (semH_zero hz' fun z' hz2 => ?_)
      unfold newRow
      refine semH_bind (semH_bind (semH_new fun b => semH_pure (semH_pure ?_)))
      have hzs : z'.cells.size = En.sz := by rw [hz2]; exact hz
      generalize hcells : ((rowL xs).toArray ++ (rowL ys).toArray ++ Builtin.zeroCells z'.cells (newCap - (xs.length + ys.length))) = c
      have hcs : c.size = newCap * En.sz := by
        rw [← hcells]
        simp only [Array.size_append, List.size_toArray, rowL_length, Builtin.zeroCells, Array.size_map, Array.size_range, hzs]
        rw [← Nat.add_mul, ← Nat.add_mul]
        congr 1; omega
      have hrow : IsRow c 0 (xs ++ ys) := by
        refine isRow_of (l := []) (r := (Builtin.zeroCells z'.cells (newCap - (xs.length + ys.length))).toList) ?_
        rw [← hcells, rowL_append]
        simp
      have hk := h (.slice (some ⟨b, 0, none⟩) (xs ++ ys).length newCap) _ (.some (b := b) (ty := e) hrow hcs (by rw [List.length_append]; exact hge)) (fun a len cap e hc => by cases hve.symm.trans e; exact absurd hc hroom)
      rw [List.length_append] at hk
      refine semH_drop (S' := [⟨b, true, .cells c e (0, 0)⟩] ++ rest) (semH_pure ⟨_, .inl rfl, hk⟩) ?_
      exact List.Sublist.cons_cons _ (List.sublist_append_right _ _)
theorem semH_eqGuard {op : BinOp} {t k : Nat} {x y : Operand} {a b : Array Value} (ht : intsT P t k = true) {R : Unit → Ents → Prop} (h : R () S) : SemH P m (eqGuard op t x y (.agg a) (.agg b)) S R := by
  have hg : P.eqGuardType P.depth t = false := by
    unfold intsT at ht
    cases hu : P.underlying t with
    | none => simp [hu] at ht
    | some D =>
      cases D <;> simp only [hu] at ht <;> try (cases ht; done)
      simp only [Bool.and_eq_true, Bool.not_eq_true'] at ht
      exact ht.1.2
  have hgen : SemH P m (do if (!(← program).eqGuardType (← program).depth t) = true then (pure () : Sem Unit) else do if ← Op.eqGuardIn Op.maxDepth t (.agg a) (.agg b) then unsupported (.noEntry "binop/eql: two nil values of an interface type with methods, in a part of a struct or an array")) S R := by
    refine semH_bind (semH_program (semH_bind (semH_program ?_)))
    rw [hg]
    exact semH_pure h
  unfold eqGuard
  cases op <;> first | exact semH_pure h | exact hgen
end
section
variable {E : Env} {fn n : Nat} {Q : Post} {K : Tm → List Deferred → Ents → Prop} {l : TL} {t : Tm} {ds : List Deferred} {S Z Zi : Ents} {ops : Array Oper} {i : Nat} {z : Bool} {rest : List (Nat × Bool)} {sq : Bool}
variable {d : Nat} {ty : TypeId} {pos : String} {af : Array Edge} {g : Option (Nat × Bool)}
theorem o_appendS {α : Type} [En : Enc α] {sT xT e e2 sz by' : Nat} {x y : Operand} {xs ys : List α} {Δ rs : Ents} {v w : Value} (hw : wantL ops l t g = some true) (hd : Nat.blt d n = true) (hx : evL l t x = some v) (hy : evL l t y = some w) (hv : Own v xs Δ) (hwv : SlV (Δ ++ rs) w ys)
    (hlen : (xs.length + ys.length) * by' ≤ 140737488355328) [fr : FrS Δ S rs] (hs : lk1 slT sT = some e) (hs2 : lk1 slT xT = some e2) [he : Eb e sz by'] {cs : Array Value} [hz : Zo e cs] (hcs : cs.size = sz) (hsz : En.sz = sz)
    (h : ∀ v' Δ', Own v' (xs ++ ys) Δ' → InP v v' (xs.length + ys.length) → KZ sq Z (Δ' ++ rs) ∧ OpF Tryz.prog E fn n ops sq rest K (den ((d, v') :: l) t) ds Z (Δ' ++ rs)) :
    OpX Tryz.prog E fn n ops sq i z rest ⟨some d, .call { callee := .builtin .append, args := #[x, y], argTypes := #[sT, xT] }, ty, pos, af, g⟩ K (den l t) ds Zi Z S := by
  refine o_A rfl (R := fun u S' => ∃ Δ', Own u (xs ++ ys) Δ' ∧ InP v u (xs.length + ys.length) ∧ S' = Δ' ++ rs) (exec_of hw hd rfl rfl (op_appendS (slT_ok hs) (slT_ok hs2) he.h (by rw [hz.h]; simp [hcs]) hsz (evL_eq hx) (evL_eq hy) hv (fr := fr) hwv hlen fun v' Δ' ho hi => ⟨Δ', ho, hi, rfl⟩)) ?_
  rintro v' _ ⟨Δ', ho, hi, rfl⟩
  obtain ⟨h1, h2⟩ := h v' Δ' ho hi
  exact ⟨Z, fun hq _ => ⟨fun _ => List.Sublist.refl _, h1.h hq⟩, h2⟩
theorem w_fall {P : Program} {m : Mode} {rs : Array ResultVar} {R : Value → Ents → Prop} {t : Tm} {S : Ents} (h : SemH P m (resultsT rs t) S R) : retQ P m rs R .normal t [] S := ⟨rfl, h⟩
theorem w_retA {rs : Array ResultVar} {vs : List Value} {R : Value → Ents → Prop} (hq : Q .ret = retQ Tryz.prog E.m rs R .ret) (hv : Res S l t rs.toList vs) (h : R (pack vs) S) : WP Tryz.prog E fn n .ret Q (den l t) [] S := w_ret S hq hv h
theorem tyk3 : tyk Tryz.prog 3 = some (false, 1) := by kernel_rfl
theorem o_eqS {st t2 k : Nat} {x y : Operand} {a b : Array Value} {xs ys : List Int} (hw : wantL ops l t g = some true) (hd : Nat.blt d n = true) [hi : IntsT st k] (hx : evL l t x = some (.agg a)) (hy : evL l t y = some (.agg b)) (ha : intsOf a.toList = some xs) (hb : intsOf b.toList = some ys) (hxl : Nat.beq xs.length k = true) (hyl : Nat.beq ys.length k = true)
    (h : OpF Tryz.prog E fn n ops sq rest K (den ((d, .bool (decide (xs = ys))) :: l) t) ds Z S) : OpX Tryz.prog E fn n ops sq i z rest ⟨some d, .binOp .eql st x y t2, ty, pos, af, g⟩ K (den l t) ds Zi Z S := by
  refine o_V rfl (vop_of hw hd rfl rfl fun S hS => ?_) h
  refine semH_bind (?_ : SemH Tryz.prog E.m (do eqGuard .eql st x y (ev (den l t) x) (ev (den l t) y); binOp .eql st (ev (den l t) x) (ev (den l t) y)) S _)
  rw [evL_eq hx, evL_eq hy]
  refine semH_bind (semH_eqGuard hi.h ?_)
  have ea : Value.agg a = aggI xs := by unfold aggI; rw [← intsOf_ok ha]
  have eb : Value.agg b = aggI ys := by unfold aggI; rw [← intsOf_ok hb]
  rw [ea, eb]
  simp only [binOp]
  have hs : SemH Tryz.prog E.m (Op.equal st (aggI xs) (aggI ys)) S fun r S' => r = decide (xs = ys) ∧ S' = S := semH_equal hi.h (Nat.eq_of_beq_eq_true hxl) (Nat.eq_of_beq_eq_true hyl) tyk3 ⟨rfl, rfl⟩
  refine semH_bind (semH_mono hs ?_)
  rintro _ _ ⟨rfl, rfl⟩
  exact semH_pure (semH_pure ⟨_, .inl rfl, rfl, rfl⟩)
theorem o_neS {st t2 k : Nat} {x y : Operand} {a b : Array Value} {xs ys : List Int} (hw : wantL ops l t g = some true) (hd : Nat.blt d n = true) [hi : IntsT st k] (hx : evL l t x = some (.agg a)) (hy : evL l t y = some (.agg b)) (ha : intsOf a.toList = some xs) (hb : intsOf b.toList = some ys) (hxl : Nat.beq xs.length k = true) (hyl : Nat.beq ys.length k = true)
    (h : OpF Tryz.prog E fn n ops sq rest K (den ((d, .bool (decide (xs ≠ ys))) :: l) t) ds Z S) : OpX Tryz.prog E fn n ops sq i z rest ⟨some d, .binOp .neq st x y t2, ty, pos, af, g⟩ K (den l t) ds Zi Z S := by
  refine o_V rfl (vop_of hw hd rfl rfl fun S hS => ?_) h
  refine semH_bind (?_ : SemH Tryz.prog E.m (do eqGuard .neq st x y (ev (den l t) x) (ev (den l t) y); binOp .neq st (ev (den l t) x) (ev (den l t) y)) S _)
  rw [evL_eq hx, evL_eq hy]
  refine semH_bind (semH_eqGuard hi.h ?_)
  have ea : Value.agg a = aggI xs := by unfold aggI; rw [← intsOf_ok ha]
  have eb : Value.agg b = aggI ys := by unfold aggI; rw [← intsOf_ok hb]
  rw [ea, eb]
  simp only [binOp]
  have hs : SemH Tryz.prog E.m (Op.equal st (aggI xs) (aggI ys)) S fun r S' => r = decide (xs = ys) ∧ S' = S := semH_equal hi.h (Nat.eq_of_beq_eq_true hxl) (Nat.eq_of_beq_eq_true hyl) tyk3 ⟨rfl, rfl⟩
  refine semH_bind (semH_mono hs ?_)
  rintro _ _ ⟨rfl, rfl⟩
  refine semH_pure (semH_pure ⟨_, .inl rfl, ?_, rfl⟩)
  by_cases he : xs = ys <;> simp [he]
theorem Own.take {α : Type} [En : Enc α] {a : Option Addr} {len cap i : Nat} {xs : List α} {Δ : Ents} (h : Own (.slice a len cap) xs Δ) (hi : i ≤ xs.length) : Own (.slice a i cap) (xs.take i) Δ := by
  cases h with
  | nil =>
    have : i = 0 := by simpa using hi
    subst this
    exact .nil
  | @some b cap c ty xs h1 h2 h3 =>
    have e : (xs.take i).length = i := by rw [List.length_take]; omega
    have := Own.some (b := b) (ty := ty) (xs := xs.take i) (cap := cap) (c := c) (fun j hj q hq => by
      have hj' : j < xs.length := by omega
      rw [List.getElem_take]
      exact h1 j hj' q hq) h2 (by omega)
    rwa [e] at this
theorem o_clearO {α : Type} [En : Enc α] {st e sz len cap n2 c2 : Nat} {a a2 : Option Addr} {x : Operand} {xs : List α} {Δ rs : Ents} {zs : Array Value} (hw : wantL ops l t g = some true) (hs : lk1 slT st = some e) [hz : Zo e zs] (hzs : zs.size = sz) (hsz : En.sz = sz) (hone : (zs.toList.all (·.oneCell')) = true) (hx : evL l t x = some (.slice a2 n2 c2))
    (hv : Own (.slice a len cap) xs Δ) [fr : FrS Δ S rs] (hp : 0 < n2 → ∃ k, a2 = some ⟨blkA a, k * sz, none⟩ ∧ len ≤ k ∧ k + n2 ≤ cap)
    (h : ∀ Δ', Own (.slice a len cap) xs Δ' → ∃ Z', KA z sq Z (Δ' ++ rs) Z' ∧ OpF Tryz.prog E fn n ops sq rest K (den l t) ds Z' (Δ' ++ rs)) : OpX Tryz.prog E fn n ops sq i z rest ⟨none, .call { callee := .builtin .clear, args := #[x], argTypes := #[st] }, ty, pos, af, g⟩ K (den l t) ds Zi Z S := by
  subst hsz
  refine o_A rfl (R := fun _ S' => ∃ Δ', Own (.slice a len cap) xs Δ' ∧ S' = Δ' ++ rs) (exec_of hw rfl rfl rfl ?_) ?_
  · refine semH_perm ?_ fr.h
    unfold execOp
    simp only [resolve]
    refine semH_bind (semH_pure ?_)
    simp only [invoke, builtin]
    refine semH_bind ?_
    unfold Builtin.clear_
    simp only [List.map_toArray, List.map_cons, List.map_nil, evL_eq hx, List.getElem?_toArray, List.getElem?_cons_zero]
    refine semH_bind (semH_underlying (slT_ok hs) ?_)
    have fin : SemH Tryz.prog E.m (pure (Value.tuple #[]) : Sem Value) (Δ ++ rs) fun a_1 S' => SemH Tryz.prog E.m (pure (Next.value a_1) : Sem Next) S' fun nx S' => ∃ v, (nx = .value v ∨ (nx = .skip ∧ v = undef)) ∧ ∃ Δ', Own (.slice a len cap) xs Δ' ∧ S' = Δ' ++ rs := semH_pure (semH_pure ⟨_, .inl rfl, Δ, hv, rfl⟩)
    cases n2 with
    | zero => cases a2 <;> exact semH_bind (semH_pure fin)
    | succ n2 =>
      obtain ⟨k, rfl, hk1, hk2⟩ := hp (by omega)
      cases hv with
      | nil => omega
      | @some b cap c tb xs h1 h2 h3 =>
        simp only
        refine semH_bind (semH_zero hz.h fun v hv => ?_)
        have hvs : v.cells.size = En.sz := by rw [hv]; exact hzs
        have hlen : (Builtin.zeroCells v.cells (n2 + 1)).toList.length = (n2 + 1) * En.sz := by simp [Builtin.zeroCells, hvs]
        have hall : ((Builtin.zeroCells v.cells (n2 + 1)).toList.all (·.oneCell')) = true := by
          rw [List.all_eq_true] at hone ⊢
          intro q hq
          simp only [Builtin.zeroCells, Array.toList_map, List.mem_map, Array.mem_toList_iff, Array.mem_range] at hq
          obtain ⟨j, hj, rfl⟩ := hq
          have hpos := En.pos
          have hlt : j % v.cells.size < v.cells.size := Nat.mod_lt _ (by omega)
          rw [getElem!_pos v.cells _ hlt]
          refine hone _ ?_
          rw [← hv]
          exact Array.getElem_mem_toList hlt
        have hle : k * En.sz + (n2 + 1) * En.sz ≤ c.size := by rw [h2, ← Nat.add_mul]; exact Nat.mul_le_mul_right _ hk2
        have hu : Upd ([⟨b, true, .cells c tb (0, 0)⟩] ++ rs) b (.cells c tb (0, 0)) (.cells (setCells c (k * En.sz + 0) (Builtin.zeroCells v.cells (n2 + 1)).toList) tb (0, 0)) (⟨b, true, .cells (setCells c (k * En.sz) (Builtin.zeroCells v.cells (n2 + 1)).toList) tb (0, 0)⟩ :: rs) := .here
        refine semH_bind (semH_storeCells (Builtin.zeroCells v.cells (n2 + 1)).toList 0 hall (by rw [hlen]; omega) hu ?_)
        refine semH_pure (semH_pure ⟨_, .inl rfl, [⟨b, true, .cells (setCells c (k * En.sz) (Builtin.zeroCells v.cells (n2 + 1)).toList) tb (0, 0)⟩], ?_, rfl⟩)
        exact .some (h1.setOut (.inr (by have := Nat.mul_le_mul_right En.sz hk1; omega))) (by rw [setCells_size 0]; exact h2) h3
  · rintro v _ ⟨Δ', ho, rfl⟩
    obtain ⟨Z', k1, k2⟩ := h Δ' ho
    exact ⟨Z', fun hq _ => k1.h hq, k2⟩
end
theorem Own.sla {α : Type} [En : Enc α] {a : Option Addr} {len cap : Nat} {xs : List α} {Δ : Ents} (h : Own (.slice a len cap) xs Δ) : len = xs.length ∧ SlA Δ a xs := by
  obtain ⟨a', c', e, _, hr⟩ := h.slv
  simp only [Value.slice.injEq] at e
  obtain ⟨rfl, h1, _⟩ := e
  exact ⟨h1, hr⟩
end Go.Proofs.YtpnnmklacialgaaGreat
