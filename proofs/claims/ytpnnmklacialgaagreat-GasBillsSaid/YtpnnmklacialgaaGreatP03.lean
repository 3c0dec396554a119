/- Small checks.
   Looking through lists.
   Entries of a net.
   Whether a net is valid. -/
import Derived.Test.YtpnnmklacialgaaGreatP02
set_option linter.unusedVariables false
set_option linter.unusedSimpArgs false
namespace Go.Proofs.YtpnnmklacialgaaGreat
open Go.Conc
attribute [local irreducible] WP OpF OpX CallW SemH retQ
def within (n lo hi : Int) : Bool := decide (lo ≤ n ∧ n ≤ hi)
def rangeOk (r : RangeG) (hi : Int) : Bool := decide (0 ≤ r.lo ∧ r.lo ≤ r.hi ∧ r.hi ≤ hi)
def lastsOk (known til : Int) : Bool := decide (0 ≤ known ∧ known ≤ 100000 ∧ (til = 0 ∨ known < til ∧ til ≤ 100000))
def headOk (source main period known til : Int) : Bool := within source 1 99999 && within main 1 99 && within period 0 999 && lastsOk known til
def mainOk (x : MainG) : Bool := within x.id 1 99 && within x.up 0 (x.id - 1) && rangeOk x.leak 100000000
def useOk (x : UseG) : Bool := headOk x.source x.main x.period x.known x.til && rangeOk x.minutes 50000 && rangeOk x.rate 1000
def readOk (x : ReadG) : Bool := headOk x.source x.main x.period x.known x.til && rangeOk x.volume 100000000
def faultOk (x : FaultG) : Bool := headOk x.source x.main x.period x.known x.til && within x.many 1 100
def priceOk (x : PriceG) : Bool := within x.since 0 999 && within x.feet 0 10000 && within x.fault 0 10000
def countsB (known til now : Int) : Bool := decide (known ≤ now ∧ (til = 0 ∨ now < til))
theorem within_iff {n lo hi : Int} : within n lo hi = true ↔ lo ≤ n ∧ n ≤ hi := by simp [within]
theorem c29 (E : Env) (S : Ents) (n lo hi : Int) : CallW Tryz.prog E 29 #[iv n, iv lo, iv hi] S fun r S' => r = .bool (within n lo hi) ∧ S' = S := by
  refine call_in (args := [iv n, iv lo, iv hi]) Tryz.func29 (by decide) rfl rfl ?_
  repeat' first|(refine gX ?_;first|refine o_v rfl rfl ?_|(refine o_splitD rfl rfl rfl ?_ ?_<;>intro h)|(refine o_split rfl rfl rfl ?_ ?_<;>intro h<;>fail_if_success exact Bool.noConfusion h)|refine o_skip rfl rfl ?_|refine o_skipN rfl rfl ?_|(refine o_splitP rfl ?_ ?_<;>intro h<;>fail_if_success exact Bool.noConfusion h))|refine o_head0 rfl ?_|refine o_end ?_|refine o_head1 rfl ?_|refine wp_seq ?_|refine o_region ?_|refine w_ret (S) (vs:=[_]) rfl (Res.tmp rfl Res.nil) ?_
  all_goals(simp_all [within, iv, pack]<;>(try omega))
theorem c104 (E : Env) (S : Ents) (n lo hi : Int) : CallW Tryz.prog E 104 #[iv n, iv lo, iv hi] S fun r S' => r = .bool (within n lo hi) ∧ S' = S := by
  refine call_in (args := [iv n, iv lo, iv hi]) Tryz.func104 (by decide) rfl rfl ?_
  repeat' first|(refine gX ?_;first|refine o_v rfl rfl ?_|(refine o_splitD rfl rfl rfl ?_ ?_<;>intro h)|(refine o_split rfl rfl rfl ?_ ?_<;>intro h<;>fail_if_success exact Bool.noConfusion h)|refine o_skip rfl rfl ?_|refine o_skipN rfl rfl ?_|(refine o_splitP rfl ?_ ?_<;>intro h<;>fail_if_success exact Bool.noConfusion h))|refine o_head0 rfl ?_|refine o_end ?_|refine o_head1 rfl ?_|refine wp_seq ?_|refine o_region ?_|refine w_ret (S) (vs:=[_]) rfl (Res.tmp rfl Res.nil) ?_
  all_goals(simp_all [within, iv, pack]<;>(try omega))
theorem c30 (E : Env) (S : Ents) (n : Int) : CallW Tryz.prog E 30 #[iv n] S fun r S' => r = .bool (within n 0 100000) ∧ S' = S := by
  refine call_in (args := [iv n]) Tryz.func30 (by decide) rfl rfl ?_
  repeat' first|(refine gX ?_;first|refine o_v rfl rfl ?_|(refine gC ?_;first|refine o_callF rfl rfl rfl (c29 _ _ _ _ _) ?_))|refine o_head0 rfl ?_|refine o_end ?_|refine o_head1 rfl ?_|refine wp_seq ?_|refine o_region ?_|refine w_ret (S) (vs:=[_]) rfl (Res.tmp rfl Res.nil) ?_
  all_goals(simp_all [pack]<;>(try omega))
theorem c127 (E : Env) (S : Ents) (n : Int) : CallW Tryz.prog E 127 #[iv n] S fun r S' => r = .bool (within n 1 99) ∧ S' = S := by
  refine call_in (args := [iv n]) Tryz.func127 (by decide) rfl rfl ?_
  repeat' first|(refine gX ?_;first|refine o_v rfl rfl ?_|(refine gC ?_;first|refine o_callF rfl rfl rfl (c104 _ _ _ _ _) ?_))|refine o_head0 rfl ?_|refine o_end ?_|refine o_head1 rfl ?_|refine wp_seq ?_|refine o_region ?_|refine w_ret (S) (vs:=[_]) rfl (Res.tmp rfl Res.nil) ?_
  all_goals(simp_all [pack]<;>(try omega))
theorem c132 (E : Env) (S : Ents) (n : Int) : CallW Tryz.prog E 132 #[iv n] S fun r S' => r = .bool (within n 0 999) ∧ S' = S := by
  refine call_in (args := [iv n]) Tryz.func132 (by decide) rfl rfl ?_
  repeat' first|(refine gX ?_;first|refine o_v rfl rfl ?_|(refine gC ?_;first|refine o_callF rfl rfl rfl (c104 _ _ _ _ _) ?_))|refine o_head0 rfl ?_|refine o_end ?_|refine o_head1 rfl ?_|refine wp_seq ?_|refine o_region ?_|refine w_ret (S) (vs:=[_]) rfl (Res.tmp rfl Res.nil) ?_
  all_goals(simp_all [pack]<;>(try omega))
theorem c143 (E : Env) (S : Ents) (n : Int) : CallW Tryz.prog E 143 #[iv n] S fun r S' => r = .bool (within n 0 100000) ∧ S' = S := by
  refine call_in (args := [iv n]) Tryz.func143 (by decide) rfl rfl ?_
  repeat' first|(refine gX ?_;first|refine o_v rfl rfl ?_|(refine gC ?_;first|refine o_callF rfl rfl rfl (c104 _ _ _ _ _) ?_))|refine o_head0 rfl ?_|refine o_end ?_|refine o_head1 rfl ?_|refine wp_seq ?_|refine o_region ?_|refine w_ret (S) (vs:=[_]) rfl (Res.tmp rfl Res.nil) ?_
  all_goals(simp_all [pack]<;>(try omega))
theorem c128 (E : Env) (S : Ents) (x : RangeG) (hi : Int) : CallW Tryz.prog E 128 #[.agg (rangeC x), iv hi] S fun r S' => r = .bool (rangeOk x hi) ∧ S' = S := by
  refine call_in (args := [.agg (rangeC x), iv hi]) Tryz.func128 (by decide) rfl rfl ?_
  repeat' first|(refine gX ?_;first|refine o_v rfl rfl ?_|(refine o_splitD rfl rfl rfl ?_ ?_<;>intro h)|(refine o_split rfl rfl rfl ?_ ?_<;>intro h<;>fail_if_success exact Bool.noConfusion h)|(refine gL ?_;first|refine o_load rfl rfl rfl rfl ?_|refine o_loadR rfl rfl rfl (by omega) rfl rfl ?_|refine o_loadW rfl rfl rfl rfl ?_|refine o_loadK rfl rfl rfl ?_)|(refine gF ?_;first|refine o_fieldI rfl rfl rfl rfl ?_|refine o_field rfl rfl rfl rfl ?_)|(refine o_box rfl rfl rfl ?_;intro _)|refine o_skip rfl rfl ?_|refine o_skipN rfl rfl ?_|(refine o_splitP rfl ?_ ?_<;>intro h<;>fail_if_success exact Bool.noConfusion h))|refine o_head0 rfl ?_|refine o_end ?_|refine o_head1 rfl ?_|refine wp_seq ?_|refine o_region ?_|refine w_ret (S) (vs:=[_]) rfl (Res.tmp rfl Res.nil) ?_
  all_goals(simp_all [rangeOk, pack]<;>(try omega))
theorem c129 (E : Env) (S : Ents) (x : RangeG) (hi : Int) : CallW Tryz.prog E 129 #[.agg (rangeC x), iv 0, iv hi] S fun r S' => r = .bool (rangeOk x hi) ∧ S' = S := by
  refine call_in (args := [.agg (rangeC x), iv 0, iv hi]) Tryz.func129 (by decide) rfl rfl ?_
  repeat' first|(refine gX ?_;first|refine o_v rfl rfl ?_|(refine o_splitD rfl rfl rfl ?_ ?_<;>intro h)|(refine o_split rfl rfl rfl ?_ ?_<;>intro h<;>fail_if_success exact Bool.noConfusion h)|(refine gL ?_;first|refine o_load rfl rfl rfl rfl ?_|refine o_loadR rfl rfl rfl (by omega) rfl rfl ?_|refine o_loadW rfl rfl rfl rfl ?_|refine o_loadK rfl rfl rfl ?_)|(refine gF ?_;first|refine o_fieldI rfl rfl rfl rfl ?_|refine o_field rfl rfl rfl rfl ?_)|(refine o_box rfl rfl rfl ?_;intro _)|refine o_skip rfl rfl ?_|refine o_skipN rfl rfl ?_|(refine o_splitP rfl ?_ ?_<;>intro h<;>fail_if_success exact Bool.noConfusion h))|refine o_head0 rfl ?_|refine o_end ?_|refine o_head1 rfl ?_|refine wp_seq ?_|refine o_region ?_|refine w_ret (S) (vs:=[_]) rfl (Res.tmp rfl Res.nil) ?_
  all_goals(simp_all [rangeOk, pack]<;>(try omega))
theorem c61 (E : Env) (S : Ents) (x : MainG) : CallW Tryz.prog E 61 #[.agg (mainC x)] S fun r S' => r = iv (if mainOk x then 0 else 70) ∧ S' = S := by
  refine call_in (args := [.agg (mainC x)]) Tryz.func61 (by decide) rfl rfl ?_
  repeat' first|(refine gX ?_;first|refine o_v rfl rfl ?_|(refine o_splitD rfl rfl rfl ?_ ?_<;>intro h)|(refine o_split rfl rfl rfl ?_ ?_<;>intro h<;>fail_if_success exact Bool.noConfusion h)|(refine gL ?_;first|refine o_load rfl rfl rfl rfl ?_|refine o_loadR rfl rfl rfl (by omega) rfl rfl ?_|refine o_loadW rfl rfl rfl rfl ?_|refine o_loadK rfl rfl rfl ?_)|(refine gF ?_;first|refine o_fieldI rfl rfl rfl rfl ?_|refine o_field rfl rfl rfl rfl ?_)|(refine gB ?_;first|refine o_sub rfl rfl rfl rfl (by simp only [Bool.not_eq_false'] at h;have := within_iff.1 h;omega) ?_|refine o_sub rfl rfl rfl rfl (by omega) ?_)|(refine gC ?_;first|refine o_callF rfl rfl rfl (c127 _ _ _) ?_|refine o_callF rfl rfl rfl (c104 _ _ _ _ _) ?_|refine o_callF rfl rfl rfl (c128 _ _ _ _) ?_)|(refine o_box rfl rfl rfl ?_;intro _)|refine o_skip rfl rfl ?_|refine o_skipN rfl rfl ?_|(refine o_splitP rfl ?_ ?_<;>intro h<;>fail_if_success exact Bool.noConfusion h))|refine o_head0 rfl ?_|refine o_end ?_|refine o_head1 rfl ?_|refine wp_seq ?_|refine o_region ?_|refine wp_skip ?_|(refine w_condD rfl ?_ ?_<;>intro h)|(refine w_cond rfl ?_ ?_<;>intro h<;>try exact Bool.noConfusion h)|refine w_ret (S) (vs:=[_]) rfl (Res.tmp rfl Res.nil) ?_
  all_goals(simp_all [mainOk, pack, iv, headOk, lastsOk, rangeOk, within]<;>(try omega))
theorem c62 (E : Env) (S : Ents) (x : MainG) : CallW Tryz.prog E 62 #[.agg (mainC x)] S fun r S' => r = iv (if mainOk x then 0 else 70) ∧ S' = S := by
  refine call_in (args := [.agg (mainC x)]) Tryz.func62 (by decide) rfl rfl ?_
  repeat' first|(refine gX ?_;first|refine o_v rfl rfl ?_|(refine o_splitD rfl rfl rfl ?_ ?_<;>intro h)|(refine o_split rfl rfl rfl ?_ ?_<;>intro h<;>fail_if_success exact Bool.noConfusion h)|(refine gL ?_;first|refine o_load rfl rfl rfl rfl ?_|refine o_loadR rfl rfl rfl (by omega) rfl rfl ?_|refine o_loadW rfl rfl rfl rfl ?_|refine o_loadK rfl rfl rfl ?_)|(refine gF ?_;first|refine o_fieldI rfl rfl rfl rfl ?_|refine o_field rfl rfl rfl rfl ?_)|(refine gB ?_;first|refine o_sub rfl rfl rfl rfl (by simp only [Bool.not_eq_false'] at h;have := within_iff.1 h;omega) ?_|refine o_sub rfl rfl rfl rfl (by omega) ?_)|(refine gC ?_;first|refine o_callF rfl rfl rfl (c29 _ _ _ _ _) ?_|refine o_callF rfl rfl rfl (c29 _ _ _ _ _) ?_|refine o_callF rfl rfl rfl (c129 _ _ _ _) ?_)|(refine o_box rfl rfl rfl ?_;intro _)|refine o_skip rfl rfl ?_|refine o_skipN rfl rfl ?_|(refine o_splitP rfl ?_ ?_<;>intro h<;>fail_if_success exact Bool.noConfusion h))|refine o_head0 rfl ?_|refine o_end ?_|refine o_head1 rfl ?_|refine wp_seq ?_|refine o_region ?_|refine wp_skip ?_|(refine w_condD rfl ?_ ?_<;>intro h)|(refine w_cond rfl ?_ ?_<;>intro h<;>try exact Bool.noConfusion h)|refine w_ret (S) (vs:=[_]) rfl (Res.tmp rfl Res.nil) ?_
  all_goals(simp_all [mainOk, pack, iv, headOk, lastsOk, rangeOk, within]<;>(try omega))
theorem c169 (E : Env) (S : Ents) (known til : Int) : CallW Tryz.prog E 169 #[iv known, iv til] S fun r S' => r = .bool (lastsOk known til) ∧ S' = S := by
  refine call_in (args := [iv known, iv til]) Tryz.func169 (by decide) rfl rfl ?_
  repeat' first|(refine gX ?_;first|refine o_v rfl rfl ?_|(refine o_splitD rfl rfl rfl ?_ ?_<;>intro h)|(refine o_split rfl rfl rfl ?_ ?_<;>intro h<;>fail_if_success exact Bool.noConfusion h)|(refine gB ?_;first|refine o_eqNil rfl rfl rfl rfl rfl ?_)|(refine gC ?_;first|refine o_callF rfl rfl rfl (c30 _ _ _) ?_)|refine o_skip rfl rfl ?_|refine o_skipN rfl rfl ?_|(refine o_splitP rfl ?_ ?_<;>intro h<;>fail_if_success exact Bool.noConfusion h))|refine o_head0 rfl ?_|refine o_end ?_|refine o_head1 rfl ?_|refine wp_seq ?_|refine o_region ?_|refine w_ret (S) (vs:=[_]) rfl (Res.tmp rfl Res.nil) ?_
  all_goals(simp_all [lastsOk, pack, within]<;>(try omega))
theorem c131 (E : Env) (S : Ents) (a b c known til : Int) : CallW Tryz.prog E 131 #[.agg #[iv a, iv b, iv c], iv known, iv til] S fun r S' => r = .bool (headOk a b c known til) ∧ S' = S := by
  refine call_in (args := [.agg #[iv a, iv b, iv c], iv known, iv til]) Tryz.func131 (by decide) rfl rfl ?_
  repeat' first|(refine gX ?_;first|refine o_v rfl rfl ?_|(refine o_splitD rfl rfl rfl ?_ ?_<;>intro h)|(refine o_split rfl rfl rfl ?_ ?_<;>intro h<;>fail_if_success exact Bool.noConfusion h)|(refine gL ?_;first|refine o_load rfl rfl rfl rfl ?_|refine o_loadR rfl rfl rfl (by omega) rfl rfl ?_|refine o_loadW rfl rfl rfl rfl ?_|refine o_loadK rfl rfl rfl ?_)|(refine gC ?_;first|refine o_callF rfl rfl rfl (c29 _ _ _ _ _) ?_|refine o_callF rfl rfl rfl (c169 _ _ _ _) ?_)|(refine gI ?_;first|refine o_indexK 0 rfl rfl rfl rfl rfl rfl ?_|refine o_indexK 1 rfl rfl rfl rfl rfl rfl ?_|refine o_indexK 2 rfl rfl rfl rfl rfl rfl ?_|refine o_indexS rfl rfl rfl rfl rfl rfl (by omega) ?_|refine o_index rfl rfl rfl rfl rfl (by omega) ?_)|(refine o_box rfl rfl rfl ?_;intro _)|refine o_skip rfl rfl ?_|refine o_skipN rfl rfl ?_|(refine o_splitP rfl ?_ ?_<;>intro h<;>fail_if_success exact Bool.noConfusion h))|refine o_head0 rfl ?_|refine o_end ?_|refine o_head1 rfl ?_|refine wp_seq ?_|refine o_region ?_|refine w_ret (S) (vs:=[_]) rfl (Res.tmp rfl Res.nil) ?_
  all_goals(simp_all [headOk, lastsOk, within, pack]<;>(try omega))
theorem c227 (E : Env) (S : Ents) (x : ReadG) : CallW Tryz.prog E 227 #[.agg (readC x)] S fun r S' => r = .tuple #[iv x.source, iv x.main, iv x.period, iv x.known, iv x.til] ∧ S' = S := by
  refine call_in (args := [.agg (readC x)]) Tryz.func227 (by decide) rfl rfl ?_
  repeat' first|(refine gX ?_;first|refine o_v rfl rfl ?_|(refine gL ?_;first|refine o_load rfl rfl rfl rfl ?_|refine o_loadR rfl rfl rfl (by omega) rfl rfl ?_|refine o_loadW rfl rfl rfl rfl ?_|refine o_loadK rfl rfl rfl ?_)|(refine gF ?_;first|refine o_fieldI rfl rfl rfl rfl ?_|refine o_field rfl rfl rfl rfl ?_)|(refine o_box rfl rfl rfl ?_;intro _))|refine o_head0 rfl ?_|refine o_end ?_|refine o_head1 rfl ?_|refine wp_seq ?_|refine o_region ?_|refine w_ret (S) (vs:=[_,_,_,_,_]) rfl (Res.tmp rfl (Res.tmp rfl (Res.tmp rfl (Res.tmp rfl (Res.tmp rfl Res.nil))))) ?_|(show WP _ _ _ _ (.region 1 _ true) _ _ _ _;refine o_drawnZ [Zf 0,Zf 1,Zf 2,Zf 3,Zf 4,Zf 5,Zf 6,Zf 7,Zf 8,Zf 9,Zf 10,Zf 11,Zf 12,Zf 13,Zf 14] [] mixed (by kernel_rfl) (List.nil_sublist _) ?_)
  all_goals(simp_all [pack, iv]<;>(try omega))
theorem c228 (E : Env) (S : Ents) (x : UseG) : CallW Tryz.prog E 228 #[.agg (useC x)] S fun r S' => r = .tuple #[iv x.source, iv x.main, iv x.period, iv x.known, iv x.til] ∧ S' = S := by
  refine call_in (args := [.agg (useC x)]) Tryz.func228 (by decide) rfl rfl ?_
  repeat' first|(refine gX ?_;first|refine o_v rfl rfl ?_|(refine gL ?_;first|refine o_load rfl rfl rfl rfl ?_|refine o_loadR rfl rfl rfl (by omega) rfl rfl ?_|refine o_loadW rfl rfl rfl rfl ?_|refine o_loadK rfl rfl rfl ?_)|(refine gF ?_;first|refine o_fieldI rfl rfl rfl rfl ?_|refine o_field rfl rfl rfl rfl ?_)|(refine o_box rfl rfl rfl ?_;intro _))|refine o_head0 rfl ?_|refine o_end ?_|refine o_head1 rfl ?_|refine wp_seq ?_|refine o_region ?_|refine w_ret (S) (vs:=[_,_,_,_,_]) rfl (Res.tmp rfl (Res.tmp rfl (Res.tmp rfl (Res.tmp rfl (Res.tmp rfl Res.nil))))) ?_|(show WP _ _ _ _ (.region 1 _ true) _ _ _ _;refine o_drawnZ [Zf 0,Zf 1,Zf 2,Zf 3,Zf 4,Zf 5,Zf 6,Zf 7,Zf 8,Zf 9,Zf 10,Zf 11,Zf 12,Zf 13,Zf 14] [] mixed (by kernel_rfl) (List.nil_sublist _) ?_)
  all_goals(simp_all [pack, iv]<;>(try omega))
theorem c229 (E : Env) (S : Ents) (x : FaultG) : CallW Tryz.prog E 229 #[.agg (faultC x)] S fun r S' => r = .tuple #[iv x.source, iv x.main, iv x.period, iv x.known, iv x.til] ∧ S' = S := by
  refine call_in (args := [.agg (faultC x)]) Tryz.func229 (by decide) rfl rfl ?_
  repeat' first|(refine gX ?_;first|refine o_v rfl rfl ?_|(refine gL ?_;first|refine o_load rfl rfl rfl rfl ?_|refine o_loadR rfl rfl rfl (by omega) rfl rfl ?_|refine o_loadW rfl rfl rfl rfl ?_|refine o_loadK rfl rfl rfl ?_)|(refine gF ?_;first|refine o_fieldI rfl rfl rfl rfl ?_|refine o_field rfl rfl rfl rfl ?_)|(refine o_box rfl rfl rfl ?_;intro _))|refine o_head0 rfl ?_|refine o_end ?_|refine o_head1 rfl ?_|refine wp_seq ?_|refine o_region ?_|refine w_ret (S) (vs:=[_,_,_,_,_]) rfl (Res.tmp rfl (Res.tmp rfl (Res.tmp rfl (Res.tmp rfl (Res.tmp rfl Res.nil))))) ?_|(show WP _ _ _ _ (.region 1 _ true) _ _ _ _;refine o_drawnZ [Zf 0,Zf 1,Zf 2,Zf 3,Zf 4,Zf 5,Zf 6,Zf 7,Zf 8,Zf 9,Zf 10,Zf 11,Zf 12,Zf 13,Zf 14] [] mixed (by kernel_rfl) (List.nil_sublist _) ?_)
  all_goals(simp_all [pack, iv]<;>(try omega))
theorem c130r (E : Env) (S : Ents) (x : ReadG) : CallW Tryz.prog E 130 #[.iface 159 (.agg (readC x))] S fun r S' => r = .bool (headOk x.source x.main x.period x.known x.til) ∧ S' = S := by
  refine call_in (args := [.iface 159 (.agg (readC x))]) Tryz.func130 (by decide) rfl rfl ?_
  repeat' first|(refine gX ?_;first|refine o_v rfl rfl ?_|(refine o_splitD rfl rfl rfl ?_ ?_<;>intro h)|(refine o_split rfl rfl rfl ?_ ?_<;>intro h<;>fail_if_success exact Bool.noConfusion h)|(refine gB ?_;first|refine o_add rfl rfl rfl rfl (by have := within_iff.1 ‹within x.known 0 100000 = true›;omega) ?_|refine o_add rfl rfl rfl rfl (by omega) ?_|refine o_eqNil rfl rfl rfl rfl rfl ?_)|(refine gC ?_;first|refine o_inv rfl rfl rfl rfl (c227 _ _ x) ?_|refine o_callF rfl rfl rfl (c104 _ _ _ _ _) ?_|refine o_callF rfl rfl rfl (c127 _ _ _) ?_|refine o_callF rfl rfl rfl (c132 _ _ _) ?_|refine o_callF rfl rfl rfl (c143 _ _ _) ?_)|refine o_skip rfl rfl ?_|refine o_skipN rfl rfl ?_|(refine o_splitP rfl ?_ ?_<;>intro h<;>fail_if_success exact Bool.noConfusion h))|refine o_head0 rfl ?_|refine o_end ?_|refine o_head1 rfl ?_|refine wp_seq ?_|refine o_region ?_|refine w_ret (S) (vs:=[_]) rfl (Res.tmp rfl Res.nil) ?_
  all_goals(simp_all [headOk, lastsOk, within, pack, Int.add_one_le_iff]<;>(try omega))
theorem c130u (E : Env) (S : Ents) (x : UseG) : CallW Tryz.prog E 130 #[.iface 183 (.agg (useC x))] S fun r S' => r = .bool (headOk x.source x.main x.period x.known x.til) ∧ S' = S := by
  refine call_in (args := [.iface 183 (.agg (useC x))]) Tryz.func130 (by decide) rfl rfl ?_
  repeat' first|(refine gX ?_;first|refine o_v rfl rfl ?_|(refine o_splitD rfl rfl rfl ?_ ?_<;>intro h)|(refine o_split rfl rfl rfl ?_ ?_<;>intro h<;>fail_if_success exact Bool.noConfusion h)|(refine gB ?_;first|refine o_add rfl rfl rfl rfl (by have := within_iff.1 ‹within x.known 0 100000 = true›;omega) ?_|refine o_add rfl rfl rfl rfl (by omega) ?_|refine o_eqNil rfl rfl rfl rfl rfl ?_)|(refine gC ?_;first|refine o_inv rfl rfl rfl rfl (c228 _ _ x) ?_|refine o_callF rfl rfl rfl (c104 _ _ _ _ _) ?_|refine o_callF rfl rfl rfl (c127 _ _ _) ?_|refine o_callF rfl rfl rfl (c132 _ _ _) ?_|refine o_callF rfl rfl rfl (c143 _ _ _) ?_)|refine o_skip rfl rfl ?_|refine o_skipN rfl rfl ?_|(refine o_splitP rfl ?_ ?_<;>intro h<;>fail_if_success exact Bool.noConfusion h))|refine o_head0 rfl ?_|refine o_end ?_|refine o_head1 rfl ?_|refine wp_seq ?_|refine o_region ?_|refine w_ret (S) (vs:=[_]) rfl (Res.tmp rfl Res.nil) ?_
  all_goals(simp_all [headOk, lastsOk, within, pack, Int.add_one_le_iff]<;>(try omega))
theorem c130f (E : Env) (S : Ents) (x : FaultG) : CallW Tryz.prog E 130 #[.iface 186 (.agg (faultC x))] S fun r S' => r = .bool (headOk x.source x.main x.period x.known x.til) ∧ S' = S := by
  refine call_in (args := [.iface 186 (.agg (faultC x))]) Tryz.func130 (by decide) rfl rfl ?_
  repeat' first|(refine gX ?_;first|refine o_v rfl rfl ?_|(refine o_splitD rfl rfl rfl ?_ ?_<;>intro h)|(refine o_split rfl rfl rfl ?_ ?_<;>intro h<;>fail_if_success exact Bool.noConfusion h)|(refine gB ?_;first|refine o_add rfl rfl rfl rfl (by have := within_iff.1 ‹within x.known 0 100000 = true›;omega) ?_|refine o_add rfl rfl rfl rfl (by omega) ?_|refine o_eqNil rfl rfl rfl rfl rfl ?_)|(refine gC ?_;first|refine o_inv rfl rfl rfl rfl (c229 _ _ x) ?_|refine o_callF rfl rfl rfl (c104 _ _ _ _ _) ?_|refine o_callF rfl rfl rfl (c127 _ _ _) ?_|refine o_callF rfl rfl rfl (c132 _ _ _) ?_|refine o_callF rfl rfl rfl (c143 _ _ _) ?_)|refine o_skip rfl rfl ?_|refine o_skipN rfl rfl ?_|(refine o_splitP rfl ?_ ?_<;>intro h<;>fail_if_success exact Bool.noConfusion h))|refine o_head0 rfl ?_|refine o_end ?_|refine o_head1 rfl ?_|refine wp_seq ?_|refine o_region ?_|refine w_ret (S) (vs:=[_]) rfl (Res.tmp rfl Res.nil) ?_
  all_goals(simp_all [headOk, lastsOk, within, pack, Int.add_one_le_iff]<;>(try omega))
theorem c63 (E : Env) (S : Ents) (x : UseG) : CallW Tryz.prog E 63 #[.agg (useC x)] S fun r S' => r = iv (if useOk x then 0 else 71) ∧ S' = S := by
  refine call_in (args := [.agg (useC x)]) Tryz.func63 (by decide) rfl rfl ?_
  repeat' first|(refine gX ?_;first|refine o_v rfl rfl ?_|(refine o_splitD rfl rfl rfl ?_ ?_<;>intro h)|(refine o_split rfl rfl rfl ?_ ?_<;>intro h<;>fail_if_success exact Bool.noConfusion h)|(refine gL ?_;first|refine o_load rfl rfl rfl rfl ?_|refine o_loadR rfl rfl rfl (by omega) rfl rfl ?_|refine o_loadW rfl rfl rfl rfl ?_|refine o_loadK rfl rfl rfl ?_)|(refine gF ?_;first|refine o_fieldI rfl rfl rfl rfl ?_|refine o_field rfl rfl rfl rfl ?_)|(refine gC ?_;first|refine o_callF rfl rfl rfl (c130u _ _ x) ?_|refine o_callF rfl rfl rfl (c128 _ _ _ _) ?_)|(refine o_box rfl rfl rfl ?_;intro _)|refine o_skip rfl rfl ?_|refine o_skipN rfl rfl ?_|refine o_iface rfl rfl rfl ?_|(refine o_splitP rfl ?_ ?_<;>intro h<;>fail_if_success exact Bool.noConfusion h))|refine o_head0 rfl ?_|refine o_end ?_|refine o_head1 rfl ?_|refine wp_seq ?_|refine o_region ?_|refine wp_skip ?_|(refine w_condD rfl ?_ ?_<;>intro h)|(refine w_cond rfl ?_ ?_<;>intro h<;>try exact Bool.noConfusion h)|refine w_ret (S) (vs:=[_]) rfl (Res.tmp rfl Res.nil) ?_
  all_goals(simp_all [useOk, pack, iv, headOk, lastsOk, rangeOk, within]<;>(try omega))
theorem c64 (E : Env) (S : Ents) (x : UseG) : CallW Tryz.prog E 64 #[.agg (useC x)] S fun r S' => r = iv (if useOk x then 0 else 71) ∧ S' = S := by
  refine call_in (args := [.agg (useC x)]) Tryz.func64 (by decide) rfl rfl ?_
  repeat' first|(refine gX ?_;first|refine o_v rfl rfl ?_|(refine o_splitD rfl rfl rfl ?_ ?_<;>intro h)|(refine o_split rfl rfl rfl ?_ ?_<;>intro h<;>fail_if_success exact Bool.noConfusion h)|(refine gL ?_;first|refine o_load rfl rfl rfl rfl ?_|refine o_loadR rfl rfl rfl (by omega) rfl rfl ?_|refine o_loadW rfl rfl rfl rfl ?_|refine o_loadK rfl rfl rfl ?_)|(refine gF ?_;first|refine o_fieldI rfl rfl rfl rfl ?_|refine o_field rfl rfl rfl rfl ?_)|(refine gC ?_;first|refine o_callF rfl rfl rfl (c131 _ _ _ _ _ _ _) ?_|refine o_callF rfl rfl rfl (c129 _ _ _ _) ?_)|(refine o_box rfl rfl rfl ?_;intro _)|refine o_skip rfl rfl ?_|refine o_skipN rfl rfl ?_|refine o_build rfl rfl rfl rfl rfl ?_|(refine o_splitP rfl ?_ ?_<;>intro h<;>fail_if_success exact Bool.noConfusion h))|refine o_head0 rfl ?_|refine o_end ?_|refine o_head1 rfl ?_|refine wp_seq ?_|refine o_region ?_|refine wp_skip ?_|(refine w_condD rfl ?_ ?_<;>intro h)|(refine w_cond rfl ?_ ?_<;>intro h<;>try exact Bool.noConfusion h)|refine w_ret (S) (vs:=[_]) rfl (Res.tmp rfl Res.nil) ?_
  all_goals(simp_all [useOk, pack, iv, headOk, lastsOk, rangeOk, within]<;>(try omega))
theorem c65 (E : Env) (S : Ents) (x : ReadG) : CallW Tryz.prog E 65 #[.agg (readC x)] S fun r S' => r = iv (if readOk x then 0 else 72) ∧ S' = S := by
  refine call_in (args := [.agg (readC x)]) Tryz.func65 (by decide) rfl rfl ?_
  repeat' first|(refine gX ?_;first|refine o_v rfl rfl ?_|(refine o_splitD rfl rfl rfl ?_ ?_<;>intro h)|(refine o_split rfl rfl rfl ?_ ?_<;>intro h<;>fail_if_success exact Bool.noConfusion h)|(refine gL ?_;first|refine o_load rfl rfl rfl rfl ?_|refine o_loadR rfl rfl rfl (by omega) rfl rfl ?_|refine o_loadW rfl rfl rfl rfl ?_|refine o_loadK rfl rfl rfl ?_)|(refine gF ?_;first|refine o_fieldI rfl rfl rfl rfl ?_|refine o_field rfl rfl rfl rfl ?_)|(refine gC ?_;first|refine o_callF rfl rfl rfl (c130r _ _ x) ?_|refine o_callF rfl rfl rfl (c128 _ _ _ _) ?_)|(refine o_box rfl rfl rfl ?_;intro _)|refine o_skip rfl rfl ?_|refine o_skipN rfl rfl ?_|refine o_iface rfl rfl rfl ?_|(refine o_splitP rfl ?_ ?_<;>intro h<;>fail_if_success exact Bool.noConfusion h))|refine o_head0 rfl ?_|refine o_end ?_|refine o_head1 rfl ?_|refine wp_seq ?_|refine o_region ?_|refine wp_skip ?_|(refine w_condD rfl ?_ ?_<;>intro h)|(refine w_cond rfl ?_ ?_<;>intro h<;>try exact Bool.noConfusion h)|refine w_ret (S) (vs:=[_]) rfl (Res.tmp rfl Res.nil) ?_
  all_goals(simp_all [readOk, pack, iv, headOk, lastsOk, rangeOk, within]<;>(try omega))
theorem c66 (E : Env) (S : Ents) (x : ReadG) : CallW Tryz.prog E 66 #[.agg (readC x)] S fun r S' => r = iv (if readOk x then 0 else 72) ∧ S' = S := by
  refine call_in (args := [.agg (readC x)]) Tryz.func66 (by decide) rfl rfl ?_
  repeat' first|(refine gX ?_;first|refine o_v rfl rfl ?_|(refine o_splitD rfl rfl rfl ?_ ?_<;>intro h)|(refine o_split rfl rfl rfl ?_ ?_<;>intro h<;>fail_if_success exact Bool.noConfusion h)|(refine gL ?_;first|refine o_load rfl rfl rfl rfl ?_|refine o_loadR rfl rfl rfl (by omega) rfl rfl ?_|refine o_loadW rfl rfl rfl rfl ?_|refine o_loadK rfl rfl rfl ?_)|(refine gF ?_;first|refine o_fieldI rfl rfl rfl rfl ?_|refine o_field rfl rfl rfl rfl ?_)|(refine gC ?_;first|refine o_callF rfl rfl rfl (c131 _ _ _ _ _ _ _) ?_|refine o_callF rfl rfl rfl (c129 _ _ _ _) ?_)|(refine o_box rfl rfl rfl ?_;intro _)|refine o_skip rfl rfl ?_|refine o_skipN rfl rfl ?_|refine o_build rfl rfl rfl rfl rfl ?_|(refine o_splitP rfl ?_ ?_<;>intro h<;>fail_if_success exact Bool.noConfusion h))|refine o_head0 rfl ?_|refine o_end ?_|refine o_head1 rfl ?_|refine wp_seq ?_|refine o_region ?_|refine wp_skip ?_|(refine w_condD rfl ?_ ?_<;>intro h)|(refine w_cond rfl ?_ ?_<;>intro h<;>try exact Bool.noConfusion h)|refine w_ret (S) (vs:=[_]) rfl (Res.tmp rfl Res.nil) ?_
  all_goals(simp_all [readOk, pack, iv, headOk, lastsOk, rangeOk, within]<;>(try omega))
theorem c67 (E : Env) (S : Ents) (x : FaultG) : CallW Tryz.prog E 67 #[.agg (faultC x)] S fun r S' => r = iv (if faultOk x then 0 else 79) ∧ S' = S := by
  refine call_in (args := [.agg (faultC x)]) Tryz.func67 (by decide) rfl rfl ?_
  repeat' first|(refine gX ?_;first|refine o_v rfl rfl ?_|(refine o_splitD rfl rfl rfl ?_ ?_<;>intro h)|(refine o_split rfl rfl rfl ?_ ?_<;>intro h<;>fail_if_success exact Bool.noConfusion h)|(refine gL ?_;first|refine o_load rfl rfl rfl rfl ?_|refine o_loadR rfl rfl rfl (by omega) rfl rfl ?_|refine o_loadW rfl rfl rfl rfl ?_|refine o_loadK rfl rfl rfl ?_)|(refine gF ?_;first|refine o_fieldI rfl rfl rfl rfl ?_|refine o_field rfl rfl rfl rfl ?_)|(refine gC ?_;first|refine o_callF rfl rfl rfl (c130f _ _ x) ?_|refine o_callF rfl rfl rfl (c104 _ _ _ _ _) ?_)|(refine o_box rfl rfl rfl ?_;intro _)|refine o_skip rfl rfl ?_|refine o_skipN rfl rfl ?_|refine o_iface rfl rfl rfl ?_|(refine o_splitP rfl ?_ ?_<;>intro h<;>fail_if_success exact Bool.noConfusion h))|refine o_head0 rfl ?_|refine o_end ?_|refine o_head1 rfl ?_|refine wp_seq ?_|refine o_region ?_|refine wp_skip ?_|(refine w_condD rfl ?_ ?_<;>intro h)|(refine w_cond rfl ?_ ?_<;>intro h<;>try exact Bool.noConfusion h)|refine w_ret (S) (vs:=[_]) rfl (Res.tmp rfl Res.nil) ?_
  all_goals(simp_all [faultOk, pack, iv, headOk, lastsOk, rangeOk, within]<;>(try omega))
theorem c68 (E : Env) (S : Ents) (x : FaultG) : CallW Tryz.prog E 68 #[.agg (faultC x)] S fun r S' => r = iv (if faultOk x then 0 else 79) ∧ S' = S := by
  refine call_in (args := [.agg (faultC x)]) Tryz.func68 (by decide) rfl rfl ?_
  repeat' first|(refine gX ?_;first|refine o_v rfl rfl ?_|(refine o_splitD rfl rfl rfl ?_ ?_<;>intro h)|(refine o_split rfl rfl rfl ?_ ?_<;>intro h<;>fail_if_success exact Bool.noConfusion h)|(refine gL ?_;first|refine o_load rfl rfl rfl rfl ?_|refine o_loadR rfl rfl rfl (by omega) rfl rfl ?_|refine o_loadW rfl rfl rfl rfl ?_|refine o_loadK rfl rfl rfl ?_)|(refine gF ?_;first|refine o_fieldI rfl rfl rfl rfl ?_|refine o_field rfl rfl rfl rfl ?_)|(refine gC ?_;first|refine o_callF rfl rfl rfl (c131 _ _ _ _ _ _ _) ?_|refine o_callF rfl rfl rfl (c29 _ _ _ _ _) ?_)|(refine o_box rfl rfl rfl ?_;intro _)|refine o_skip rfl rfl ?_|refine o_skipN rfl rfl ?_|refine o_build rfl rfl rfl rfl rfl ?_|(refine o_splitP rfl ?_ ?_<;>intro h<;>fail_if_success exact Bool.noConfusion h))|refine o_head0 rfl ?_|refine o_end ?_|refine o_head1 rfl ?_|refine wp_seq ?_|refine o_region ?_|refine wp_skip ?_|(refine w_condD rfl ?_ ?_<;>intro h)|(refine w_cond rfl ?_ ?_<;>intro h<;>try exact Bool.noConfusion h)|refine w_ret (S) (vs:=[_]) rfl (Res.tmp rfl Res.nil) ?_
  all_goals(simp_all [faultOk, pack, iv, headOk, lastsOk, rangeOk, within]<;>(try omega))
theorem c69 (E : Env) (S : Ents) (x : PriceG) : CallW Tryz.prog E 69 #[.agg (priceC x)] S fun r S' => r = iv (if priceOk x then 0 else 73) ∧ S' = S := by
  refine call_in (args := [.agg (priceC x)]) Tryz.func69 (by decide) rfl rfl ?_
  repeat' first|(refine gX ?_;first|refine o_v rfl rfl ?_|(refine o_splitD rfl rfl rfl ?_ ?_<;>intro h)|(refine o_split rfl rfl rfl ?_ ?_<;>intro h<;>fail_if_success exact Bool.noConfusion h)|(refine gL ?_;first|refine o_load rfl rfl rfl rfl ?_|refine o_loadR rfl rfl rfl (by omega) rfl rfl ?_|refine o_loadW rfl rfl rfl rfl ?_|refine o_loadK rfl rfl rfl ?_)|(refine gF ?_;first|refine o_fieldI rfl rfl rfl rfl ?_|refine o_field rfl rfl rfl rfl ?_)|(refine gC ?_;first|refine o_callF rfl rfl rfl (c132 _ _ _) ?_|refine o_callF rfl rfl rfl (c104 _ _ _ _ _) ?_)|(refine o_box rfl rfl rfl ?_;intro _)|refine o_skip rfl rfl ?_|refine o_skipN rfl rfl ?_|(refine o_splitP rfl ?_ ?_<;>intro h<;>fail_if_success exact Bool.noConfusion h))|refine o_head0 rfl ?_|refine o_end ?_|refine o_head1 rfl ?_|refine wp_seq ?_|refine o_region ?_|refine wp_skip ?_|(refine w_condD rfl ?_ ?_<;>intro h)|(refine w_cond rfl ?_ ?_<;>intro h<;>try exact Bool.noConfusion h)|refine w_ret (S) (vs:=[_]) rfl (Res.tmp rfl Res.nil) ?_
  all_goals(simp_all [priceOk, pack, iv, headOk, lastsOk, rangeOk, within]<;>(try omega))
theorem c70 (E : Env) (S : Ents) (x : PriceG) : CallW Tryz.prog E 70 #[.agg (priceC x)] S fun r S' => r = iv (if priceOk x then 0 else 73) ∧ S' = S := by
  refine call_in (args := [.agg (priceC x)]) Tryz.func70 (by decide) rfl rfl ?_
  repeat' first|(refine gX ?_;first|refine o_v rfl rfl ?_|(refine o_splitD rfl rfl rfl ?_ ?_<;>intro h)|(refine o_split rfl rfl rfl ?_ ?_<;>intro h<;>fail_if_success exact Bool.noConfusion h)|(refine gL ?_;first|refine o_load rfl rfl rfl rfl ?_|refine o_loadR rfl rfl rfl (by omega) rfl rfl ?_|refine o_loadW rfl rfl rfl rfl ?_|refine o_loadK rfl rfl rfl ?_)|(refine gF ?_;first|refine o_fieldI rfl rfl rfl rfl ?_|refine o_field rfl rfl rfl rfl ?_)|(refine gC ?_;first|refine o_callF rfl rfl rfl (c29 _ _ _ _ _) ?_)|(refine o_box rfl rfl rfl ?_;intro _)|refine o_skip rfl rfl ?_|refine o_skipN rfl rfl ?_|(refine o_splitP rfl ?_ ?_<;>intro h<;>fail_if_success exact Bool.noConfusion h))|refine o_head0 rfl ?_|refine o_end ?_|refine o_head1 rfl ?_|refine wp_seq ?_|refine o_region ?_|refine wp_skip ?_|(refine w_condD rfl ?_ ?_<;>intro h)|(refine w_cond rfl ?_ ?_<;>intro h<;>try exact Bool.noConfusion h)|refine w_ret (S) (vs:=[_]) rfl (Res.tmp rfl Res.nil) ?_
  all_goals(simp_all [priceOk, pack, iv, headOk, lastsOk, rangeOk, within]<;>(try omega))
theorem c109 (E : Env) (S : Ents) (a b c : Int) : CallW Tryz.prog E 109 #[iv a, iv b, iv c] S fun r S' => r = .bool (countsB a b c) ∧ S' = S := by
  refine call_in (args := [iv a, iv b, iv c]) Tryz.func109 (by decide) rfl rfl ?_
  repeat' first|(refine gX ?_;first|refine o_v rfl rfl ?_|(refine o_splitD rfl rfl rfl ?_ ?_<;>intro h)|(refine o_split rfl rfl rfl ?_ ?_<;>intro h<;>fail_if_success exact Bool.noConfusion h)|(refine gB ?_;first|refine o_eqNil rfl rfl rfl rfl rfl ?_)|refine o_skip rfl rfl ?_|refine o_skipN rfl rfl ?_|(refine o_splitP rfl ?_ ?_<;>intro h<;>fail_if_success exact Bool.noConfusion h))|refine o_head0 rfl ?_|refine o_end ?_|refine o_head1 rfl ?_|refine wp_seq ?_|refine o_region ?_|refine w_ret (S) (vs:=[_]) rfl (Res.tmp rfl Res.nil) ?_
  all_goals(simp_all [countsB, pack]<;>(try omega))
end Go.Proofs.YtpnnmklacialgaaGreat
namespace Go.Proofs.YtpnnmklacialgaaGreat
open Go.Conc
attribute [local irreducible] WP OpF OpX CallW SemH retQ
def idxF {α : Type} (p : α → Bool) : List α → Nat → Int
  | [], _ => -1
  | x :: l, i => if p x = true then (i : Int) else idxF p l (i + 1)
def lenAll {α : Type} (most : Nat) (ok : α → Bool) (xs : List α) : Bool := decide (xs.length ≤ most) && xs.all ok
theorem lenAll_iff {α : Type} {most : Nat} {ok : α → Bool} {xs : List α} : lenAll most ok xs = true ↔ xs.length ≤ most ∧ ∀ x ∈ xs, ok x = true := by simp [lenAll]
theorem idxF_drop {α : Type} {p : α → Bool} {l : List α} {j : Nat} (h : j < l.length) : idxF p (l.drop j) j = if p l[j] = true then (j : Int) else idxF p (l.drop (j + 1)) (j + 1) := by
  rw [List.drop_eq_getElem_cons h, idxF]
theorem idxF_any {α : Type} {p : α → Bool} : ∀ {l : List α} {i : Nat}, decide (0 ≤ idxF p l i) = l.any p
  | [], i => by simp [idxF]
  | x :: l, i => by
    rw [idxF, List.any_cons]
    cases h : p x with
    | true => simp
    | false => simp [idxF_any (l := l) (i := i + 1)]
theorem c151 (E : Env) (S : Ents) (xs : List MainG) (v : Value) (g : Nat) (first cap : Array Value) (p : MainG → Bool) (hv : SlV S v xs) (hm : xs.length ≤ 17592186044416)
    (hg : ∀ x, x ∈ xs → CallW Tryz.prog E g (first ++ #[.agg (mainC x)] ++ cap) S fun r S' => r = .bool (p x) ∧ S' = S) : CallW Tryz.prog E 151 #[v, .func (.func g) first cap] S fun r S' => r = iv (idxF p xs 0) ∧ S' = S := by
  obtain ⟨a, cp, rfl, _, hr⟩ := hv
  have := SlI.mk hr
  refine call_in (args := [.slice a xs.length cp, .func (.func g) first cap]) Tryz.func151 (by decide) rfl rfl ?_
  repeat' first|(refine gX ?_;first|refine o_v rfl rfl ?_|(refine gL ?_;first|refine o_load rfl rfl rfl rfl ?_|refine o_loadR rfl rfl rfl (by omega) rfl rfl ?_|refine o_loadW rfl rfl rfl rfl ?_|refine o_loadK rfl rfl rfl ?_)|(refine gB ?_;first|refine o_add rfl rfl rfl rfl (by omega) ?_)|(refine gI ?_;first|refine o_indexS rfl rfl rfl rfl rfl rfl (by omega) ?_|refine o_index rfl rfl rfl rfl rfl (by omega) ?_))|refine o_head0 rfl ?_|refine o_end ?_|refine o_head1 rfl ?_|refine wp_seq ?_|refine o_region ?_|refine wp_block ?_|refine wp_skip ?_|refine wp_exit ?_|(refine w_condD rfl ?_ ?_<;>intro h)|(refine w_cond rfl ?_ ?_<;>intro h<;>try exact Bool.noConfusion h)|refine w_ret (S) (vs:=[_]) rfl (Res.tmp rfl Res.nil) ?_
  refine wp_loop (fun i t ds S' => ∃ (j : Nat) (t0 : Tm), i = xs.length - j ∧ j ≤ xs.length ∧ [] = ds ∧ S = S' ∧ t = den [(8, .int .i64 j), (7, .int .i64 xs.length), (6, .slice a xs.length cp), (1, .func (.func g) first cap), (0, .slice a xs.length cp)] t0 ∧ idxF p (xs.drop j) j = idxF p xs 0) xs.length ⟨0, _, rfl, Nat.zero_le _, rfl, rfl, keep ⟨rfl, rfl, rfl, rfl, rfl, trivial⟩, rfl⟩ ?_
  rintro i t ds S' ⟨j, t0, rfl, hj, rfl, rfl, rfl, hp⟩
  repeat' first|(refine gX ?_;first|refine o_v rfl rfl ?_|(refine gL ?_;first|refine o_load rfl rfl rfl rfl ?_|refine o_loadR rfl rfl rfl (by omega) rfl rfl ?_|refine o_loadW rfl rfl rfl rfl ?_|refine o_loadK rfl rfl rfl ?_)|(refine gB ?_;first|refine o_add rfl rfl rfl rfl (by omega) ?_)|(refine gC ?_;first|refine o_callvF rfl rfl rfl rfl (hg xs[j] (List.getElem_mem _)) ?_)|(refine gI ?_;first|refine o_indexS rfl rfl rfl rfl rfl rfl (by omega) ?_|refine o_index rfl rfl rfl rfl rfl (by omega) ?_))|refine o_head0 rfl ?_|refine o_end ?_|refine o_head1 rfl ?_|refine wp_seq ?_|refine o_region ?_|refine wp_block ?_|refine wp_skip ?_|refine wp_exit ?_|(refine w_condD rfl ?_ ?_<;>intro h)|(refine w_cond rfl ?_ ?_<;>intro h<;>try exact Bool.noConfusion h)|refine w_ret (S) (vs:=[_]) rfl (Res.tmp rfl Res.nil) ?_
  · rw [idxF_drop (by omega)] at hp
    simp_all [pack, iv]
  · rw [idxF_drop (by omega)] at hp
    exact ⟨xs.length - (j + 1), by omega, _, Sb.h, j + 1, _, rfl, by omega, rfl, rfl, keep ⟨rfl, rfl, rfl, rfl, rfl, trivial⟩, by simp_all⟩
  · have : j = xs.length := by omega
    subst this
    rw [← hp]; simp [idxF, pack, iv]
theorem c170 (E : Env) (S : Ents) (xs : List MainG) (v : Value) (g : Nat) (first cap : Array Value) (p : MainG → Bool) (hv : SlV S v xs) (hm : xs.length ≤ 17592186044416)
    (hg : ∀ x, x ∈ xs → CallW Tryz.prog E g (first ++ #[.agg (mainC x)] ++ cap) S fun r S' => r = .bool (p x) ∧ S' = S) : CallW Tryz.prog E 170 #[v, .func (.func g) first cap] S fun r S' => r = .bool (xs.any p) ∧ S' = S := by
  refine call_in (args := [v, .func (.func g) first cap]) Tryz.func170 (by decide) rfl rfl ?_
  repeat' first|(refine gX ?_;first|refine o_v rfl rfl ?_|(refine gC ?_;first|refine o_callF rfl rfl rfl (c151 _ _ xs _ _ _ _ p hv hm hg) ?_))|refine o_head0 rfl ?_|refine o_end ?_|refine o_head1 rfl ?_|refine wp_seq ?_|refine o_region ?_|refine w_ret (S) (vs:=[_]) rfl (Res.tmp rfl Res.nil) ?_
  exact ⟨by rw [← idxF_any (i := 0)]; rfl, rfl⟩
theorem c190 (E : Env) (S : Ents) (xs : List UseG) (v : Value) (g : Nat) (first cap : Array Value) (p : UseG → Bool) (hv : SlV S v xs) (hm : xs.length ≤ 17592186044416)
    (hg : ∀ x, x ∈ xs → CallW Tryz.prog E g (first ++ #[.agg (useC x)] ++ cap) S fun r S' => r = .bool (p x) ∧ S' = S) : CallW Tryz.prog E 190 #[v, .func (.func g) first cap] S fun r S' => r = iv (idxF p xs 0) ∧ S' = S := by
  obtain ⟨a, cp, rfl, _, hr⟩ := hv
  have := SlI.mk hr
  refine call_in (args := [.slice a xs.length cp, .func (.func g) first cap]) Tryz.func190 (by decide) rfl rfl ?_
  repeat' first|(refine gX ?_;first|refine o_v rfl rfl ?_|(refine gL ?_;first|refine o_load rfl rfl rfl rfl ?_|refine o_loadR rfl rfl rfl (by omega) rfl rfl ?_|refine o_loadW rfl rfl rfl rfl ?_|refine o_loadK rfl rfl rfl ?_)|(refine gB ?_;first|refine o_add rfl rfl rfl rfl (by omega) ?_)|(refine gI ?_;first|refine o_indexS rfl rfl rfl rfl rfl rfl (by omega) ?_|refine o_index rfl rfl rfl rfl rfl (by omega) ?_))|refine o_head0 rfl ?_|refine o_end ?_|refine o_head1 rfl ?_|refine wp_seq ?_|refine o_region ?_|refine wp_block ?_|refine wp_skip ?_|refine wp_exit ?_|(refine w_condD rfl ?_ ?_<;>intro h)|(refine w_cond rfl ?_ ?_<;>intro h<;>try exact Bool.noConfusion h)|refine w_ret (S) (vs:=[_]) rfl (Res.tmp rfl Res.nil) ?_
  refine wp_loop (fun i t ds S' => ∃ (j : Nat) (t0 : Tm), i = xs.length - j ∧ j ≤ xs.length ∧ [] = ds ∧ S = S' ∧ t = den [(8, .int .i64 j), (7, .int .i64 xs.length), (6, .slice a xs.length cp), (1, .func (.func g) first cap), (0, .slice a xs.length cp)] t0 ∧ idxF p (xs.drop j) j = idxF p xs 0) xs.length ⟨0, _, rfl, Nat.zero_le _, rfl, rfl, keep ⟨rfl, rfl, rfl, rfl, rfl, trivial⟩, rfl⟩ ?_
  rintro i t ds S' ⟨j, t0, rfl, hj, rfl, rfl, rfl, hp⟩
  repeat' first|(refine gX ?_;first|refine o_v rfl rfl ?_|(refine gL ?_;first|refine o_load rfl rfl rfl rfl ?_|refine o_loadR rfl rfl rfl (by omega) rfl rfl ?_|refine o_loadW rfl rfl rfl rfl ?_|refine o_loadK rfl rfl rfl ?_)|(refine gB ?_;first|refine o_add rfl rfl rfl rfl (by omega) ?_)|(refine gC ?_;first|refine o_callvF rfl rfl rfl rfl (hg xs[j] (List.getElem_mem _)) ?_)|(refine gI ?_;first|refine o_indexS rfl rfl rfl rfl rfl rfl (by omega) ?_|refine o_index rfl rfl rfl rfl rfl (by omega) ?_))|refine o_head0 rfl ?_|refine o_end ?_|refine o_head1 rfl ?_|refine wp_seq ?_|refine o_region ?_|refine wp_block ?_|refine wp_skip ?_|refine wp_exit ?_|(refine w_condD rfl ?_ ?_<;>intro h)|(refine w_cond rfl ?_ ?_<;>intro h<;>try exact Bool.noConfusion h)|refine w_ret (S) (vs:=[_]) rfl (Res.tmp rfl Res.nil) ?_
  · rw [idxF_drop (by omega)] at hp
    simp_all [pack, iv]
  · rw [idxF_drop (by omega)] at hp
    exact ⟨xs.length - (j + 1), by omega, _, Sb.h, j + 1, _, rfl, by omega, rfl, rfl, keep ⟨rfl, rfl, rfl, rfl, rfl, trivial⟩, by simp_all⟩
  · have : j = xs.length := by omega
    subst this
    rw [← hp]; simp [idxF, pack, iv]
theorem c172 (E : Env) (S : Ents) (xs : List UseG) (v : Value) (g : Nat) (first cap : Array Value) (p : UseG → Bool) (hv : SlV S v xs) (hm : xs.length ≤ 17592186044416)
    (hg : ∀ x, x ∈ xs → CallW Tryz.prog E g (first ++ #[.agg (useC x)] ++ cap) S fun r S' => r = .bool (p x) ∧ S' = S) : CallW Tryz.prog E 172 #[v, .func (.func g) first cap] S fun r S' => r = .bool (xs.any p) ∧ S' = S := by
  refine call_in (args := [v, .func (.func g) first cap]) Tryz.func172 (by decide) rfl rfl ?_
  repeat' first|(refine gX ?_;first|refine o_v rfl rfl ?_|(refine gC ?_;first|refine o_callF rfl rfl rfl (c190 _ _ xs _ _ _ _ p hv hm hg) ?_))|refine o_head0 rfl ?_|refine o_end ?_|refine o_head1 rfl ?_|refine wp_seq ?_|refine o_region ?_|refine w_ret (S) (vs:=[_]) rfl (Res.tmp rfl Res.nil) ?_
  exact ⟨by rw [← idxF_any (i := 0)]; rfl, rfl⟩
theorem c191 (E : Env) (S : Ents) (xs : List ReadG) (v : Value) (g : Nat) (first cap : Array Value) (p : ReadG → Bool) (hv : SlV S v xs) (hm : xs.length ≤ 17592186044416)
    (hg : ∀ x, x ∈ xs → CallW Tryz.prog E g (first ++ #[.agg (readC x)] ++ cap) S fun r S' => r = .bool (p x) ∧ S' = S) : CallW Tryz.prog E 191 #[v, .func (.func g) first cap] S fun r S' => r = iv (idxF p xs 0) ∧ S' = S := by
  obtain ⟨a, cp, rfl, _, hr⟩ := hv
  have := SlI.mk hr
  refine call_in (args := [.slice a xs.length cp, .func (.func g) first cap]) Tryz.func191 (by decide) rfl rfl ?_
  repeat' first|(refine gX ?_;first|refine o_v rfl rfl ?_|(refine gL ?_;first|refine o_load rfl rfl rfl rfl ?_|refine o_loadR rfl rfl rfl (by omega) rfl rfl ?_|refine o_loadW rfl rfl rfl rfl ?_|refine o_loadK rfl rfl rfl ?_)|(refine gB ?_;first|refine o_add rfl rfl rfl rfl (by omega) ?_)|(refine gI ?_;first|refine o_indexS rfl rfl rfl rfl rfl rfl (by omega) ?_|refine o_index rfl rfl rfl rfl rfl (by omega) ?_))|refine o_head0 rfl ?_|refine o_end ?_|refine o_head1 rfl ?_|refine wp_seq ?_|refine o_region ?_|refine wp_block ?_|refine wp_skip ?_|refine wp_exit ?_|(refine w_condD rfl ?_ ?_<;>intro h)|(refine w_cond rfl ?_ ?_<;>intro h<;>try exact Bool.noConfusion h)|refine w_ret (S) (vs:=[_]) rfl (Res.tmp rfl Res.nil) ?_
  refine wp_loop (fun i t ds S' => ∃ (j : Nat) (t0 : Tm), i = xs.length - j ∧ j ≤ xs.length ∧ [] = ds ∧ S = S' ∧ t = den [(8, .int .i64 j), (7, .int .i64 xs.length), (6, .slice a xs.length cp), (1, .func (.func g) first cap), (0, .slice a xs.length cp)] t0 ∧ idxF p (xs.drop j) j = idxF p xs 0) xs.length ⟨0, _, rfl, Nat.zero_le _, rfl, rfl, keep ⟨rfl, rfl, rfl, rfl, rfl, trivial⟩, rfl⟩ ?_
  rintro i t ds S' ⟨j, t0, rfl, hj, rfl, rfl, rfl, hp⟩
  repeat' first|(refine gX ?_;first|refine o_v rfl rfl ?_|(refine gL ?_;first|refine o_load rfl rfl rfl rfl ?_|refine o_loadR rfl rfl rfl (by omega) rfl rfl ?_|refine o_loadW rfl rfl rfl rfl ?_|refine o_loadK rfl rfl rfl ?_)|(refine gB ?_;first|refine o_add rfl rfl rfl rfl (by omega) ?_)|(refine gC ?_;first|refine o_callvF rfl rfl rfl rfl (hg xs[j] (List.getElem_mem _)) ?_)|(refine gI ?_;first|refine o_indexS rfl rfl rfl rfl rfl rfl (by omega) ?_|refine o_index rfl rfl rfl rfl rfl (by omega) ?_))|refine o_head0 rfl ?_|refine o_end ?_|refine o_head1 rfl ?_|refine wp_seq ?_|refine o_region ?_|refine wp_block ?_|refine wp_skip ?_|refine wp_exit ?_|(refine w_condD rfl ?_ ?_<;>intro h)|(refine w_cond rfl ?_ ?_<;>intro h<;>try exact Bool.noConfusion h)|refine w_ret (S) (vs:=[_]) rfl (Res.tmp rfl Res.nil) ?_
  · rw [idxF_drop (by omega)] at hp
    simp_all [pack, iv]
  · rw [idxF_drop (by omega)] at hp
    exact ⟨xs.length - (j + 1), by omega, _, Sb.h, j + 1, _, rfl, by omega, rfl, rfl, keep ⟨rfl, rfl, rfl, rfl, rfl, trivial⟩, by simp_all⟩
  · have : j = xs.length := by omega
    subst this
    rw [← hp]; simp [idxF, pack, iv]
theorem c174 (E : Env) (S : Ents) (xs : List ReadG) (v : Value) (g : Nat) (first cap : Array Value) (p : ReadG → Bool) (hv : SlV S v xs) (hm : xs.length ≤ 17592186044416)
    (hg : ∀ x, x ∈ xs → CallW Tryz.prog E g (first ++ #[.agg (readC x)] ++ cap) S fun r S' => r = .bool (p x) ∧ S' = S) : CallW Tryz.prog E 174 #[v, .func (.func g) first cap] S fun r S' => r = .bool (xs.any p) ∧ S' = S := by
  refine call_in (args := [v, .func (.func g) first cap]) Tryz.func174 (by decide) rfl rfl ?_
  repeat' first|(refine gX ?_;first|refine o_v rfl rfl ?_|(refine gC ?_;first|refine o_callF rfl rfl rfl (c191 _ _ xs _ _ _ _ p hv hm hg) ?_))|refine o_head0 rfl ?_|refine o_end ?_|refine o_head1 rfl ?_|refine wp_seq ?_|refine o_region ?_|refine w_ret (S) (vs:=[_]) rfl (Res.tmp rfl Res.nil) ?_
  exact ⟨by rw [← idxF_any (i := 0)]; rfl, rfl⟩
theorem c192 (E : Env) (S : Ents) (xs : List FaultG) (v : Value) (g : Nat) (first cap : Array Value) (p : FaultG → Bool) (hv : SlV S v xs) (hm : xs.length ≤ 17592186044416)
    (hg : ∀ x, x ∈ xs → CallW Tryz.prog E g (first ++ #[.agg (faultC x)] ++ cap) S fun r S' => r = .bool (p x) ∧ S' = S) : CallW Tryz.prog E 192 #[v, .func (.func g) first cap] S fun r S' => r = iv (idxF p xs 0) ∧ S' = S := by
  obtain ⟨a, cp, rfl, _, hr⟩ := hv
  have := SlI.mk hr
  refine call_in (args := [.slice a xs.length cp, .func (.func g) first cap]) Tryz.func192 (by decide) rfl rfl ?_
  repeat' first|(refine gX ?_;first|refine o_v rfl rfl ?_|(refine gL ?_;first|refine o_load rfl rfl rfl rfl ?_|refine o_loadR rfl rfl rfl (by omega) rfl rfl ?_|refine o_loadW rfl rfl rfl rfl ?_|refine o_loadK rfl rfl rfl ?_)|(refine gB ?_;first|refine o_add rfl rfl rfl rfl (by omega) ?_)|(refine gI ?_;first|refine o_indexS rfl rfl rfl rfl rfl rfl (by omega) ?_|refine o_index rfl rfl rfl rfl rfl (by omega) ?_))|refine o_head0 rfl ?_|refine o_end ?_|refine o_head1 rfl ?_|refine wp_seq ?_|refine o_region ?_|refine wp_block ?_|refine wp_skip ?_|refine wp_exit ?_|(refine w_condD rfl ?_ ?_<;>intro h)|(refine w_cond rfl ?_ ?_<;>intro h<;>try exact Bool.noConfusion h)|refine w_ret (S) (vs:=[_]) rfl (Res.tmp rfl Res.nil) ?_
  refine wp_loop (fun i t ds S' => ∃ (j : Nat) (t0 : Tm), i = xs.length - j ∧ j ≤ xs.length ∧ [] = ds ∧ S = S' ∧ t = den [(8, .int .i64 j), (7, .int .i64 xs.length), (6, .slice a xs.length cp), (1, .func (.func g) first cap), (0, .slice a xs.length cp)] t0 ∧ idxF p (xs.drop j) j = idxF p xs 0) xs.length ⟨0, _, rfl, Nat.zero_le _, rfl, rfl, keep ⟨rfl, rfl, rfl, rfl, rfl, trivial⟩, rfl⟩ ?_
  rintro i t ds S' ⟨j, t0, rfl, hj, rfl, rfl, rfl, hp⟩
  repeat' first|(refine gX ?_;first|refine o_v rfl rfl ?_|(refine gL ?_;first|refine o_load rfl rfl rfl rfl ?_|refine o_loadR rfl rfl rfl (by omega) rfl rfl ?_|refine o_loadW rfl rfl rfl rfl ?_|refine o_loadK rfl rfl rfl ?_)|(refine gB ?_;first|refine o_add rfl rfl rfl rfl (by omega) ?_)|(refine gC ?_;first|refine o_callvF rfl rfl rfl rfl (hg xs[j] (List.getElem_mem _)) ?_)|(refine gI ?_;first|refine o_indexS rfl rfl rfl rfl rfl rfl (by omega) ?_|refine o_index rfl rfl rfl rfl rfl (by omega) ?_))|refine o_head0 rfl ?_|refine o_end ?_|refine o_head1 rfl ?_|refine wp_seq ?_|refine o_region ?_|refine wp_block ?_|refine wp_skip ?_|refine wp_exit ?_|(refine w_condD rfl ?_ ?_<;>intro h)|(refine w_cond rfl ?_ ?_<;>intro h<;>try exact Bool.noConfusion h)|refine w_ret (S) (vs:=[_]) rfl (Res.tmp rfl Res.nil) ?_
  · rw [idxF_drop (by omega)] at hp
    simp_all [pack, iv]
  · rw [idxF_drop (by omega)] at hp
    exact ⟨xs.length - (j + 1), by omega, _, Sb.h, j + 1, _, rfl, by omega, rfl, rfl, keep ⟨rfl, rfl, rfl, rfl, rfl, trivial⟩, by simp_all⟩
  · have : j = xs.length := by omega
    subst this
    rw [← hp]; simp [idxF, pack, iv]
theorem c176 (E : Env) (S : Ents) (xs : List FaultG) (v : Value) (g : Nat) (first cap : Array Value) (p : FaultG → Bool) (hv : SlV S v xs) (hm : xs.length ≤ 17592186044416)
    (hg : ∀ x, x ∈ xs → CallW Tryz.prog E g (first ++ #[.agg (faultC x)] ++ cap) S fun r S' => r = .bool (p x) ∧ S' = S) : CallW Tryz.prog E 176 #[v, .func (.func g) first cap] S fun r S' => r = .bool (xs.any p) ∧ S' = S := by
  refine call_in (args := [v, .func (.func g) first cap]) Tryz.func176 (by decide) rfl rfl ?_
  repeat' first|(refine gX ?_;first|refine o_v rfl rfl ?_|(refine gC ?_;first|refine o_callF rfl rfl rfl (c192 _ _ xs _ _ _ _ p hv hm hg) ?_))|refine o_head0 rfl ?_|refine o_end ?_|refine o_head1 rfl ?_|refine wp_seq ?_|refine o_region ?_|refine w_ret (S) (vs:=[_]) rfl (Res.tmp rfl Res.nil) ?_
  exact ⟨by rw [← idxF_any (i := 0)]; rfl, rfl⟩
theorem c193 (E : Env) (S : Ents) (xs : List PriceG) (v : Value) (g : Nat) (first cap : Array Value) (p : PriceG → Bool) (hv : SlV S v xs) (hm : xs.length ≤ 17592186044416)
    (hg : ∀ x, x ∈ xs → CallW Tryz.prog E g (first ++ #[.agg (priceC x)] ++ cap) S fun r S' => r = .bool (p x) ∧ S' = S) : CallW Tryz.prog E 193 #[v, .func (.func g) first cap] S fun r S' => r = iv (idxF p xs 0) ∧ S' = S := by
  obtain ⟨a, cp, rfl, _, hr⟩ := hv
  have := SlI.mk hr
  refine call_in (args := [.slice a xs.length cp, .func (.func g) first cap]) Tryz.func193 (by decide) rfl rfl ?_
  repeat' first|(refine gX ?_;first|refine o_v rfl rfl ?_|(refine gL ?_;first|refine o_load rfl rfl rfl rfl ?_|refine o_loadR rfl rfl rfl (by omega) rfl rfl ?_|refine o_loadW rfl rfl rfl rfl ?_|refine o_loadK rfl rfl rfl ?_)|(refine gB ?_;first|refine o_add rfl rfl rfl rfl (by omega) ?_)|(refine gI ?_;first|refine o_indexS rfl rfl rfl rfl rfl rfl (by omega) ?_|refine o_index rfl rfl rfl rfl rfl (by omega) ?_))|refine o_head0 rfl ?_|refine o_end ?_|refine o_head1 rfl ?_|refine wp_seq ?_|refine o_region ?_|refine wp_block ?_|refine wp_skip ?_|refine wp_exit ?_|(refine w_condD rfl ?_ ?_<;>intro h)|(refine w_cond rfl ?_ ?_<;>intro h<;>try exact Bool.noConfusion h)|refine w_ret (S) (vs:=[_]) rfl (Res.tmp rfl Res.nil) ?_
  refine wp_loop (fun i t ds S' => ∃ (j : Nat) (t0 : Tm), i = xs.length - j ∧ j ≤ xs.length ∧ [] = ds ∧ S = S' ∧ t = den [(8, .int .i64 j), (7, .int .i64 xs.length), (6, .slice a xs.length cp), (1, .func (.func g) first cap), (0, .slice a xs.length cp)] t0 ∧ idxF p (xs.drop j) j = idxF p xs 0) xs.length ⟨0, _, rfl, Nat.zero_le _, rfl, rfl, keep ⟨rfl, rfl, rfl, rfl, rfl, trivial⟩, rfl⟩ ?_
  rintro i t ds S' ⟨j, t0, rfl, hj, rfl, rfl, rfl, hp⟩
  repeat' first|(refine gX ?_;first|refine o_v rfl rfl ?_|(refine gL ?_;first|refine o_load rfl rfl rfl rfl ?_|refine o_loadR rfl rfl rfl (by omega) rfl rfl ?_|refine o_loadW rfl rfl rfl rfl ?_|refine o_loadK rfl rfl rfl ?_)|(refine gB ?_;first|refine o_add rfl rfl rfl rfl (by omega) ?_)|(refine gC ?_;first|refine o_callvF rfl rfl rfl rfl (hg xs[j] (List.getElem_mem _)) ?_)|(refine gI ?_;first|refine o_indexS rfl rfl rfl rfl rfl rfl (by omega) ?_|refine o_index rfl rfl rfl rfl rfl (by omega) ?_))|refine o_head0 rfl ?_|refine o_end ?_|refine o_head1 rfl ?_|refine wp_seq ?_|refine o_region ?_|refine wp_block ?_|refine wp_skip ?_|refine wp_exit ?_|(refine w_condD rfl ?_ ?_<;>intro h)|(refine w_cond rfl ?_ ?_<;>intro h<;>try exact Bool.noConfusion h)|refine w_ret (S) (vs:=[_]) rfl (Res.tmp rfl Res.nil) ?_
  · rw [idxF_drop (by omega)] at hp
    simp_all [pack, iv]
  · rw [idxF_drop (by omega)] at hp
    exact ⟨xs.length - (j + 1), by omega, _, Sb.h, j + 1, _, rfl, by omega, rfl, rfl, keep ⟨rfl, rfl, rfl, rfl, rfl, trivial⟩, by simp_all⟩
  · have : j = xs.length := by omega
    subst this
    rw [← hp]; simp [idxF, pack, iv]
theorem c178 (E : Env) (S : Ents) (xs : List PriceG) (v : Value) (g : Nat) (first cap : Array Value) (p : PriceG → Bool) (hv : SlV S v xs) (hm : xs.length ≤ 17592186044416)
    (hg : ∀ x, x ∈ xs → CallW Tryz.prog E g (first ++ #[.agg (priceC x)] ++ cap) S fun r S' => r = .bool (p x) ∧ S' = S) : CallW Tryz.prog E 178 #[v, .func (.func g) first cap] S fun r S' => r = .bool (xs.any p) ∧ S' = S := by
  refine call_in (args := [v, .func (.func g) first cap]) Tryz.func178 (by decide) rfl rfl ?_
  repeat' first|(refine gX ?_;first|refine o_v rfl rfl ?_|(refine gC ?_;first|refine o_callF rfl rfl rfl (c193 _ _ xs _ _ _ _ p hv hm hg) ?_))|refine o_head0 rfl ?_|refine o_end ?_|refine o_head1 rfl ?_|refine wp_seq ?_|refine o_region ?_|refine w_ret (S) (vs:=[_]) rfl (Res.tmp rfl Res.nil) ?_
  exact ⟨by rw [← idxF_any (i := 0)]; rfl, rfl⟩
theorem c171 (E : Env) (S : Ents) (x : MainG) (b : Nat) (mn : Bool) (h : InS b S mn (.cells #[.func (.func 61) #[] #[]] 115 (0, 0))) : CallW Tryz.prog E 171 #[.agg (mainC x), .pointer (some ⟨b, 0, none⟩)] S fun r S' => r = .bool (!mainOk x) ∧ S' = S := by
  refine call_in (args := [.agg (mainC x), .pointer (some ⟨b, 0, none⟩)]) Tryz.func171 (by decide) rfl rfl ?_
  repeat' first|(refine gX ?_;first|refine o_v rfl rfl ?_|(refine gL ?_;first|refine o_load rfl rfl rfl rfl ?_|refine o_loadR rfl rfl rfl (by omega) rfl rfl ?_|refine o_loadW rfl rfl rfl rfl ?_|refine o_loadK rfl rfl rfl ?_)|(refine gC ?_;first|refine o_callvF rfl rfl rfl rfl (c61 _ _ x) ?_)|(refine o_box rfl rfl rfl ?_;intro _))|refine o_head0 rfl ?_|refine o_end ?_|refine o_head1 rfl ?_|refine wp_seq ?_|refine o_region ?_|refine w_ret (S) (vs:=[_]) rfl (Res.tmp rfl Res.nil) ?_
  refine ⟨?_, rfl⟩
  cases mainOk x <;> rfl
theorem c133 (E : Env) (S : Ents) (xs : List MainG) (v : Value) (hv : SlV S v xs) (hm : xs.length ≤ 17592186044416) :
    CallW Tryz.prog E 133 #[v, iv 12, .func (.func 61) #[] #[]] S fun r S' => r = .bool (lenAll 12 mainOk xs) ∧ S' = S := by
  obtain ⟨a, cp, rfl, h1, hr⟩ := hv
  refine call_in (args := [.slice a xs.length cp, iv 12, .func (.func 61) #[] #[]]) Tryz.func133 (by decide) rfl rfl ?_
  repeat' first|(refine gX ?_;first|refine o_v rfl rfl ?_|(refine o_splitD rfl rfl rfl ?_ ?_<;>intro h)|(refine o_split rfl rfl rfl ?_ ?_<;>intro h<;>fail_if_success exact Bool.noConfusion h)|(refine gC ?_;first|refine o_callF rfl rfl rfl (c170 _ _ xs _ 171 #[] _ (fun x => !mainOk x) (SlV.cons ⟨a, cp, rfl, h1, hr⟩) hm (fun x _ => c171 _ _ x _ true inferInstance)) ?_)|(refine o_box rfl rfl rfl ?_;intro _)|refine o_skip rfl rfl ?_|refine o_skipN rfl rfl ?_|(refine o_splitP rfl ?_ ?_<;>intro h<;>fail_if_success exact Bool.noConfusion h))|refine o_head0 rfl ?_|refine o_end ?_|refine o_head1 rfl ?_|refine wp_seq ?_|refine o_region ?_|refine w_ret (S) (vs:=[_]) rfl (Res.tmp rfl Res.nil) ?_
  · refine ⟨?_, rfl⟩
    simp [pack, lenAll, List.all_eq_not_any_not, show xs.length ≤ 12 by omega]
  · refine ⟨?_, rfl⟩
    simp [pack, lenAll, show ¬ xs.length ≤ 12 by omega]
theorem c173 (E : Env) (S : Ents) (x : UseG) (b : Nat) (mn : Bool) (h : InS b S mn (.cells #[.func (.func 63) #[] #[]] 116 (0, 0))) : CallW Tryz.prog E 173 #[.agg (useC x), .pointer (some ⟨b, 0, none⟩)] S fun r S' => r = .bool (!useOk x) ∧ S' = S := by
  refine call_in (args := [.agg (useC x), .pointer (some ⟨b, 0, none⟩)]) Tryz.func173 (by decide) rfl rfl ?_
  repeat' first|(refine gX ?_;first|refine o_v rfl rfl ?_|(refine gL ?_;first|refine o_load rfl rfl rfl rfl ?_|refine o_loadR rfl rfl rfl (by omega) rfl rfl ?_|refine o_loadW rfl rfl rfl rfl ?_|refine o_loadK rfl rfl rfl ?_)|(refine gC ?_;first|refine o_callvF rfl rfl rfl rfl (c63 _ _ x) ?_)|(refine o_box rfl rfl rfl ?_;intro _))|refine o_head0 rfl ?_|refine o_end ?_|refine o_head1 rfl ?_|refine wp_seq ?_|refine o_region ?_|refine w_ret (S) (vs:=[_]) rfl (Res.tmp rfl Res.nil) ?_
  refine ⟨?_, rfl⟩
  cases useOk x <;> rfl
theorem c134 (E : Env) (S : Ents) (xs : List UseG) (v : Value) (hv : SlV S v xs) (hm : xs.length ≤ 17592186044416) :
    CallW Tryz.prog E 134 #[v, iv 60, .func (.func 63) #[] #[]] S fun r S' => r = .bool (lenAll 60 useOk xs) ∧ S' = S := by
  obtain ⟨a, cp, rfl, h1, hr⟩ := hv
  refine call_in (args := [.slice a xs.length cp, iv 60, .func (.func 63) #[] #[]]) Tryz.func134 (by decide) rfl rfl ?_
  repeat' first|(refine gX ?_;first|refine o_v rfl rfl ?_|(refine o_splitD rfl rfl rfl ?_ ?_<;>intro h)|(refine o_split rfl rfl rfl ?_ ?_<;>intro h<;>fail_if_success exact Bool.noConfusion h)|(refine gC ?_;first|refine o_callF rfl rfl rfl (c172 _ _ xs _ 173 #[] _ (fun x => !useOk x) (SlV.cons ⟨a, cp, rfl, h1, hr⟩) hm (fun x _ => c173 _ _ x _ true inferInstance)) ?_)|(refine o_box rfl rfl rfl ?_;intro _)|refine o_skip rfl rfl ?_|refine o_skipN rfl rfl ?_|(refine o_splitP rfl ?_ ?_<;>intro h<;>fail_if_success exact Bool.noConfusion h))|refine o_head0 rfl ?_|refine o_end ?_|refine o_head1 rfl ?_|refine wp_seq ?_|refine o_region ?_|refine w_ret (S) (vs:=[_]) rfl (Res.tmp rfl Res.nil) ?_
  · refine ⟨?_, rfl⟩
    simp [pack, lenAll, List.all_eq_not_any_not, show xs.length ≤ 60 by omega]
  · refine ⟨?_, rfl⟩
    simp [pack, lenAll, show ¬ xs.length ≤ 60 by omega]
theorem c175 (E : Env) (S : Ents) (x : ReadG) (b : Nat) (mn : Bool) (h : InS b S mn (.cells #[.func (.func 65) #[] #[]] 117 (0, 0))) : CallW Tryz.prog E 175 #[.agg (readC x), .pointer (some ⟨b, 0, none⟩)] S fun r S' => r = .bool (!readOk x) ∧ S' = S := by
  refine call_in (args := [.agg (readC x), .pointer (some ⟨b, 0, none⟩)]) Tryz.func175 (by decide) rfl rfl ?_
  repeat' first|(refine gX ?_;first|refine o_v rfl rfl ?_|(refine gL ?_;first|refine o_load rfl rfl rfl rfl ?_|refine o_loadR rfl rfl rfl (by omega) rfl rfl ?_|refine o_loadW rfl rfl rfl rfl ?_|refine o_loadK rfl rfl rfl ?_)|(refine gC ?_;first|refine o_callvF rfl rfl rfl rfl (c65 _ _ x) ?_)|(refine o_box rfl rfl rfl ?_;intro _))|refine o_head0 rfl ?_|refine o_end ?_|refine o_head1 rfl ?_|refine wp_seq ?_|refine o_region ?_|refine w_ret (S) (vs:=[_]) rfl (Res.tmp rfl Res.nil) ?_
  refine ⟨?_, rfl⟩
  cases readOk x <;> rfl
theorem c135 (E : Env) (S : Ents) (xs : List ReadG) (v : Value) (hv : SlV S v xs) (hm : xs.length ≤ 17592186044416) :
    CallW Tryz.prog E 135 #[v, iv 60, .func (.func 65) #[] #[]] S fun r S' => r = .bool (lenAll 60 readOk xs) ∧ S' = S := by
  obtain ⟨a, cp, rfl, h1, hr⟩ := hv
  refine call_in (args := [.slice a xs.length cp, iv 60, .func (.func 65) #[] #[]]) Tryz.func135 (by decide) rfl rfl ?_
  repeat' first|(refine gX ?_;first|refine o_v rfl rfl ?_|(refine o_splitD rfl rfl rfl ?_ ?_<;>intro h)|(refine o_split rfl rfl rfl ?_ ?_<;>intro h<;>fail_if_success exact Bool.noConfusion h)|(refine gC ?_;first|refine o_callF rfl rfl rfl (c174 _ _ xs _ 175 #[] _ (fun x => !readOk x) (SlV.cons ⟨a, cp, rfl, h1, hr⟩) hm (fun x _ => c175 _ _ x _ true inferInstance)) ?_)|(refine o_box rfl rfl rfl ?_;intro _)|refine o_skip rfl rfl ?_|refine o_skipN rfl rfl ?_|(refine o_splitP rfl ?_ ?_<;>intro h<;>fail_if_success exact Bool.noConfusion h))|refine o_head0 rfl ?_|refine o_end ?_|refine o_head1 rfl ?_|refine wp_seq ?_|refine o_region ?_|refine w_ret (S) (vs:=[_]) rfl (Res.tmp rfl Res.nil) ?_
  · refine ⟨?_, rfl⟩
    simp [pack, lenAll, List.all_eq_not_any_not, show xs.length ≤ 60 by omega]
  · refine ⟨?_, rfl⟩
    simp [pack, lenAll, show ¬ xs.length ≤ 60 by omega]
theorem c177 (E : Env) (S : Ents) (x : FaultG) (b : Nat) (mn : Bool) (h : InS b S mn (.cells #[.func (.func 67) #[] #[]] 118 (0, 0))) : CallW Tryz.prog E 177 #[.agg (faultC x), .pointer (some ⟨b, 0, none⟩)] S fun r S' => r = .bool (!faultOk x) ∧ S' = S := by
  refine call_in (args := [.agg (faultC x), .pointer (some ⟨b, 0, none⟩)]) Tryz.func177 (by decide) rfl rfl ?_
  repeat' first|(refine gX ?_;first|refine o_v rfl rfl ?_|(refine gL ?_;first|refine o_load rfl rfl rfl rfl ?_|refine o_loadR rfl rfl rfl (by omega) rfl rfl ?_|refine o_loadW rfl rfl rfl rfl ?_|refine o_loadK rfl rfl rfl ?_)|(refine gC ?_;first|refine o_callvF rfl rfl rfl rfl (c67 _ _ x) ?_)|(refine o_box rfl rfl rfl ?_;intro _))|refine o_head0 rfl ?_|refine o_end ?_|refine o_head1 rfl ?_|refine wp_seq ?_|refine o_region ?_|refine w_ret (S) (vs:=[_]) rfl (Res.tmp rfl Res.nil) ?_
  refine ⟨?_, rfl⟩
  cases faultOk x <;> rfl
theorem c136 (E : Env) (S : Ents) (xs : List FaultG) (v : Value) (hv : SlV S v xs) (hm : xs.length ≤ 17592186044416) :
    CallW Tryz.prog E 136 #[v, iv 60, .func (.func 67) #[] #[]] S fun r S' => r = .bool (lenAll 60 faultOk xs) ∧ S' = S := by
  obtain ⟨a, cp, rfl, h1, hr⟩ := hv
  refine call_in (args := [.slice a xs.length cp, iv 60, .func (.func 67) #[] #[]]) Tryz.func136 (by decide) rfl rfl ?_
  repeat' first|(refine gX ?_;first|refine o_v rfl rfl ?_|(refine o_splitD rfl rfl rfl ?_ ?_<;>intro h)|(refine o_split rfl rfl rfl ?_ ?_<;>intro h<;>fail_if_success exact Bool.noConfusion h)|(refine gC ?_;first|refine o_callF rfl rfl rfl (c176 _ _ xs _ 177 #[] _ (fun x => !faultOk x) (SlV.cons ⟨a, cp, rfl, h1, hr⟩) hm (fun x _ => c177 _ _ x _ true inferInstance)) ?_)|(refine o_box rfl rfl rfl ?_;intro _)|refine o_skip rfl rfl ?_|refine o_skipN rfl rfl ?_|(refine o_splitP rfl ?_ ?_<;>intro h<;>fail_if_success exact Bool.noConfusion h))|refine o_head0 rfl ?_|refine o_end ?_|refine o_head1 rfl ?_|refine wp_seq ?_|refine o_region ?_|refine w_ret (S) (vs:=[_]) rfl (Res.tmp rfl Res.nil) ?_
  · refine ⟨?_, rfl⟩
    simp [pack, lenAll, List.all_eq_not_any_not, show xs.length ≤ 60 by omega]
  · refine ⟨?_, rfl⟩
    simp [pack, lenAll, show ¬ xs.length ≤ 60 by omega]
theorem c179 (E : Env) (S : Ents) (x : PriceG) (b : Nat) (mn : Bool) (h : InS b S mn (.cells #[.func (.func 69) #[] #[]] 119 (0, 0))) : CallW Tryz.prog E 179 #[.agg (priceC x), .pointer (some ⟨b, 0, none⟩)] S fun r S' => r = .bool (!priceOk x) ∧ S' = S := by
  refine call_in (args := [.agg (priceC x), .pointer (some ⟨b, 0, none⟩)]) Tryz.func179 (by decide) rfl rfl ?_
  repeat' first|(refine gX ?_;first|refine o_v rfl rfl ?_|(refine gL ?_;first|refine o_load rfl rfl rfl rfl ?_|refine o_loadR rfl rfl rfl (by omega) rfl rfl ?_|refine o_loadW rfl rfl rfl rfl ?_|refine o_loadK rfl rfl rfl ?_)|(refine gC ?_;first|refine o_callvF rfl rfl rfl rfl (c69 _ _ x) ?_)|(refine o_box rfl rfl rfl ?_;intro _))|refine o_head0 rfl ?_|refine o_end ?_|refine o_head1 rfl ?_|refine wp_seq ?_|refine o_region ?_|refine w_ret (S) (vs:=[_]) rfl (Res.tmp rfl Res.nil) ?_
  refine ⟨?_, rfl⟩
  cases priceOk x <;> rfl
theorem c137 (E : Env) (S : Ents) (xs : List PriceG) (v : Value) (hv : SlV S v xs) (hm : xs.length ≤ 17592186044416) :
    CallW Tryz.prog E 137 #[v, iv 10, .func (.func 69) #[] #[]] S fun r S' => r = .bool (lenAll 10 priceOk xs) ∧ S' = S := by
  obtain ⟨a, cp, rfl, h1, hr⟩ := hv
  refine call_in (args := [.slice a xs.length cp, iv 10, .func (.func 69) #[] #[]]) Tryz.func137 (by decide) rfl rfl ?_
  repeat' first|(refine gX ?_;first|refine o_v rfl rfl ?_|(refine o_splitD rfl rfl rfl ?_ ?_<;>intro h)|(refine o_split rfl rfl rfl ?_ ?_<;>intro h<;>fail_if_success exact Bool.noConfusion h)|(refine gC ?_;first|refine o_callF rfl rfl rfl (c178 _ _ xs _ 179 #[] _ (fun x => !priceOk x) (SlV.cons ⟨a, cp, rfl, h1, hr⟩) hm (fun x _ => c179 _ _ x _ true inferInstance)) ?_)|(refine o_box rfl rfl rfl ?_;intro _)|refine o_skip rfl rfl ?_|refine o_skipN rfl rfl ?_|(refine o_splitP rfl ?_ ?_<;>intro h<;>fail_if_success exact Bool.noConfusion h))|refine o_head0 rfl ?_|refine o_end ?_|refine o_head1 rfl ?_|refine wp_seq ?_|refine o_region ?_|refine w_ret (S) (vs:=[_]) rfl (Res.tmp rfl Res.nil) ?_
  · refine ⟨?_, rfl⟩
    simp [pack, lenAll, List.all_eq_not_any_not, show xs.length ≤ 10 by omega]
  · refine ⟨?_, rfl⟩
    simp [pack, lenAll, show ¬ xs.length ≤ 10 by omega]
theorem c152 (E : Env) (S : Ents) (x : MainG) (id : Int) (b : Nat) (mn : Bool) (h : InS b S mn (.cells #[iv id] 3 (0, 0))) : CallW Tryz.prog E 152 #[.agg (mainC x), .pointer (some ⟨b, 0, none⟩)] S fun r S' => r = .bool (x.id == id) ∧ S' = S := by
  refine call_in (args := [.agg (mainC x), .pointer (some ⟨b, 0, none⟩)]) Tryz.func152 (by decide) rfl rfl ?_
  repeat' first|(refine gX ?_;first|refine o_v rfl rfl ?_|(refine gL ?_;first|refine o_load rfl rfl rfl rfl ?_|refine o_loadR rfl rfl rfl (by omega) rfl rfl ?_|refine o_loadW rfl rfl rfl rfl ?_|refine o_loadK rfl rfl rfl ?_)|(refine gF ?_;first|refine o_fieldI rfl rfl rfl rfl ?_|refine o_field rfl rfl rfl rfl ?_)|(refine gB ?_;first|refine o_eqNil rfl rfl rfl rfl rfl ?_)|(refine o_box rfl rfl rfl ?_;intro _))|refine o_head0 rfl ?_|refine o_end ?_|refine o_head1 rfl ?_|refine wp_seq ?_|refine o_region ?_|refine w_ret (S) (vs:=[_]) rfl (Res.tmp rfl Res.nil) ?_
  exact ⟨rfl, rfl⟩
def placeF (n : NetG) (id : Int) : Int := idxF (fun x : MainG => x.id == id) n.mains 0
theorem c87 (E : Env) (S : Ents) (n : NetG) (a b c d e : Value) (id : Int) (hn : NetV S a b c d e n) : CallW Tryz.prog E 87 #[.agg #[a, b, c, d, e], iv id] S fun r S' => r = iv (placeF n id) ∧ S' = S := by
  refine call_in (args := [.agg #[a, b, c, d, e], iv id]) Tryz.func87 (by decide) rfl rfl ?_
  repeat' first|(refine gX ?_;first|refine o_v rfl rfl ?_|(refine gL ?_;first|refine o_load rfl rfl rfl rfl ?_|refine o_loadR rfl rfl rfl (by omega) rfl rfl ?_|refine o_loadW rfl rfl rfl rfl ?_|refine o_loadK rfl rfl rfl ?_)|(refine gF ?_;first|refine o_fieldI rfl rfl rfl rfl ?_|refine o_field rfl rfl rfl rfl ?_)|(refine gC ?_;first|refine o_callF rfl rfl rfl (c151 _ _ n.mains _ 152 #[] _ (fun x => x.id == id) hn.mains.cons.cons hn.mains_le (fun x _ => c152 _ _ x id _ true inferInstance)) ?_)|(refine o_box rfl rfl rfl ?_;intro _))|refine o_head0 rfl ?_|refine o_end ?_|refine o_head1 rfl ?_|refine wp_seq ?_|refine o_region ?_|refine w_ret (S) (vs:=[_]) rfl (Res.tmp rfl Res.nil) ?_
  exact ⟨rfl, rfl⟩
theorem c150 (E : Env) (S : Ents) (xs : List Int) (v : Value) (y : Int) (hv : SlV S v xs) (hm : xs.length ≤ 17592186044416) : CallW Tryz.prog E 150 #[v, iv y] S fun r S' => r = iv (idxF (y == ·) xs 0) ∧ S' = S := by
  obtain ⟨a, cp, rfl, _, hr⟩ := hv
  have := SlI.mk hr
  refine call_in (args := [.slice a xs.length cp, iv y]) Tryz.func150 (by decide) rfl rfl ?_
  repeat' first|(refine gX ?_;first|refine o_v rfl rfl ?_|(refine gL ?_;first|refine o_load rfl rfl rfl rfl ?_|refine o_loadR rfl rfl rfl (by omega) rfl rfl ?_|refine o_loadW rfl rfl rfl rfl ?_|refine o_loadK rfl rfl rfl ?_)|(refine gB ?_;first|refine o_add rfl rfl rfl rfl (by omega) ?_|refine o_eqNil rfl rfl rfl rfl rfl ?_)|(refine gI ?_;first|refine o_indexS rfl rfl rfl rfl rfl rfl (by omega) ?_|refine o_index rfl rfl rfl rfl rfl (by omega) ?_))|refine o_head0 rfl ?_|refine o_end ?_|refine o_head1 rfl ?_|refine wp_seq ?_|refine o_region ?_|refine wp_block ?_|refine wp_skip ?_|refine wp_exit ?_|(refine w_condD rfl ?_ ?_<;>intro h)|(refine w_cond rfl ?_ ?_<;>intro h<;>try exact Bool.noConfusion h)|refine w_ret (S) (vs:=[_]) rfl (Res.tmp rfl Res.nil) ?_
  refine wp_loop (fun i t ds S' => ∃ (j : Nat) (t0 : Tm), i = xs.length - j ∧ j ≤ xs.length ∧ [] = ds ∧ S = S' ∧ t = den [(8, .int .i64 j), (7, .int .i64 xs.length), (6, .slice a xs.length cp), (1, iv y), (0, .slice a xs.length cp)] t0 ∧ idxF (y == ·) (xs.drop j) j = idxF (y == ·) xs 0) xs.length ⟨0, _, rfl, Nat.zero_le _, rfl, rfl, keep ⟨rfl, rfl, rfl, rfl, rfl, trivial⟩, rfl⟩ ?_
  rintro i t ds S' ⟨j, t0, rfl, hj, rfl, rfl, rfl, hp⟩
  repeat' first|(refine gX ?_;first|refine o_v rfl rfl ?_|(refine gL ?_;first|refine o_load rfl rfl rfl rfl ?_|refine o_loadR rfl rfl rfl (by omega) rfl rfl ?_|refine o_loadW rfl rfl rfl rfl ?_|refine o_loadK rfl rfl rfl ?_)|(refine gB ?_;first|refine o_add rfl rfl rfl rfl (by omega) ?_|refine o_eqNil rfl rfl rfl rfl rfl ?_)|(refine gI ?_;first|refine o_indexS rfl rfl rfl rfl rfl rfl (by omega) ?_|refine o_index rfl rfl rfl rfl rfl (by omega) ?_))|refine o_head0 rfl ?_|refine o_end ?_|refine o_head1 rfl ?_|refine wp_seq ?_|refine o_region ?_|refine wp_block ?_|refine wp_skip ?_|refine wp_exit ?_|(refine w_condD rfl ?_ ?_<;>intro h)|(refine w_cond rfl ?_ ?_<;>intro h<;>try exact Bool.noConfusion h)|refine w_ret (S) (vs:=[_]) rfl (Res.tmp rfl Res.nil) ?_
  · rw [idxF_drop (by omega)] at hp
    simp_all [pack, iv]
  · rw [idxF_drop (by omega)] at hp
    exact ⟨xs.length - (j + 1), by omega, _, Sb.h, j + 1, _, rfl, by omega, rfl, rfl, keep ⟨rfl, rfl, rfl, rfl, rfl, trivial⟩, by simp_all⟩
  · have : j = xs.length := by omega
    subst this
    rw [← hp]; simp [idxF, pack, iv]
theorem c84 (E : Env) (S : Ents) (xs : List Int) (v : Value) (y : Int) (hv : SlV S v xs) (hm : xs.length ≤ 17592186044416) : CallW Tryz.prog E 84 #[v, iv y] S fun r S' => r = .bool (xs.contains y) ∧ S' = S := by
  refine call_in (args := [v, iv y]) Tryz.func84 (by decide) rfl rfl ?_
  repeat' first|(refine gX ?_;first|refine o_v rfl rfl ?_|(refine gC ?_;first|refine o_callF rfl rfl rfl (c150 _ _ xs _ _ hv hm) ?_))|refine o_head0 rfl ?_|refine o_end ?_|refine o_head1 rfl ?_|refine wp_seq ?_|refine o_region ?_|refine w_ret (S) (vs:=[_]) rfl (Res.tmp rfl Res.nil) ?_
  exact ⟨by rw [List.contains_eq_any_beq, ← idxF_any (i := 0)]; rfl, rfl⟩
theorem c33 (E : Env) (S : Ents) (xs : List Int) (v : Value) (y : Int) (hv : SlV S v xs) (hm : xs.length ≤ 17592186044416) : CallW Tryz.prog E 33 #[v, iv y] S fun r S' => r = .bool (xs.contains y) ∧ S' = S := by
  obtain ⟨a, cp, rfl, _, hr⟩ := hv
  have := SlI.mk hr
  refine call_in (args := [.slice a xs.length cp, iv y]) Tryz.func33 (by decide) rfl rfl ?_
  repeat' first|(refine gX ?_;first|refine o_v rfl rfl ?_|(refine gL ?_;first|refine o_load rfl rfl rfl rfl ?_|refine o_loadR rfl rfl rfl (by omega) rfl rfl ?_|refine o_loadW rfl rfl rfl rfl ?_|refine o_loadK rfl rfl rfl ?_)|(refine gB ?_;first|refine o_add rfl rfl rfl rfl (by omega) ?_|refine o_eqNil rfl rfl rfl rfl rfl ?_)|(refine gI ?_;first|refine o_indexS rfl rfl rfl rfl rfl rfl (by omega) ?_|refine o_index rfl rfl rfl rfl rfl (by omega) ?_))|refine o_head0 rfl ?_|refine o_end ?_|refine o_head1 rfl ?_|refine wp_seq ?_|refine o_region ?_|refine wp_block ?_|refine wp_skip ?_|refine wp_exit ?_|(refine w_condD rfl ?_ ?_<;>intro h)|(refine w_cond rfl ?_ ?_<;>intro h<;>try exact Bool.noConfusion h)|refine w_ret (S) (vs:=[_]) rfl (Res.tmp rfl Res.nil) ?_
  refine wp_loop (fun i t ds S' => ∃ (j : Nat) (t0 : Tm), i = xs.length - j ∧ j ≤ xs.length ∧ [] = ds ∧ S = S' ∧ t = den [(9, .int .i64 j), (8, .int .i64 xs.length), (7, .slice a xs.length cp), (1, iv y)] t0 ∧ (xs.drop j).contains y = xs.contains y) xs.length ⟨0, _, rfl, Nat.zero_le _, rfl, rfl, keep ⟨rfl, rfl, rfl, rfl, trivial⟩, rfl⟩ ?_
  rintro i t ds S' ⟨j, t0, rfl, hj, rfl, rfl, rfl, hp⟩
  repeat' first|(refine gX ?_;first|refine o_v rfl rfl ?_|(refine gL ?_;first|refine o_load rfl rfl rfl rfl ?_|refine o_loadR rfl rfl rfl (by omega) rfl rfl ?_|refine o_loadW rfl rfl rfl rfl ?_|refine o_loadK rfl rfl rfl ?_)|(refine gB ?_;first|refine o_add rfl rfl rfl rfl (by omega) ?_|refine o_eqNil rfl rfl rfl rfl rfl ?_)|(refine gI ?_;first|refine o_indexS rfl rfl rfl rfl rfl rfl (by omega) ?_|refine o_index rfl rfl rfl rfl rfl (by omega) ?_))|refine o_head0 rfl ?_|refine o_end ?_|refine o_head1 rfl ?_|refine wp_seq ?_|refine o_region ?_|refine wp_block ?_|refine wp_skip ?_|refine wp_exit ?_|(refine w_condD rfl ?_ ?_<;>intro h)|(refine w_cond rfl ?_ ?_<;>intro h<;>try exact Bool.noConfusion h)|refine w_ret (S) (vs:=[_]) rfl (Res.tmp rfl Res.nil) ?_
  · rw [List.drop_eq_getElem_cons (by omega), List.contains_cons] at hp
    simp_all [pack, iv]
  · rw [List.drop_eq_getElem_cons (by omega), List.contains_cons] at hp
    exact ⟨xs.length - (j + 1), by omega, _, Sb.h, j + 1, _, rfl, by omega, rfl, rfl, keep ⟨rfl, rfl, rfl, rfl, trivial⟩, by rw [← hp]; simp; omega⟩
  · have : j = xs.length := by omega
    subst this
    rw [← hp]; simp [pack]
end Go.Proofs.YtpnnmklacialgaaGreat
namespace Go.Proofs.YtpnnmklacialgaaGreat
open Go.Conc
attribute [local irreducible] WP OpF OpX CallW SemH retQ
theorem take_snoc {α : Type} {l : List α} {j : Nat} (h : j < l.length) : l.take (j + 1) = l.take j ++ [l[j]] := by simp
theorem c139 (E : Env) (S : Ents) (n : NetG) (a b c d e : Value) (hn : NetV S a b c d e n) (hm : n.uses.length ≤ 100000) : CallW Tryz.prog E 139 #[.agg #[a, b, c, d, e]] S fun r S' => ∃ Δ, Own r n.uses Δ ∧ S' = Δ ++ S := by
  obtain ⟨q, cp, rfl, _, hr⟩ := hn.uses
  have := SlI.mk hr
  refine call_in (args := [.agg #[a, .slice q n.uses.length cp, c, d, e]]) Tryz.func139 (by decide) rfl rfl ?_
  repeat' first|(refine gX ?_;first|refine o_v rfl rfl ?_|(refine gL ?_;first|refine o_load rfl rfl rfl rfl ?_|refine o_loadR rfl rfl rfl (by omega) rfl rfl ?_|refine o_loadW rfl rfl rfl rfl ?_|refine o_loadK rfl rfl rfl ?_)|(refine gF ?_;first|refine o_fieldI rfl rfl rfl rfl ?_|refine o_field rfl rfl rfl rfl ?_)|(refine gB ?_;first|refine o_add rfl rfl rfl rfl (by omega) ?_)|(refine gI ?_;first|refine o_indexS rfl rfl rfl rfl rfl rfl (by omega) ?_|refine o_index rfl rfl rfl rfl rfl (by omega) ?_)|(refine gS ?_;first|refine o_store rfl rfl rfl rfl rfl rfl ?_|refine o_storeW rfl rfl rfl rfl rfl rfl ?_)|(refine o_allocZ rfl rfl ?_;intro _)|(refine o_box rfl rfl rfl ?_;intro _)|(refine o_bslice rfl rfl rfl rfl rfl rfl rfl ?_;intro _))|refine o_head0 rfl ?_|refine o_end ?_|refine o_head1 rfl ?_|refine wp_seq ?_|refine o_region ?_|refine wp_block ?_|refine wp_skip ?_|refine wp_exit ?_|(refine w_condD rfl ?_ ?_<;>intro h)|(refine w_cond rfl ?_ ?_<;>intro h<;>try exact Bool.noConfusion h)|refine w_ret (S) (vs:=[_]) rfl (Res.tmp rfl Res.nil) ?_
  refine w_drop S Sb.h ?_
  refine wp_loop (fun i t ds S' => ∃ (j : Nat) (t0 : Tm) (w : Value) (Δ : Ents), i = n.uses.length - j ∧ j ≤ n.uses.length ∧ [] = ds ∧ Δ ++ S = S' ∧ t = den [(9, .int .i64 j), (8, .int .i64 n.uses.length), (7, .slice q n.uses.length cp), (3, w)] t0 ∧ Own w (n.uses.take j) Δ)
    n.uses.length ⟨0, _, _, [], rfl, Nat.zero_le _, rfl, rfl, keep ⟨rfl, rfl, rfl, rfl, trivial⟩, .nil⟩ ?_
  rintro i t ds S' ⟨j, t0, w, Δ, rfl, hj, rfl, rfl, rfl, ho⟩
  repeat' first|(refine gX ?_;first|refine o_v rfl rfl ?_|(refine gL ?_;first|refine o_load rfl rfl rfl rfl ?_|refine o_loadR rfl rfl rfl (by omega) rfl rfl ?_|refine o_loadW rfl rfl rfl rfl ?_|refine o_loadK rfl rfl rfl ?_)|(refine gF ?_;first|refine o_fieldI rfl rfl rfl rfl ?_|refine o_field rfl rfl rfl rfl ?_)|(refine gB ?_;first|refine o_add rfl rfl rfl rfl (by omega) ?_)|(refine gC ?_;first|(refine o_append1 (n.uses[j]'(by first|done|omega)) rfl rfl rfl rfl ho rfl (by rw [List.length_take]; omega) rfl rfl rfl rfl ?_;intro w2 Δ2 ho2;refine ⟨inferInstance, ?_⟩))|(refine gI ?_;first|refine o_indexS rfl rfl rfl rfl rfl rfl (by omega) ?_|refine o_index rfl rfl rfl rfl rfl (by omega) ?_)|(refine gS ?_;first|refine o_store rfl rfl rfl rfl rfl rfl ?_|refine o_storeW rfl rfl rfl rfl rfl rfl ?_)|(refine o_allocZ rfl rfl ?_;intro _)|(refine o_box rfl rfl rfl ?_;intro _)|(refine o_bslice rfl rfl rfl rfl rfl rfl rfl ?_;intro _))|refine o_head0 rfl ?_|refine o_end ?_|refine o_head1 rfl ?_|refine wp_seq ?_|refine o_region ?_|refine wp_block ?_|refine wp_skip ?_|refine wp_exit ?_|(refine w_condD rfl ?_ ?_<;>intro h)|(refine w_cond rfl ?_ ?_<;>intro h<;>try exact Bool.noConfusion h)|refine w_ret (Δ ++ S) (vs:=[_]) rfl (Res.tmp rfl Res.nil) ?_|refine w_ret (S) (vs:=[_]) rfl (Res.tmp rfl Res.nil) ?_
  · exact ⟨n.uses.length - (j + 1), by omega, _, Sb.h, j + 1, _, w2, Δ2, rfl, by omega, rfl, rfl, keep ⟨rfl, rfl, rfl, rfl, trivial⟩, by rw [take_snoc (by omega)]; exact ho2⟩
  · have : j = n.uses.length := by omega
    subst this
    rw [List.take_length] at ho
    exact ⟨Δ, ho, rfl⟩
theorem c107 (E : Env) (S : Ents) (n : NetG) (a b c d e : Value) (hn : NetV S a b c d e n) (hm : n.readings.length ≤ 100000) : CallW Tryz.prog E 107 #[.agg #[a, b, c, d, e]] S fun r S' => ∃ Δ, Own r n.readings Δ ∧ S' = Δ ++ S := by
  obtain ⟨q, cp, rfl, _, hr⟩ := hn.readings
  have := SlI.mk hr
  refine call_in (args := [.agg #[a, b, .slice q n.readings.length cp, d, e]]) Tryz.func107 (by decide) rfl rfl ?_
  repeat' first|(refine gX ?_;first|refine o_v rfl rfl ?_|(refine gL ?_;first|refine o_load rfl rfl rfl rfl ?_|refine o_loadR rfl rfl rfl (by omega) rfl rfl ?_|refine o_loadW rfl rfl rfl rfl ?_|refine o_loadK rfl rfl rfl ?_)|(refine gF ?_;first|refine o_fieldI rfl rfl rfl rfl ?_|refine o_field rfl rfl rfl rfl ?_)|(refine gB ?_;first|refine o_add rfl rfl rfl rfl (by omega) ?_)|(refine gI ?_;first|refine o_indexS rfl rfl rfl rfl rfl rfl (by omega) ?_|refine o_index rfl rfl rfl rfl rfl (by omega) ?_)|(refine gS ?_;first|refine o_store rfl rfl rfl rfl rfl rfl ?_|refine o_storeW rfl rfl rfl rfl rfl rfl ?_)|(refine o_allocZ rfl rfl ?_;intro _)|(refine o_box rfl rfl rfl ?_;intro _)|(refine o_bslice rfl rfl rfl rfl rfl rfl rfl ?_;intro _))|refine o_head0 rfl ?_|refine o_end ?_|refine o_head1 rfl ?_|refine wp_seq ?_|refine o_region ?_|refine wp_block ?_|refine wp_skip ?_|refine wp_exit ?_|(refine w_condD rfl ?_ ?_<;>intro h)|(refine w_cond rfl ?_ ?_<;>intro h<;>try exact Bool.noConfusion h)|refine w_ret (S) (vs:=[_]) rfl (Res.tmp rfl Res.nil) ?_
  refine w_drop S Sb.h ?_
  refine wp_loop (fun i t ds S' => ∃ (j : Nat) (t0 : Tm) (w : Value) (Δ : Ents), i = n.readings.length - j ∧ j ≤ n.readings.length ∧ [] = ds ∧ Δ ++ S = S' ∧ t = den [(9, .int .i64 j), (8, .int .i64 n.readings.length), (7, .slice q n.readings.length cp), (3, w)] t0 ∧ Own w (n.readings.take j) Δ)
    n.readings.length ⟨0, _, _, [], rfl, Nat.zero_le _, rfl, rfl, keep ⟨rfl, rfl, rfl, rfl, trivial⟩, .nil⟩ ?_
  rintro i t ds S' ⟨j, t0, w, Δ, rfl, hj, rfl, rfl, rfl, ho⟩
  repeat' first|(refine gX ?_;first|refine o_v rfl rfl ?_|(refine gL ?_;first|refine o_load rfl rfl rfl rfl ?_|refine o_loadR rfl rfl rfl (by omega) rfl rfl ?_|refine o_loadW rfl rfl rfl rfl ?_|refine o_loadK rfl rfl rfl ?_)|(refine gF ?_;first|refine o_fieldI rfl rfl rfl rfl ?_|refine o_field rfl rfl rfl rfl ?_)|(refine gB ?_;first|refine o_add rfl rfl rfl rfl (by omega) ?_)|(refine gC ?_;first|(refine o_append1 (n.readings[j]'(by first|done|omega)) rfl rfl rfl rfl ho rfl (by rw [List.length_take]; omega) rfl rfl rfl rfl ?_;intro w2 Δ2 ho2;refine ⟨inferInstance, ?_⟩))|(refine gI ?_;first|refine o_indexS rfl rfl rfl rfl rfl rfl (by omega) ?_|refine o_index rfl rfl rfl rfl rfl (by omega) ?_)|(refine gS ?_;first|refine o_store rfl rfl rfl rfl rfl rfl ?_|refine o_storeW rfl rfl rfl rfl rfl rfl ?_)|(refine o_allocZ rfl rfl ?_;intro _)|(refine o_box rfl rfl rfl ?_;intro _)|(refine o_bslice rfl rfl rfl rfl rfl rfl rfl ?_;intro _))|refine o_head0 rfl ?_|refine o_end ?_|refine o_head1 rfl ?_|refine wp_seq ?_|refine o_region ?_|refine wp_block ?_|refine wp_skip ?_|refine wp_exit ?_|(refine w_condD rfl ?_ ?_<;>intro h)|(refine w_cond rfl ?_ ?_<;>intro h<;>try exact Bool.noConfusion h)|refine w_ret (Δ ++ S) (vs:=[_]) rfl (Res.tmp rfl Res.nil) ?_|refine w_ret (S) (vs:=[_]) rfl (Res.tmp rfl Res.nil) ?_
  · exact ⟨n.readings.length - (j + 1), by omega, _, Sb.h, j + 1, _, w2, Δ2, rfl, by omega, rfl, rfl, keep ⟨rfl, rfl, rfl, rfl, trivial⟩, by rw [take_snoc (by omega)]; exact ho2⟩
  · have : j = n.readings.length := by omega
    subst this
    rw [List.take_length] at ho
    exact ⟨Δ, ho, rfl⟩
theorem c142 (E : Env) (S : Ents) (n : NetG) (a b c d e : Value) (hn : NetV S a b c d e n) (hm : n.faults.length ≤ 100000) : CallW Tryz.prog E 142 #[.agg #[a, b, c, d, e]] S fun r S' => ∃ Δ, Own r n.faults Δ ∧ S' = Δ ++ S := by
  obtain ⟨q, cp, rfl, _, hr⟩ := hn.faults
  have := SlI.mk hr
  refine call_in (args := [.agg #[a, b, c, .slice q n.faults.length cp, e]]) Tryz.func142 (by decide) rfl rfl ?_
  repeat' first|(refine gX ?_;first|refine o_v rfl rfl ?_|(refine gL ?_;first|refine o_load rfl rfl rfl rfl ?_|refine o_loadR rfl rfl rfl (by omega) rfl rfl ?_|refine o_loadW rfl rfl rfl rfl ?_|refine o_loadK rfl rfl rfl ?_)|(refine gF ?_;first|refine o_fieldI rfl rfl rfl rfl ?_|refine o_field rfl rfl rfl rfl ?_)|(refine gB ?_;first|refine o_add rfl rfl rfl rfl (by omega) ?_)|(refine gI ?_;first|refine o_indexS rfl rfl rfl rfl rfl rfl (by omega) ?_|refine o_index rfl rfl rfl rfl rfl (by omega) ?_)|(refine gS ?_;first|refine o_store rfl rfl rfl rfl rfl rfl ?_|refine o_storeW rfl rfl rfl rfl rfl rfl ?_)|(refine o_allocZ rfl rfl ?_;intro _)|(refine o_box rfl rfl rfl ?_;intro _)|(refine o_bslice rfl rfl rfl rfl rfl rfl rfl ?_;intro _))|refine o_head0 rfl ?_|refine o_end ?_|refine o_head1 rfl ?_|refine wp_seq ?_|refine o_region ?_|refine wp_block ?_|refine wp_skip ?_|refine wp_exit ?_|(refine w_condD rfl ?_ ?_<;>intro h)|(refine w_cond rfl ?_ ?_<;>intro h<;>try exact Bool.noConfusion h)|refine w_ret (S) (vs:=[_]) rfl (Res.tmp rfl Res.nil) ?_
  refine w_drop S Sb.h ?_
  refine wp_loop (fun i t ds S' => ∃ (j : Nat) (t0 : Tm) (w : Value) (Δ : Ents), i = n.faults.length - j ∧ j ≤ n.faults.length ∧ [] = ds ∧ Δ ++ S = S' ∧ t = den [(9, .int .i64 j), (8, .int .i64 n.faults.length), (7, .slice q n.faults.length cp), (3, w)] t0 ∧ Own w (n.faults.take j) Δ)
    n.faults.length ⟨0, _, _, [], rfl, Nat.zero_le _, rfl, rfl, keep ⟨rfl, rfl, rfl, rfl, trivial⟩, .nil⟩ ?_
  rintro i t ds S' ⟨j, t0, w, Δ, rfl, hj, rfl, rfl, rfl, ho⟩
  repeat' first|(refine gX ?_;first|refine o_v rfl rfl ?_|(refine gL ?_;first|refine o_load rfl rfl rfl rfl ?_|refine o_loadR rfl rfl rfl (by omega) rfl rfl ?_|refine o_loadW rfl rfl rfl rfl ?_|refine o_loadK rfl rfl rfl ?_)|(refine gF ?_;first|refine o_fieldI rfl rfl rfl rfl ?_|refine o_field rfl rfl rfl rfl ?_)|(refine gB ?_;first|refine o_add rfl rfl rfl rfl (by omega) ?_)|(refine gC ?_;first|(refine o_append1 (n.faults[j]'(by first|done|omega)) rfl rfl rfl rfl ho rfl (by rw [List.length_take]; omega) rfl rfl rfl rfl ?_;intro w2 Δ2 ho2;refine ⟨inferInstance, ?_⟩))|(refine gI ?_;first|refine o_indexS rfl rfl rfl rfl rfl rfl (by omega) ?_|refine o_index rfl rfl rfl rfl rfl (by omega) ?_)|(refine gS ?_;first|refine o_store rfl rfl rfl rfl rfl rfl ?_|refine o_storeW rfl rfl rfl rfl rfl rfl ?_)|(refine o_allocZ rfl rfl ?_;intro _)|(refine o_box rfl rfl rfl ?_;intro _)|(refine o_bslice rfl rfl rfl rfl rfl rfl rfl ?_;intro _))|refine o_head0 rfl ?_|refine o_end ?_|refine o_head1 rfl ?_|refine wp_seq ?_|refine o_region ?_|refine wp_block ?_|refine wp_skip ?_|refine wp_exit ?_|(refine w_condD rfl ?_ ?_<;>intro h)|(refine w_cond rfl ?_ ?_<;>intro h<;>try exact Bool.noConfusion h)|refine w_ret (Δ ++ S) (vs:=[_]) rfl (Res.tmp rfl Res.nil) ?_|refine w_ret (S) (vs:=[_]) rfl (Res.tmp rfl Res.nil) ?_
  · exact ⟨n.faults.length - (j + 1), by omega, _, Sb.h, j + 1, _, w2, Δ2, rfl, by omega, rfl, rfl, keep ⟨rfl, rfl, rfl, rfl, trivial⟩, by rw [take_snoc (by omega)]; exact ho2⟩
  · have : j = n.faults.length := by omega
    subst this
    rw [List.take_length] at ho
    exact ⟨Δ, ho, rfl⟩
end Go.Proofs.YtpnnmklacialgaaGreat
namespace Go.Proofs.YtpnnmklacialgaaGreat
open Go.Conc
attribute [local irreducible] WP OpF OpX CallW SemH retQ
section
variable {α : Type} (key : α → Int) (ok : α → Bool)
def riseF : Int → List α → Bool
  | _, [] => true
  | was, x :: l => decide (was < key x) && ok x && riseF (key x) l
def riseN : List α → Bool
  | [] => true
  | x :: l => ok x && riseF key ok (key x) l
variable {key ok}
theorem riseF_drop {l : List α} {j : Nat} {was : Int} (h : j < l.length) : riseF key ok was (l.drop j) = (decide (was < key l[j]) && ok l[j] && riseF key ok (key l[j]) (l.drop (j + 1))) := by
  rw [List.drop_eq_getElem_cons h, riseF]
def riseAt (key : α → Int) (ok : α → Bool) (l : List α) (j : Nat) : Bool := if h : 0 < j ∧ j ≤ l.length then riseF key ok (key (l[j - 1]'(by omega))) (l.drop j) else riseN key ok l
theorem riseAt_zero {l : List α} : riseAt key ok l 0 = riseN key ok l := by unfold riseAt; rw [dif_neg (by omega)]
theorem riseAt_step {l : List α} {j : Nat} (h : j < l.length) : riseAt key ok l j = ((if h0 : 0 < j then decide (key (l[j - 1]'(by omega)) < key l[j]) else true) && ok l[j] && riseAt key ok l (j + 1)) := by
  have e : riseAt key ok l (j + 1) = riseF key ok (key l[j]) (l.drop (j + 1)) := by
    unfold riseAt
    rw [dif_pos (by omega)]; simp
  rw [e]
  unfold riseAt
  by_cases h0 : 0 < j
  · rw [dif_pos ⟨h0, by omega⟩, dif_pos h0, riseF_drop h]
  · have : j = 0 := by omega
    subst this
    rw [dif_neg (by omega), dif_neg (by omega)]
    cases l with
    | nil => simp at h
    | cons x l => simp [riseN]
theorem riseAt_next {l : List α} {j : Nat} (h : j < l.length) (h1 : (h0 : 0 < j) → key (l[j - 1]'(by omega)) < key l[j]) (h2 : ok l[j] = true) (hp : riseAt key ok l j = riseN key ok l) : riseAt key ok l (j + 1) = riseN key ok l := by
  rw [riseAt_step h] at hp
  rw [← hp, h2]
  split
  · rename_i h0; simp [h1 h0]
  · simp
theorem riseAt_bad1 {l : List α} {j : Nat} (h : j < l.length) (h0 : 0 < j) (h1 : ¬ key (l[j - 1]'(by omega)) < key l[j]) (hp : riseAt key ok l j = riseN key ok l) : riseN key ok l = false := by
  rw [riseAt_step h, dif_pos h0] at hp
  rw [← hp]; simp; omega
theorem riseAt_bad2 {l : List α} {j : Nat} (h : j < l.length) (h2 : ok l[j] = false) (hp : riseAt key ok l j = riseN key ok l) : riseN key ok l = false := by
  rw [riseAt_step h] at hp
  rw [← hp, h2]; simp
theorem riseAt_end {l : List α} : riseAt key ok l l.length = true := by
  unfold riseAt
  split
  · simp [riseF]
  · cases l with
    | nil => rfl
    | cons x l => rename_i h; simp at h
end
theorem NetV.sub {S S' : Ents} {a b c d e : Value} {n : NetG} (h : NetV S a b c d e n) (hs : List.Sublist S S') : NetV S' a b c d e n :=
  ⟨h.1.sub hs, h.2.sub hs, h.3.sub hs, h.4.sub hs, h.5.sub hs, h.6, h.7, h.8, h.9, h.10⟩
def placeOk (n : NetG) (id : Int) : Bool := decide (0 ≤ placeF n id)
def upOk (n : NetG) (x : MainG) : Bool := x.up == 0 || placeOk n x.up
def validB (n : NetG) : Bool :=
  lenAll 12 mainOk n.mains && lenAll 60 useOk n.uses && lenAll 60 readOk n.readings && lenAll 60 faultOk n.faults && lenAll 10 priceOk n.prices &&
  riseN (·.id) (upOk n) n.mains && riseN (·.since) (fun _ => true) n.prices && riseF (·.source) (fun x => placeOk n x.main) 0 n.uses && riseF (·.source) (fun x => placeOk n x.main) 0 n.readings && riseF (·.source) (fun x => placeOk n x.main) 0 n.faults
theorem c138 (E : Env) (S : Ents) (n : NetG) (a b c d e v : Value) (xs : List UseG) (hn : NetV S a b c d e n) (hv : SlV S v xs) (hm : xs.length ≤ 100000) : CallW Tryz.prog E 138 #[.agg #[a, b, c, d, e], v] S fun r S' => r = .bool (riseF (·.source) (fun x => placeOk n x.main) 0 xs) ∧ S' = S := by
  obtain ⟨q, cp, rfl, _, hr⟩ := hv
  have := SlI.mk hr
  refine call_in (args := [.agg #[a, b, c, d, e], .slice q xs.length cp]) Tryz.func138 (by decide) rfl rfl ?_
  repeat' first|(refine gX ?_;first|refine o_v rfl rfl ?_|(refine o_splitD rfl rfl rfl ?_ ?_<;>intro h)|(refine o_split rfl rfl rfl ?_ ?_<;>intro h<;>fail_if_success exact Bool.noConfusion h)|(refine gL ?_;first|refine o_load rfl rfl rfl rfl ?_|refine o_loadR rfl rfl rfl (by omega) rfl rfl ?_|refine o_loadW rfl rfl rfl rfl ?_|refine o_loadK rfl rfl rfl ?_)|(refine gB ?_;first|refine o_add rfl rfl rfl rfl (by omega) ?_)|(refine gI ?_;first|refine o_indexS rfl rfl rfl rfl rfl rfl (by omega) ?_|refine o_index rfl rfl rfl rfl rfl (by omega) ?_)|(refine gS ?_;first|refine o_store rfl rfl rfl rfl rfl rfl ?_|refine o_storeW rfl rfl rfl rfl rfl rfl ?_)|(refine o_allocZ rfl rfl ?_;intro _)|(refine o_box rfl rfl rfl ?_;intro _)|refine o_skip rfl rfl ?_|refine o_skipN rfl rfl ?_|refine o_iface rfl rfl rfl ?_|(refine o_splitP rfl ?_ ?_<;>intro h<;>fail_if_success exact Bool.noConfusion h))|refine o_head0 rfl ?_|refine o_end ?_|refine o_head1 rfl ?_|refine wp_seq ?_|refine o_region ?_|refine wp_block ?_|refine wp_skip ?_|refine wp_exit ?_|(refine w_condD rfl ?_ ?_<;>intro h)|(refine w_cond rfl ?_ ?_<;>intro h<;>try exact Bool.noConfusion h)|refine w_ret (S) (vs:=[_]) rfl (Res.tmp rfl Res.nil) ?_
  rename_i bx
  refine wp_loop (fun i t ds S' => ∃ (j : Nat) (t0 : Tm) (was : Int), i = xs.length - j ∧ j ≤ xs.length ∧ [] = ds ∧ ⟨bx, true, .cells #[a, b, c, d, e] 28 (0, 0)⟩ :: S = S' ∧ t = den [(15, .int .i64 j), (14, .int .i64 xs.length), (13, .slice q xs.length cp), (5, .int .i64 was), (2, .pointer (some ⟨bx, 0, none⟩))] t0 ∧ riseF (·.source) (fun x => placeOk n x.main) was (xs.drop j) = riseF (·.source) (fun x => placeOk n x.main) 0 xs)
    xs.length ⟨0, _, 0, rfl, Nat.zero_le _, rfl, rfl, keep ⟨rfl, rfl, rfl, rfl, rfl, trivial⟩, rfl⟩ ?_
  rintro i t ds S' ⟨j, t0, was, rfl, hj, rfl, rfl, rfl, hp⟩
  repeat' first|(refine gX ?_;first|refine o_v rfl rfl ?_|(refine o_splitD rfl rfl rfl ?_ ?_<;>intro h)|(refine o_split rfl rfl rfl ?_ ?_<;>intro h<;>fail_if_success exact Bool.noConfusion h)|(refine gL ?_;first|refine o_load rfl rfl rfl rfl ?_|refine o_loadR rfl rfl rfl (by omega) rfl rfl ?_|refine o_loadW rfl rfl rfl rfl ?_|refine o_loadK rfl rfl rfl ?_)|(refine gB ?_;first|refine o_add rfl rfl rfl rfl (by omega) ?_)|(refine gC ?_;first|refine o_inv rfl rfl rfl rfl (c228 _ _ xs[j]) ?_|refine o_callF rfl rfl rfl (c87 _ _ n _ _ _ _ _ _ (hn.sub Sb.h)) ?_)|(refine gI ?_;first|refine o_indexS rfl rfl rfl rfl rfl rfl (by omega) ?_|refine o_index rfl rfl rfl rfl rfl (by omega) ?_)|(refine gS ?_;first|refine o_store rfl rfl rfl rfl rfl rfl ?_|refine o_storeW rfl rfl rfl rfl rfl rfl ?_)|(refine o_allocZ rfl rfl ?_;intro _)|(refine o_box rfl rfl rfl ?_;intro _)|refine o_skip rfl rfl ?_|refine o_skipN rfl rfl ?_|refine o_iface rfl rfl rfl ?_|(refine o_splitP rfl ?_ ?_<;>intro h<;>fail_if_success exact Bool.noConfusion h))|refine o_head0 rfl ?_|refine o_end ?_|refine o_head1 rfl ?_|refine wp_seq ?_|refine o_region ?_|refine wp_block ?_|refine wp_skip ?_|refine wp_exit ?_|(refine w_condD rfl ?_ ?_<;>intro h)|(refine w_cond rfl ?_ ?_<;>intro h<;>try exact Bool.noConfusion h)|refine w_ret (S) (vs:=[_]) rfl (Res.tmp rfl Res.nil) ?_
  · rw [riseF_drop (by omega)] at hp
    refine ⟨?_, rfl⟩
    rw [← hp]
    simp [pack]; omega
  · rw [riseF_drop (by omega)] at hp
    refine ⟨?_, rfl⟩
    rw [← hp]
    simp [pack, placeOk]; omega
  · rw [riseF_drop (by omega)] at hp
    exact ⟨xs.length - (j + 1), by omega, _, Sb.h, j + 1, _, _, rfl, by omega, rfl, rfl, keep ⟨rfl, rfl, rfl, rfl, rfl, trivial⟩, by rw [← hp]; simp [placeOk]; omega⟩
  · have : j = xs.length := by omega
    subst this
    rw [← hp]; simp [riseF, pack]
theorem c140 (E : Env) (S : Ents) (n : NetG) (a b c d e v : Value) (xs : List ReadG) (hn : NetV S a b c d e n) (hv : SlV S v xs) (hm : xs.length ≤ 100000) : CallW Tryz.prog E 140 #[.agg #[a, b, c, d, e], v] S fun r S' => r = .bool (riseF (·.source) (fun x => placeOk n x.main) 0 xs) ∧ S' = S := by
  obtain ⟨q, cp, rfl, _, hr⟩ := hv
  have := SlI.mk hr
  refine call_in (args := [.agg #[a, b, c, d, e], .slice q xs.length cp]) Tryz.func140 (by decide) rfl rfl ?_
  repeat' first|(refine gX ?_;first|refine o_v rfl rfl ?_|(refine o_splitD rfl rfl rfl ?_ ?_<;>intro h)|(refine o_split rfl rfl rfl ?_ ?_<;>intro h<;>fail_if_success exact Bool.noConfusion h)|(refine gL ?_;first|refine o_load rfl rfl rfl rfl ?_|refine o_loadR rfl rfl rfl (by omega) rfl rfl ?_|refine o_loadW rfl rfl rfl rfl ?_|refine o_loadK rfl rfl rfl ?_)|(refine gB ?_;first|refine o_add rfl rfl rfl rfl (by omega) ?_)|(refine gI ?_;first|refine o_indexS rfl rfl rfl rfl rfl rfl (by omega) ?_|refine o_index rfl rfl rfl rfl rfl (by omega) ?_)|(refine gS ?_;first|refine o_store rfl rfl rfl rfl rfl rfl ?_|refine o_storeW rfl rfl rfl rfl rfl rfl ?_)|(refine o_allocZ rfl rfl ?_;intro _)|(refine o_box rfl rfl rfl ?_;intro _)|refine o_skip rfl rfl ?_|refine o_skipN rfl rfl ?_|refine o_iface rfl rfl rfl ?_|(refine o_splitP rfl ?_ ?_<;>intro h<;>fail_if_success exact Bool.noConfusion h))|refine o_head0 rfl ?_|refine o_end ?_|refine o_head1 rfl ?_|refine wp_seq ?_|refine o_region ?_|refine wp_block ?_|refine wp_skip ?_|refine wp_exit ?_|(refine w_condD rfl ?_ ?_<;>intro h)|(refine w_cond rfl ?_ ?_<;>intro h<;>try exact Bool.noConfusion h)|refine w_ret (S) (vs:=[_]) rfl (Res.tmp rfl Res.nil) ?_
  rename_i bx
  refine wp_loop (fun i t ds S' => ∃ (j : Nat) (t0 : Tm) (was : Int), i = xs.length - j ∧ j ≤ xs.length ∧ [] = ds ∧ ⟨bx, true, .cells #[a, b, c, d, e] 28 (0, 0)⟩ :: S = S' ∧ t = den [(15, .int .i64 j), (14, .int .i64 xs.length), (13, .slice q xs.length cp), (5, .int .i64 was), (2, .pointer (some ⟨bx, 0, none⟩))] t0 ∧ riseF (·.source) (fun x => placeOk n x.main) was (xs.drop j) = riseF (·.source) (fun x => placeOk n x.main) 0 xs)
    xs.length ⟨0, _, 0, rfl, Nat.zero_le _, rfl, rfl, keep ⟨rfl, rfl, rfl, rfl, rfl, trivial⟩, rfl⟩ ?_
  rintro i t ds S' ⟨j, t0, was, rfl, hj, rfl, rfl, rfl, hp⟩
  repeat' first|(refine gX ?_;first|refine o_v rfl rfl ?_|(refine o_splitD rfl rfl rfl ?_ ?_<;>intro h)|(refine o_split rfl rfl rfl ?_ ?_<;>intro h<;>fail_if_success exact Bool.noConfusion h)|(refine gL ?_;first|refine o_load rfl rfl rfl rfl ?_|refine o_loadR rfl rfl rfl (by omega) rfl rfl ?_|refine o_loadW rfl rfl rfl rfl ?_|refine o_loadK rfl rfl rfl ?_)|(refine gB ?_;first|refine o_add rfl rfl rfl rfl (by omega) ?_)|(refine gC ?_;first|refine o_inv rfl rfl rfl rfl (c227 _ _ xs[j]) ?_|refine o_callF rfl rfl rfl (c87 _ _ n _ _ _ _ _ _ (hn.sub Sb.h)) ?_)|(refine gI ?_;first|refine o_indexS rfl rfl rfl rfl rfl rfl (by omega) ?_|refine o_index rfl rfl rfl rfl rfl (by omega) ?_)|(refine gS ?_;first|refine o_store rfl rfl rfl rfl rfl rfl ?_|refine o_storeW rfl rfl rfl rfl rfl rfl ?_)|(refine o_allocZ rfl rfl ?_;intro _)|(refine o_box rfl rfl rfl ?_;intro _)|refine o_skip rfl rfl ?_|refine o_skipN rfl rfl ?_|refine o_iface rfl rfl rfl ?_|(refine o_splitP rfl ?_ ?_<;>intro h<;>fail_if_success exact Bool.noConfusion h))|refine o_head0 rfl ?_|refine o_end ?_|refine o_head1 rfl ?_|refine wp_seq ?_|refine o_region ?_|refine wp_block ?_|refine wp_skip ?_|refine wp_exit ?_|(refine w_condD rfl ?_ ?_<;>intro h)|(refine w_cond rfl ?_ ?_<;>intro h<;>try exact Bool.noConfusion h)|refine w_ret (S) (vs:=[_]) rfl (Res.tmp rfl Res.nil) ?_
  · rw [riseF_drop (by omega)] at hp
    refine ⟨?_, rfl⟩
    rw [← hp]
    simp [pack]; omega
  · rw [riseF_drop (by omega)] at hp
    refine ⟨?_, rfl⟩
    rw [← hp]
    simp [pack, placeOk]; omega
  · rw [riseF_drop (by omega)] at hp
    exact ⟨xs.length - (j + 1), by omega, _, Sb.h, j + 1, _, _, rfl, by omega, rfl, rfl, keep ⟨rfl, rfl, rfl, rfl, rfl, trivial⟩, by rw [← hp]; simp [placeOk]; omega⟩
  · have : j = xs.length := by omega
    subst this
    rw [← hp]; simp [riseF, pack]
theorem c141 (E : Env) (S : Ents) (n : NetG) (a b c d e v : Value) (xs : List FaultG) (hn : NetV S a b c d e n) (hv : SlV S v xs) (hm : xs.length ≤ 100000) : CallW Tryz.prog E 141 #[.agg #[a, b, c, d, e], v] S fun r S' => r = .bool (riseF (·.source) (fun x => placeOk n x.main) 0 xs) ∧ S' = S := by
  obtain ⟨q, cp, rfl, _, hr⟩ := hv
  have := SlI.mk hr
  refine call_in (args := [.agg #[a, b, c, d, e], .slice q xs.length cp]) Tryz.func141 (by decide) rfl rfl ?_
  repeat' first|(refine gX ?_;first|refine o_v rfl rfl ?_|(refine o_splitD rfl rfl rfl ?_ ?_<;>intro h)|(refine o_split rfl rfl rfl ?_ ?_<;>intro h<;>fail_if_success exact Bool.noConfusion h)|(refine gL ?_;first|refine o_load rfl rfl rfl rfl ?_|refine o_loadR rfl rfl rfl (by omega) rfl rfl ?_|refine o_loadW rfl rfl rfl rfl ?_|refine o_loadK rfl rfl rfl ?_)|(refine gB ?_;first|refine o_add rfl rfl rfl rfl (by omega) ?_)|(refine gI ?_;first|refine o_indexS rfl rfl rfl rfl rfl rfl (by omega) ?_|refine o_index rfl rfl rfl rfl rfl (by omega) ?_)|(refine gS ?_;first|refine o_store rfl rfl rfl rfl rfl rfl ?_|refine o_storeW rfl rfl rfl rfl rfl rfl ?_)|(refine o_allocZ rfl rfl ?_;intro _)|(refine o_box rfl rfl rfl ?_;intro _)|refine o_skip rfl rfl ?_|refine o_skipN rfl rfl ?_|refine o_iface rfl rfl rfl ?_|(refine o_splitP rfl ?_ ?_<;>intro h<;>fail_if_success exact Bool.noConfusion h))|refine o_head0 rfl ?_|refine o_end ?_|refine o_head1 rfl ?_|refine wp_seq ?_|refine o_region ?_|refine wp_block ?_|refine wp_skip ?_|refine wp_exit ?_|(refine w_condD rfl ?_ ?_<;>intro h)|(refine w_cond rfl ?_ ?_<;>intro h<;>try exact Bool.noConfusion h)|refine w_ret (S) (vs:=[_]) rfl (Res.tmp rfl Res.nil) ?_
  rename_i bx
  refine wp_loop (fun i t ds S' => ∃ (j : Nat) (t0 : Tm) (was : Int), i = xs.length - j ∧ j ≤ xs.length ∧ [] = ds ∧ ⟨bx, true, .cells #[a, b, c, d, e] 28 (0, 0)⟩ :: S = S' ∧ t = den [(15, .int .i64 j), (14, .int .i64 xs.length), (13, .slice q xs.length cp), (5, .int .i64 was), (2, .pointer (some ⟨bx, 0, none⟩))] t0 ∧ riseF (·.source) (fun x => placeOk n x.main) was (xs.drop j) = riseF (·.source) (fun x => placeOk n x.main) 0 xs)
    xs.length ⟨0, _, 0, rfl, Nat.zero_le _, rfl, rfl, keep ⟨rfl, rfl, rfl, rfl, rfl, trivial⟩, rfl⟩ ?_
  rintro i t ds S' ⟨j, t0, was, rfl, hj, rfl, rfl, rfl, hp⟩
  repeat' first|(refine gX ?_;first|refine o_v rfl rfl ?_|(refine o_splitD rfl rfl rfl ?_ ?_<;>intro h)|(refine o_split rfl rfl rfl ?_ ?_<;>intro h<;>fail_if_success exact Bool.noConfusion h)|(refine gL ?_;first|refine o_load rfl rfl rfl rfl ?_|refine o_loadR rfl rfl rfl (by omega) rfl rfl ?_|refine o_loadW rfl rfl rfl rfl ?_|refine o_loadK rfl rfl rfl ?_)|(refine gB ?_;first|refine o_add rfl rfl rfl rfl (by omega) ?_)|(refine gC ?_;first|refine o_inv rfl rfl rfl rfl (c229 _ _ xs[j]) ?_|refine o_callF rfl rfl rfl (c87 _ _ n _ _ _ _ _ _ (hn.sub Sb.h)) ?_)|(refine gI ?_;first|refine o_indexS rfl rfl rfl rfl rfl rfl (by omega) ?_|refine o_index rfl rfl rfl rfl rfl (by omega) ?_)|(refine gS ?_;first|refine o_store rfl rfl rfl rfl rfl rfl ?_|refine o_storeW rfl rfl rfl rfl rfl rfl ?_)|(refine o_allocZ rfl rfl ?_;intro _)|(refine o_box rfl rfl rfl ?_;intro _)|refine o_skip rfl rfl ?_|refine o_skipN rfl rfl ?_|refine o_iface rfl rfl rfl ?_|(refine o_splitP rfl ?_ ?_<;>intro h<;>fail_if_success exact Bool.noConfusion h))|refine o_head0 rfl ?_|refine o_end ?_|refine o_head1 rfl ?_|refine wp_seq ?_|refine o_region ?_|refine wp_block ?_|refine wp_skip ?_|refine wp_exit ?_|(refine w_condD rfl ?_ ?_<;>intro h)|(refine w_cond rfl ?_ ?_<;>intro h<;>try exact Bool.noConfusion h)|refine w_ret (S) (vs:=[_]) rfl (Res.tmp rfl Res.nil) ?_
  · rw [riseF_drop (by omega)] at hp
    refine ⟨?_, rfl⟩
    rw [← hp]
    simp [pack]; omega
  · rw [riseF_drop (by omega)] at hp
    refine ⟨?_, rfl⟩
    rw [← hp]
    simp [pack, placeOk]; omega
  · rw [riseF_drop (by omega)] at hp
    exact ⟨xs.length - (j + 1), by omega, _, Sb.h, j + 1, _, _, rfl, by omega, rfl, rfl, keep ⟨rfl, rfl, rfl, rfl, rfl, trivial⟩, by rw [← hp]; simp [placeOk]; omega⟩
  · have : j = xs.length := by omega
    subst this
    rw [← hp]; simp [riseF, pack]
theorem c71 (E : Env) (S : Ents) (n : NetG) (a b c d e : Value) (hn : NetV S a b c d e n) : CallW Tryz.prog E 71 #[.agg #[a, b, c, d, e]] S fun r S' => r = iv (if validB n = true then 0 else 74) ∧ S' = S := by
  have hn0 := hn
  obtain ⟨⟨qm, cm, rfl, hm1, hm2⟩, hu, hr, hf, ⟨qp, cp, rfl, hp1, hp2⟩, lm, lu, lr, lf, lp⟩ := hn
  have := SlI.mk hm2
  have := SlI.mk hp2
  refine call_in (args := [.agg #[.slice qm n.mains.length cm, b, c, d, .slice qp n.prices.length cp]]) Tryz.func71 (by decide) rfl rfl ?_
  repeat' first|(refine gX ?_;first|refine o_v rfl rfl ?_|(refine o_splitD rfl rfl rfl ?_ ?_<;>intro h)|(refine o_split rfl rfl rfl ?_ ?_<;>intro h<;>fail_if_success exact Bool.noConfusion h)|(refine gL ?_;first|refine o_load rfl rfl rfl rfl ?_|refine o_loadR rfl rfl rfl (by omega) rfl rfl ?_|refine o_loadW rfl rfl rfl rfl ?_|refine o_loadK rfl rfl rfl ?_)|(refine gF ?_;first|refine o_fieldI rfl rfl rfl rfl ?_|refine o_field rfl rfl rfl rfl ?_)|(refine gB ?_;first|refine o_add rfl rfl rfl rfl (by omega) ?_|refine o_sub rfl rfl rfl rfl (by omega) ?_)|(refine gC ?_;first|refine o_callF rfl rfl rfl (c133 _ _ n.mains _ (hn0.mains.sub Sb.h) lm) ?_|refine o_callF rfl rfl rfl (c134 _ _ n.uses _ (hu.sub Sb.h) lu) ?_|refine o_callF rfl rfl rfl (c135 _ _ n.readings _ (hr.sub Sb.h) lr) ?_|refine o_callF rfl rfl rfl (c136 _ _ n.faults _ (hf.sub Sb.h) lf) ?_|refine o_callF rfl rfl rfl (c137 _ _ n.prices _ (hn0.prices.sub Sb.h) lp) ?_)|(refine gI ?_;first|refine o_indexS rfl rfl rfl rfl rfl rfl (by omega) ?_|refine o_index rfl rfl rfl rfl rfl (by omega) ?_)|(refine gS ?_;first|refine o_store rfl rfl rfl rfl rfl rfl ?_|refine o_storeW rfl rfl rfl rfl rfl rfl ?_)|(refine o_allocZ rfl rfl ?_;intro _)|(refine o_box rfl rfl rfl ?_;intro _)|refine o_skip rfl rfl ?_|refine o_skipN rfl rfl ?_|(refine o_splitP rfl ?_ ?_<;>intro h<;>fail_if_success exact Bool.noConfusion h))|refine o_head0 rfl ?_|refine o_end ?_|refine o_head1 rfl ?_|refine wp_seq ?_|refine o_region ?_|refine wp_block ?_|refine wp_skip ?_|refine wp_exit ?_|(refine w_condD rfl ?_ ?_<;>intro h)|(refine w_cond rfl ?_ ?_<;>intro h<;>try exact Bool.noConfusion h)|refine w_ret (S) (vs:=[_]) rfl (Res.tmp rfl Res.nil) ?_|(show WP _ _ _ _ (.region 6 _ true) _ _ _ _;refine o_drawnZ [Zf 0,Zf 1,Zf 2,Zf 3,Zf 4,Zf 5,Zf 6,Zf 7,Zf 8,Zf 9,Zf 10,Zf 11,Zf 12,Zf 13,Zf 14,Zf 15,Zf 16,Zf 17,Zf 18,Zf 19,Zf 20,Zf 21,Zt 22,Zf 23,Zf 24,Zf 25] [] mixed (by kernel_rfl) (List.nil_sublist _) ?_)|(show WP _ _ _ _ (.region 12 _ true) _ _ _ _;refine o_drawnZ [Zf 0,Zf 1,Zf 2,Zf 3,Zf 4,Zf 5,Zf 6,Zf 7,Zf 8,Zf 9,Zf 10,Zf 11,Zf 12,Zf 13] [] mixed (by kernel_rfl) (List.nil_sublist _) ?_)|(show WP _ _ _ _ (.region 15 _ true) _ _ _ _;refine o_drawn [Zt 0,Zf 1,Zf 2,Zt 3,Zf 4,Zf 5,Zt 6,Zf 7,Zf 8,Zt 9,Zf 10,Zf 11,Zf 12,Zt 13,Zf 14,Zf 15,Zt 16,Zf 17,Zf 18] mixed (by kernel_rfl) ?_)
  all_goals try (refine ⟨?_, rfl⟩; simp_all [validB, pack, iv]; done)
  rename_i bx h1 h2 h3 h4
  simp only [Bool.not_eq_false'] at h1 h2 h3 h4 h
  have k1 := (lenAll_iff.1 h1).1
  have k2 := (lenAll_iff.1 h2).1
  have k3 := (lenAll_iff.1 h3).1
  have k4 := (lenAll_iff.1 h4).1
  have k5 := (lenAll_iff.1 h).1
  refine wp_loop (fun i t ds S' => ∃ (j : Nat) (t0 : Tm), i = n.mains.length - j ∧ j ≤ n.mains.length ∧ [] = ds ∧ ⟨bx, true, .cells #[.slice qm n.mains.length cm, b, c, d, .slice qp n.prices.length cp] 28 (0, 0)⟩ :: S = S' ∧ t = den [(38, .int .i64 j), (37, .int .i64 n.mains.length), (36, .slice qm n.mains.length cm), (1, .pointer (some ⟨bx, 0, none⟩))] t0 ∧ riseAt (·.id) (upOk n) n.mains j = riseN (·.id) (upOk n) n.mains)
    n.mains.length ⟨0, _, rfl, Nat.zero_le _, rfl, rfl, keep ⟨rfl, rfl, rfl, rfl, trivial⟩, riseAt_zero⟩ ?_
  rintro i t ds S' ⟨j, t0, rfl, hj, rfl, rfl, rfl, hp⟩
  repeat' first|(refine gX ?_;first|refine o_v rfl rfl ?_|(refine o_splitD rfl rfl rfl ?_ ?_<;>intro h)|(refine o_split rfl rfl rfl ?_ ?_<;>intro h<;>fail_if_success exact Bool.noConfusion h)|(refine gL ?_;first|refine o_load rfl rfl rfl rfl ?_|refine o_loadR rfl rfl rfl (by omega) rfl rfl ?_|refine o_loadW rfl rfl rfl rfl ?_|refine o_loadK rfl rfl rfl ?_)|(refine gF ?_;first|refine o_fieldI rfl rfl rfl rfl ?_|refine o_field rfl rfl rfl rfl ?_)|(refine gB ?_;first|refine o_add rfl rfl rfl rfl (by omega) ?_|refine o_sub rfl rfl rfl rfl (by omega) ?_)|(refine gC ?_;first|refine o_callF rfl rfl rfl (c87 _ _ n _ _ _ _ _ _ (hn0.sub Sb.h)) ?_)|(refine gI ?_;first|refine o_indexZ (j - 1) rfl rfl rfl rfl rfl rfl (by omega) (by omega) ?_|refine o_indexS rfl rfl rfl rfl rfl rfl (by omega) ?_|refine o_index rfl rfl rfl rfl rfl (by omega) ?_)|(refine gS ?_;first|refine o_store rfl rfl rfl rfl rfl rfl ?_|refine o_storeW rfl rfl rfl rfl rfl rfl ?_)|(refine o_allocZ rfl rfl ?_;intro _)|(refine o_box rfl rfl rfl ?_;intro _)|refine o_skip rfl rfl ?_|refine o_skipN rfl rfl ?_|(refine o_splitP rfl ?_ ?_<;>intro h<;>fail_if_success exact Bool.noConfusion h))|refine o_head0 rfl ?_|refine o_end ?_|refine o_head1 rfl ?_|refine wp_seq ?_|refine o_region ?_|refine wp_block ?_|refine wp_skip ?_|refine wp_exit ?_|(refine w_condD rfl ?_ ?_<;>intro h)|(refine w_cond rfl ?_ ?_<;>intro h<;>try exact Bool.noConfusion h)|refine w_ret (S) (vs:=[_]) rfl (Res.tmp rfl Res.nil) ?_|(show WP _ _ _ _ (.region 6 _ true) _ _ _ _;refine o_drawnZ [Zf 0,Zf 1,Zf 2,Zf 3,Zf 4,Zf 5,Zf 6,Zf 7,Zf 8,Zf 9,Zf 10,Zf 11,Zf 12,Zf 13,Zf 14,Zf 15,Zf 16,Zf 17,Zf 18,Zf 19,Zf 20,Zf 21,Zt 22,Zf 23,Zf 24,Zf 25] [] mixed (by kernel_rfl) (List.nil_sublist _) ?_)|(show WP _ _ _ _ (.region 12 _ true) _ _ _ _;refine o_drawnZ [Zf 0,Zf 1,Zf 2,Zf 3,Zf 4,Zf 5,Zf 6,Zf 7,Zf 8,Zf 9,Zf 10,Zf 11,Zf 12,Zf 13] [] mixed (by kernel_rfl) (List.nil_sublist _) ?_)|(show WP _ _ _ _ (.region 15 _ true) _ _ _ _;refine o_drawn [Zt 0,Zf 1,Zf 2,Zt 3,Zf 4,Zf 5,Zt 6,Zf 7,Zf 8,Zt 9,Zf 10,Zf 11,Zf 12,Zt 13,Zf 14,Zf 15,Zt 16,Zf 17,Zf 18] mixed (by kernel_rfl) ?_)
  all_goals first
    | (refine ⟨?_, rfl⟩
       have hbad : riseN (·.id) (upOk n) n.mains = false := by
        first
          | exact riseAt_bad1 (key := (·.id)) (ok := upOk n) (l := n.mains) (j := j) (by omega) (by omega) (by first | omega | (dsimp only; omega)) hp
          | exact riseAt_bad2 (key := (·.id)) (ok := upOk n) (l := n.mains) (j := j) (by omega) (by simp only [upOk, placeOk, Bool.or_eq_false_iff, beq_eq_false_iff_ne, decide_eq_false_iff_not]; exact ⟨by omega, by omega⟩) hp
       simp [validB, hbad, pack, iv]; done)
    | exact ⟨n.mains.length - (j + 1), by omega, _, Sb.h, j + 1, _, rfl, by omega, rfl, rfl, keep ⟨rfl, rfl, rfl, rfl, trivial⟩, riseAt_next (key := (·.id)) (ok := upOk n) (l := n.mains) (j := j) (by omega) (fun h0 => by first | omega | (dsimp only; omega)) (by simp only [upOk, placeOk, Bool.or_eq_true, beq_iff_eq, decide_eq_true_eq]; omega) hp⟩
    | skip
  have hj' : j = n.mains.length := by omega
  subst hj'
  rw [riseAt_end] at hp
  refine wp_loop (fun i t ds S' => ∃ (j : Nat) (t0 : Tm), i = n.prices.length - j ∧ j ≤ n.prices.length ∧ [] = ds ∧ ⟨bx, true, .cells #[.slice qm n.mains.length cm, b, c, d, .slice qp n.prices.length cp] 28 (0, 0)⟩ :: S = S' ∧ t = den [(73, .int .i64 j), (72, .int .i64 n.prices.length), (71, .slice qp n.prices.length cp), (1, .pointer (some ⟨bx, 0, none⟩))] t0 ∧ riseAt (·.since) (fun _ => true) n.prices j = riseN (·.since) (fun _ => true) n.prices)
    n.prices.length ⟨0, _, rfl, Nat.zero_le _, rfl, rfl, keep ⟨rfl, rfl, rfl, rfl, trivial⟩, riseAt_zero⟩ ?_
  rintro i t ds S' ⟨j, t0, rfl, hj, rfl, rfl, rfl, hp2⟩
  repeat' first|(refine gX ?_;first|refine o_v rfl rfl ?_|(refine o_splitD rfl rfl rfl ?_ ?_<;>intro h)|(refine o_split rfl rfl rfl ?_ ?_<;>intro h<;>fail_if_success exact Bool.noConfusion h)|(refine gL ?_;first|refine o_load rfl rfl rfl rfl ?_|refine o_loadR rfl rfl rfl (by omega) rfl rfl ?_|refine o_loadW rfl rfl rfl rfl ?_|refine o_loadK rfl rfl rfl ?_)|(refine gF ?_;first|refine o_fieldI rfl rfl rfl rfl ?_|refine o_field rfl rfl rfl rfl ?_)|(refine gB ?_;first|refine o_add rfl rfl rfl rfl (by omega) ?_|refine o_sub rfl rfl rfl rfl (by omega) ?_)|(refine gC ?_;first|(refine o_call rfl rfl rfl (c139 _ _ n _ _ _ _ _ (hn0.sub Sb.h) (by omega)) ?_;rintro w1 _ ⟨Δ1, ho1, rfl⟩;refine ⟨inferInstance, ?_⟩)|(refine o_call rfl rfl rfl (c107 _ _ n _ _ _ _ _ (hn0.sub Sb.h) (by omega)) ?_;rintro w2 _ ⟨Δ2, ho2, rfl⟩;refine ⟨inferInstance, ?_⟩)|(refine o_call rfl rfl rfl (c142 _ _ n _ _ _ _ _ (hn0.sub Sb.h) (by omega)) ?_;rintro w3 _ ⟨Δ3, ho3, rfl⟩;refine ⟨inferInstance, ?_⟩)|refine o_callF rfl rfl rfl (c138 _ _ n _ _ _ _ _ _ n.uses (hn0.sub Sb.h) (ho1.slv.sub Sb.h) (by omega)) ?_|refine o_callF rfl rfl rfl (c140 _ _ n _ _ _ _ _ _ n.readings (hn0.sub Sb.h) (ho2.slv.sub Sb.h) (by omega)) ?_|refine o_callF rfl rfl rfl (c141 _ _ n _ _ _ _ _ _ n.faults (hn0.sub Sb.h) (ho3.slv.sub Sb.h) (by omega)) ?_)|(refine gI ?_;first|refine o_indexZ (j - 1) rfl rfl rfl rfl rfl rfl (by omega) (by omega) ?_|refine o_indexS rfl rfl rfl rfl rfl rfl (by omega) ?_|refine o_index rfl rfl rfl rfl rfl (by omega) ?_)|(refine gS ?_;first|refine o_store rfl rfl rfl rfl rfl rfl ?_|refine o_storeW rfl rfl rfl rfl rfl rfl ?_)|(refine o_allocZ rfl rfl ?_;intro _)|(refine o_box rfl rfl rfl ?_;intro _)|refine o_skip rfl rfl ?_|refine o_skipN rfl rfl ?_|(refine o_splitP rfl ?_ ?_<;>intro h<;>fail_if_success exact Bool.noConfusion h))|refine o_head0 rfl ?_|refine o_end ?_|refine o_head1 rfl ?_|refine wp_seq ?_|refine o_region ?_|refine wp_block ?_|refine wp_skip ?_|refine wp_exit ?_|(refine w_condD rfl ?_ ?_<;>intro h)|(refine w_cond rfl ?_ ?_<;>intro h<;>try exact Bool.noConfusion h)|refine w_ret (S) (vs:=[_]) rfl (Res.tmp rfl Res.nil) ?_|(show WP _ _ _ _ (.region 6 _ true) _ _ _ _;refine o_drawnZ [Zf 0,Zf 1,Zf 2,Zf 3,Zf 4,Zf 5,Zf 6,Zf 7,Zf 8,Zf 9,Zf 10,Zf 11,Zf 12,Zf 13,Zf 14,Zf 15,Zf 16,Zf 17,Zf 18,Zf 19,Zf 20,Zf 21,Zt 22,Zf 23,Zf 24,Zf 25] [] mixed (by kernel_rfl) (List.nil_sublist _) ?_)|(show WP _ _ _ _ (.region 12 _ true) _ _ _ _;refine o_drawnZ [Zf 0,Zf 1,Zf 2,Zf 3,Zf 4,Zf 5,Zf 6,Zf 7,Zf 8,Zf 9,Zf 10,Zf 11,Zf 12,Zf 13] [] mixed (by kernel_rfl) (List.nil_sublist _) ?_)|(show WP _ _ _ _ (.region 15 _ true) _ _ _ _;refine o_drawn [Zt 0,Zf 1,Zf 2,Zt 3,Zf 4,Zf 5,Zt 6,Zf 7,Zf 8,Zt 9,Zf 10,Zf 11,Zf 12,Zt 13,Zf 14,Zf 15,Zt 16,Zf 17,Zf 18] mixed (by kernel_rfl) ?_)
  all_goals first
    | (refine ⟨?_, rfl⟩
       have hbad : riseN (·.since) (fun _ => true) n.prices = false :=
        riseAt_bad1 (key := (·.since)) (ok := fun _ => true) (l := n.prices) (j := j) (by omega) (by omega) (by first | omega | (dsimp only; omega)) hp2
       simp [validB, hbad, pack, iv]; done)
    | exact ⟨n.prices.length - (j + 1), by omega, _, Sb.h, j + 1, _, rfl, by omega, rfl, rfl, keep ⟨rfl, rfl, rfl, rfl, trivial⟩, riseAt_next (key := (·.since)) (ok := fun _ => true) (l := n.prices) (j := j) (by omega) (fun h0 => by first | omega | (dsimp only; omega)) rfl hp2⟩
    | (have hj' : j = n.prices.length := by omega
       subst hj'
       rw [riseAt_end] at hp2
       have e2 := hp2.symm
       have e1 := hp.symm
       refine ⟨?_, rfl⟩
       clear hp hp2
       simp_all [validB, pack, iv]; done)
end Go.Proofs.YtpnnmklacialgaaGreat
