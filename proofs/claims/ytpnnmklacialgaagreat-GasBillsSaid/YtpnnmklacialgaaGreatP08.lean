/- Lists made one, and without repeats; sorted numbers, each once.
   The nights on which something becomes known, or ends; the periods told of.
   Traces of a caller and one helper at a time: what is ordered, and that nothing races.
   The machine with any number of goroutines of which most are leaving.
   From the caller's tree of steps, with its helpers' trees, to a good run on every tape.
   Pieces of code whose goroutine changes its part: it starts a helper, receives, sends, or leaves a closing behind. -/
import Derived.Test.YtpnnmklacialgaaGreatP07
import Derived.Conc.Fork
set_option linter.unusedVariables false
set_option linter.unusedSimpArgs false
namespace Go.Proofs.YtpnnmklacialgaaGreat
open Go.Conc
attribute [local irreducible] WP OpF OpX CallW SemH retQ AnyF RoundW
theorem Own.front {a : Option Addr} {len cap i : Nat} {xs : List Int} {Δ : Ents} (h : Own (.slice a len cap) xs Δ) (hi : i ≤ xs.length) : Own (slVal a 1 0 i cap) (xs.take i) Δ := by
  have h1 := h.take hi
  have e : slVal a 1 0 i cap = .slice a i cap := by
    unfold slVal
    cases h with
    | nil => simp
    | some => simp [add_mk]
  rw [e]
  exact h1
theorem flat_len {xss : List (List Int)} {j : Nat} : (xss.take j).flatten.length ≤ xss.flatten.length := by
  conv => rhs; rw [← List.take_append_drop j xss]
  rw [List.flatten_append, List.length_append]
  omega
theorem flat_snoc {xss : List (List Int)} {j : Nat} (h : j < xss.length) : (xss.take (j + 1)).flatten = (xss.take j).flatten ++ xss[j] := by
  rw [List.take_succ_eq_append_getElem h, List.flatten_append]
  simp
theorem c187 (E : Env) (S : Ents) (k : Nat) (hk : k ≤ 4000000) : CallW Tryz.prog E 187 #[.slice none 0 0, iv k] S fun r S' => ∃ Δ, Own r ([] : List Int) Δ ∧ S' = Δ ++ S := by
  refine call_in (args := [.slice none 0 0, iv k]) Tryz.func187 (by decide) rfl rfl ?_
  by_cases hk0 : k = 0
  · subst hk0
    repeat' first|(refine gX ?_;first|refine o_v rfl rfl ?_|(refine gB ?_;first|refine o_sub rfl rfl rfl rfl (by omega) ?_)|refine o_iface rfl rfl rfl ?_)|refine o_head0 rfl ?_|refine o_end ?_|refine o_head1 rfl ?_|(refine w_condD rfl ?_ ?_<;>intro h<;>try (exact absurd h (by omega)))|refine wp_seq ?_|refine o_region ?_|refine wp_skip ?_|(refine w_condD rfl ?_ ?_<;>intro h)|(refine w_cond rfl ?_ ?_<;>intro h<;>try exact Bool.noConfusion h)|refine w_retA (vs:=[_]) rfl (Res.tmp rfl Res.nil) ?_|refine w_ret (S) (vs:=[_]) rfl (Res.tmp rfl Res.nil) ?_
    exact ⟨[], .nil, rfl⟩
  · have hsub : (k : Int) - (((0 : Nat) : Int) - ((0 : Nat) : Int)) = (k : Int) := by omega
    repeat' first|(refine gX ?_;first|refine o_v rfl rfl ?_|(refine gB ?_;first|(refine o_sub rfl rfl rfl rfl (by omega) ?_;try rw [hsub])|refine o_sub rfl rfl rfl rfl (by omega) ?_)|(refine o_appendM (0 : Int) (k := k) rfl rfl rfl rfl (by omega) (by omega) rfl rfl rfl rfl ?_;intro w Δ ho;obtain ⟨a, c, rfl, hc, _⟩ := ho.slv)|refine o_slice 0 0 c rfl rfl rfl rfl rfl rfl rfl (.inr ⟨rfl, rfl⟩) (.inl rfl) (.inr ⟨rfl, rfl⟩) (by omega) (by omega) (by omega) ?_|refine o_slice 0 0 0 rfl rfl rfl rfl rfl rfl rfl (.inr ⟨rfl, rfl⟩) (.inl rfl) (.inr ⟨rfl, rfl⟩) (by omega) (by omega) (by omega) ?_|refine o_iface rfl rfl rfl ?_)|refine o_head0 rfl ?_|refine o_end ?_|refine o_head1 rfl ?_|(refine w_condD rfl ?_ ?_<;>intro h<;>try (exact absurd h (by omega)))|refine wp_seq ?_|refine o_region ?_|refine wp_skip ?_|(refine w_condD rfl ?_ ?_<;>intro h)|(refine w_cond rfl ?_ ?_<;>intro h<;>try exact Bool.noConfusion h)|refine w_retA (vs:=[_]) rfl (Res.tmp rfl Res.nil) ?_|refine w_ret (S) (vs:=[_]) rfl (Res.tmp rfl Res.nil) ?_
    exact ⟨Δ, ho.front (Nat.zero_le _), rfl⟩
theorem c166 (E : Env) (S : Ents) (ls : List SlG) (xss : List (List Int)) (v : Value) (hv : SlV S v ls) (hll : ls.length = xss.length) (hls : ∀ j (h : j < ls.length) (h2 : j < xss.length), SlV S ls[j].v xss[j]) (hm : xss.flatten.length ≤ 4000000) (hm2 : ls.length ≤ 4000000) :
    CallW Tryz.prog E 166 #[v] S fun r S' => ∃ Δ, Own r xss.flatten Δ ∧ S' = Δ ++ S := by
  obtain ⟨a, cp, rfl, _, hr⟩ := hv
  have i1 := SlI.mk hr
  have hpre : ∀ j, (xss.take j).flatten.length ≤ xss.flatten.length := fun j => flat_len
  refine call_in (args := [.slice a ls.length cp]) Tryz.func166 (by decide) rfl rfl ?_
  repeat' first|(refine gX ?_;first|refine o_v rfl rfl ?_|(refine gL ?_;first|refine o_load rfl rfl rfl rfl ?_|refine o_loadR rfl rfl rfl (by omega) rfl rfl ?_|refine o_loadW rfl rfl rfl rfl ?_|refine o_loadK rfl rfl rfl ?_)|(refine gB ?_;first|refine o_add rfl rfl rfl rfl (by omega) ?_)|(refine gI ?_;first|refine o_indexS rfl rfl rfl rfl rfl rfl (by omega) ?_|refine o_index rfl rfl rfl rfl rfl (by omega) ?_)|refine o_iface rfl rfl rfl ?_)|refine o_head0 rfl ?_|refine o_end ?_|refine o_head1 rfl ?_|refine wp_seq ?_|refine o_region ?_|refine wp_block ?_|refine wp_skip ?_|refine wp_exit ?_|(refine w_condD rfl ?_ ?_<;>intro h)|(refine w_cond rfl ?_ ?_<;>intro h<;>try exact Bool.noConfusion h)|refine w_ret (S) (vs:=[_]) rfl (Res.tmp rfl Res.nil) ?_
  refine wp_loop (fun i t ds S' => ∃ (j : Nat) (t0 : Tm), i = ls.length - j ∧ j ≤ ls.length ∧ [] = ds ∧ S = S' ∧ t = den [(11, iv j), (10, iv ls.length), (9, .slice a ls.length cp), (0, .slice a ls.length cp), (3, iv (xss.take j).flatten.length)] t0)
    ls.length ⟨0, _, rfl, Nat.zero_le _, rfl, rfl, keep ⟨rfl, rfl, rfl, rfl, rfl, trivial⟩⟩ ?_
  rintro i t ds S' ⟨j, t0, rfl, hj, rfl, rfl, rfl⟩
  have hp1 := hpre j
  have hp2 := hpre (j + 1)
  by_cases hjl : j < ls.length
  · have hsj := hls j hjl (by omega)
    have hlj : ls[j].len = xss[j].length := by obtain ⟨_, _, h, _⟩ := hsj; unfold SlG.v at h; simp only [Value.slice.injEq] at h; exact h.2.1
    have hfs : (xss.take (j + 1)).flatten.length = (xss.take j).flatten.length + ls[j].len := by rw [flat_snoc (by omega), List.length_append, hlj]
    repeat' first|(refine gX ?_;first|refine o_v rfl rfl ?_|(refine gL ?_;first|refine o_load rfl rfl rfl rfl ?_|refine o_loadR rfl rfl rfl (by omega) rfl rfl ?_|refine o_loadW rfl rfl rfl rfl ?_|refine o_loadK rfl rfl rfl ?_)|(refine gB ?_;first|refine o_add rfl rfl rfl rfl (by omega) ?_)|(refine gI ?_;first|refine o_indexS rfl rfl rfl rfl rfl rfl (by omega) ?_|refine o_index rfl rfl rfl rfl rfl (by omega) ?_)|refine o_iface rfl rfl rfl ?_)|refine o_head0 rfl ?_|refine o_end ?_|refine o_head1 rfl ?_|(refine w_condD rfl ?_ ?_<;>intro h<;>try (exact absurd h (by omega)))|refine wp_seq ?_|refine o_region ?_|refine wp_block ?_|refine wp_skip ?_|refine wp_exit ?_|(refine w_condD rfl ?_ ?_<;>intro h)|(refine w_cond rfl ?_ ?_<;>intro h<;>try exact Bool.noConfusion h)|refine w_ret (S) (vs:=[_]) rfl (Res.tmp rfl Res.nil) ?_
    exact ⟨ls.length - (j + 1), by omega, _, List.Sublist.refl _, j + 1, _, rfl, by omega, rfl, rfl, keep ⟨rfl, rfl, rfl, rfl, congrArg (fun q : Int => some (iv q)) (show ((xss.take j).flatten.length : Int) + (ls[j].len : Int) = ((xss.take (j + 1)).flatten.length : Int) by omega), trivial⟩⟩
  · have hje : j = ls.length := by omega
    subst hje
    have hta : xss.take ls.length = xss := List.take_of_length_le (by omega)
    rw [hta]
    repeat' first|(refine gX ?_;first|refine o_v rfl rfl ?_|(refine gL ?_;first|refine o_load rfl rfl rfl rfl ?_|refine o_loadR rfl rfl rfl (by omega) rfl rfl ?_|refine o_loadW rfl rfl rfl rfl ?_|refine o_loadK rfl rfl rfl ?_)|(refine gB ?_;first|refine o_add rfl rfl rfl rfl (by omega) ?_)|(refine gC ?_;first|(refine o_callZ rfl rfl rfl (c187 _ _ xss.flatten.length (by omega)) ?_;rintro r _ ⟨Δ, ho, rfl⟩;refine ⟨inferInstance, ?_⟩))|(refine gI ?_;first|refine o_indexS rfl rfl rfl rfl rfl rfl (by omega) ?_|refine o_index rfl rfl rfl rfl rfl (by omega) ?_)|refine o_iface rfl rfl rfl ?_)|refine o_head0 rfl ?_|refine o_end ?_|refine o_head1 rfl ?_|(refine w_condD rfl ?_ ?_<;>intro h<;>try (exact absurd h (by omega)))|refine wp_seq ?_|refine o_region ?_|refine wp_block ?_|refine wp_skip ?_|refine wp_exit ?_|(refine w_condD rfl ?_ ?_<;>intro h)|(refine w_cond rfl ?_ ?_<;>intro h<;>try exact Bool.noConfusion h)|refine w_ret (S) (vs:=[_]) rfl (Res.tmp rfl Res.nil) ?_
    refine wp_loop (fun i t ds S' => ∃ (j : Nat) (t0 : Tm) (w : Value) (Δ : Ents), i = ls.length - j ∧ j ≤ ls.length ∧ [] = ds ∧ Δ ++ S = S' ∧ t = den [(27, iv j), (26, iv ls.length), (25, .slice a ls.length cp), (6, w)] t0 ∧ Own w (xss.take j).flatten Δ)
      ls.length ⟨0, _, _, Δ, rfl, Nat.zero_le _, rfl, rfl, keep ⟨rfl, rfl, rfl, rfl, trivial⟩, ho⟩ ?_
    clear ho
    rintro i t ds S' ⟨j, t0, w, Δ, rfl, hj, rfl, rfl, rfl, ho⟩
    have hp1 := hpre j
    have hp2 := hpre (j + 1)
    by_cases hjl : j < ls.length
    · have hsj := hls j hjl (by omega)
      have hfs := flat_snoc (xss := xss) (j := j) (by omega)
      rw [hfs, List.length_append] at hp2
      repeat' first|(refine gX ?_;first|refine o_v rfl rfl ?_|(refine gL ?_;first|refine o_load rfl rfl rfl rfl ?_|refine o_loadR rfl rfl rfl (by omega) rfl rfl ?_|refine o_loadW rfl rfl rfl rfl ?_|refine o_loadK rfl rfl rfl ?_)|(refine gB ?_;first|refine o_add rfl rfl rfl rfl (by omega) ?_)|(refine gC ?_;first|(refine o_appendS (xs := (xss.take j).flatten) (ys := xss[j]'(by first|done|omega)) rfl rfl rfl rfl ho hsj.app (by omega) rfl rfl rfl rfl ?_;intro w2 Δ2 ho2 _;refine ⟨inferInstance, ?_⟩))|(refine gI ?_;first|refine o_indexS rfl rfl rfl rfl rfl rfl (by omega) ?_|refine o_index rfl rfl rfl rfl rfl (by omega) ?_)|refine o_iface rfl rfl rfl ?_)|refine o_head0 rfl ?_|refine o_end ?_|refine o_head1 rfl ?_|(refine w_condD rfl ?_ ?_<;>intro h<;>try (exact absurd h (by omega)))|refine wp_seq ?_|refine o_region ?_|refine wp_block ?_|refine wp_skip ?_|refine wp_exit ?_|(refine w_condD rfl ?_ ?_<;>intro h)|(refine w_cond rfl ?_ ?_<;>intro h<;>try exact Bool.noConfusion h)|refine w_ret (S) (vs:=[_]) rfl (Res.tmp rfl Res.nil) ?_
      refine ⟨ls.length - (j + 1), by omega, _, List.Sublist.refl _, j + 1, _, _, Δ2, rfl, by omega, rfl, rfl, keep ⟨rfl, rfl, rfl, rfl, trivial⟩, ?_⟩
      rw [hfs]
      exact ho2
    · have hje : j = ls.length := by omega
      subst hje
      rw [hta] at ho
      repeat' first|(refine gX ?_;first|refine o_v rfl rfl ?_|(refine gL ?_;first|refine o_load rfl rfl rfl rfl ?_|refine o_loadR rfl rfl rfl (by omega) rfl rfl ?_|refine o_loadW rfl rfl rfl rfl ?_|refine o_loadK rfl rfl rfl ?_)|(refine gB ?_;first|refine o_add rfl rfl rfl rfl (by omega) ?_)|(refine gI ?_;first|refine o_indexS rfl rfl rfl rfl rfl rfl (by omega) ?_|refine o_index rfl rfl rfl rfl rfl (by omega) ?_)|refine o_iface rfl rfl rfl ?_)|refine o_head0 rfl ?_|refine o_end ?_|refine o_head1 rfl ?_|(refine w_condD rfl ?_ ?_<;>intro h<;>try (exact absurd h (by omega)))|refine wp_seq ?_|refine o_region ?_|refine wp_block ?_|refine wp_skip ?_|refine wp_exit ?_|(refine w_condD rfl ?_ ?_<;>intro h)|(refine w_cond rfl ?_ ?_<;>intro h<;>try exact Bool.noConfusion h)|refine w_ret (Δ ++ S) (vs:=[_]) rfl (Res.tmp rfl Res.nil) ?_|refine w_ret (S) (vs:=[_]) rfl (Res.tmp rfl Res.nil) ?_
      exact ⟨Δ, ho, rfl⟩
def ddT (xs : List Int) : Nat → List Int
  | 0 => []
  | j + 1 => ddT xs j ++ (if j = 0 ∨ at0 xs j ≠ at0 xs (j - 1) then [at0 xs j] else [])
def dd (xs : List Int) : List Int := ddT xs xs.length
theorem ddT_new {xs : List Int} {j : Nat} (h : j = 0 ∨ at0 xs j ≠ at0 xs (j - 1)) : ddT xs (j + 1) = ddT xs j ++ [at0 xs j] := by
  show ddT xs j ++ _ = _
  rw [if_pos h]
theorem ddT_old {xs : List Int} {j : Nat} (h : 0 < j) (h2 : at0 xs j = at0 xs (j - 1)) : ddT xs (j + 1) = ddT xs j := by
  show ddT xs j ++ _ = _
  rw [if_neg (by simp [h2]; omega), List.append_nil]
theorem take_snoc0 {xs : List Int} {j : Nat} (h : j < xs.length) : xs.take (j + 1) = xs.take j ++ [at0 xs j] := by
  rw [List.take_succ_eq_append_getElem h, at0_get]
theorem at0_drop {xs : List Int} {k j : Nat} : at0 (xs.drop k) j = at0 xs (k + j) := by
  unfold at0
  simp [List.getD_eq_getElem?_getD]
theorem take_set_snoc {ys : List Int} {k : Nat} {v : Int} (h : k < ys.length) : (ys.set k v).take (k + 1) = ys.take k ++ [v] := by
  rw [take_snoc0 (by simpa using h), at0_set h, if_pos rfl, List.take_set_of_le (Nat.le_refl _)]
theorem own_addr {a : Option Addr} {len cap : Nat} {xs : List Int} {Δ : Ents} (h : Own (.slice a len cap) xs Δ) (h0 : 0 < xs.length) : ∃ b, a = some ⟨b, 0, none⟩ := by
  cases h with
  | nil => simp at h0
  | some => exact ⟨_, rfl⟩
theorem slVal_at {b k len cap : Nat} (hk : k < cap) : slVal (some ⟨b, 0, none⟩) 1 k len cap = .slice (some ⟨b, k, none⟩) (len - k) (cap - k) := by
  unfold slVal
  rw [if_neg (by omega)]
  simp [add_mk]
theorem own_behind {b len cap k : Nat} {xs : List Int} {Δ : Ents} (h : Own (.slice (some ⟨b, 0, none⟩) len cap) xs Δ) (hk : k < len) : SlA Δ (some ⟨b, k, none⟩) (xs.drop k) := by
  obtain ⟨a', c', e, hc, hr⟩ := h.slv
  simp only [Value.slice.injEq] at e
  obtain ⟨rfl, rfl, rfl⟩ := e
  have := SlV.slice h.slv (l := k) (hi := xs.length) (q := cap) (by omega) (Nat.le_refl _) hc
  have e1 : slVal (some ⟨b, 0, none⟩) (Enc.sz Int) k xs.length cap = .slice (some ⟨b, k, none⟩) (xs.length - k) (cap - k) := slVal_at (by omega)
  rw [e1, List.take_of_length_le (by simp)] at this
  obtain ⟨a', c', e, _, hr⟩ := this
  simp only [Value.slice.injEq] at e
  rw [e.1]
  exact hr
theorem c168 (E : Env) (S0 Δ : Ents) (xs : List Int) (a : Option Addr) (cap : Nat) (ho : Own (.slice a xs.length cap) xs Δ) (hm : xs.length ≤ 4000000) :
    CallW Tryz.prog E 168 #[.slice a xs.length cap] (Δ ++ S0) fun r S' => ∃ Δ', Own r (dd xs) Δ' ∧ S' = Δ' ++ S0 := by
  refine call_in (args := [.slice a xs.length cap]) Tryz.func168 (by decide) rfl rfl ?_
  by_cases h2 : xs.length < 2
  · have hd : dd xs = xs := by
      match xs, h2 with
      | [], _ => rfl
      | [x], _ => rfl
      | x :: y :: l, h => exact absurd h (by simp)
    repeat' first|(refine gX ?_;first|refine o_v rfl rfl ?_|(refine gL ?_;first|refine o_load rfl rfl rfl rfl ?_|refine o_loadR rfl rfl rfl (by omega) rfl rfl ?_|refine o_loadW rfl rfl rfl rfl ?_|refine o_loadK rfl rfl rfl ?_)|(refine gB ?_;first|refine o_add rfl rfl rfl rfl (by omega) ?_|refine o_sub rfl rfl rfl rfl (by omega) ?_|refine o_eqNil rfl rfl rfl rfl rfl ?_)|(refine gI ?_;first|refine o_indexS rfl rfl rfl rfl rfl rfl (by omega) ?_|refine o_index rfl rfl rfl rfl rfl (by omega) ?_)|(refine gS ?_;first|refine o_store rfl rfl rfl rfl rfl rfl ?_|refine o_storeW rfl rfl rfl rfl rfl rfl ?_))|refine o_head0 rfl ?_|refine o_end ?_|refine o_head1 rfl ?_|(refine w_condD rfl ?_ ?_<;>intro h<;>try (exact absurd (by omega) h))|refine wp_seq ?_|refine o_region ?_|refine wp_block ?_|refine wp_skip ?_|refine wp_exit ?_|(refine w_condD rfl ?_ ?_<;>intro h)|(refine w_cond rfl ?_ ?_<;>intro h<;>try exact Bool.noConfusion h)|refine w_retA (vs:=[_]) rfl (Res.tmp rfl Res.nil) ?_|refine w_ret (S) (vs:=[_]) rfl (Res.tmp rfl Res.nil) ?_|(show WP _ _ _ _ (.region 6 _ true) _ _ _ _;refine o_drawnZ [Zf 0,Zf 1,Zf 2,Zf 3,Zf 4,Zf 5,Zf 6,Zf 7,Zf 8,Zf 9] [] mixed (by kernel_rfl) (List.nil_sublist _) ?_)|(show WP _ _ _ _ (.region 11 _ true) _ _ _ _;refine o_drawnZ [Zf 0,Zf 1,Zf 2,Zf 3,Zf 4,Zf 5,Zf 6,Zf 7,Zf 8,Zf 9] [] mixed (by kernel_rfl) (List.nil_sublist _) ?_)
    rw [hd]
    exact ⟨Δ, ho, rfl⟩
  obtain ⟨b, rfl⟩ := own_addr ho (by omega)
  have hcp : xs.length ≤ cap := by obtain ⟨_, _, e, h, _⟩ := ho.slv; simp only [Value.slice.injEq] at e; omega
  repeat' first|(refine gX ?_;first|refine o_v rfl rfl ?_|(refine gL ?_;first|refine o_load rfl rfl rfl rfl ?_|refine o_loadR rfl rfl rfl (by omega) rfl rfl ?_|refine o_loadW rfl rfl rfl rfl ?_|refine o_loadK rfl rfl rfl ?_)|(refine gB ?_;first|refine o_add rfl rfl rfl rfl (by omega) ?_|refine o_sub rfl rfl rfl rfl (by omega) ?_|refine o_eqNil rfl rfl rfl rfl rfl ?_)|(refine gI ?_;first|refine o_indexS rfl rfl rfl rfl rfl rfl (by omega) ?_|refine o_index rfl rfl rfl rfl rfl (by omega) ?_)|(refine gS ?_;first|refine o_store rfl rfl rfl rfl rfl rfl ?_|refine o_storeW rfl rfl rfl rfl rfl rfl ?_))|refine o_head0 rfl ?_|refine o_end ?_|refine o_head1 rfl ?_|(refine w_condD rfl ?_ ?_<;>intro h<;>try (exact absurd h (by omega)))|refine wp_seq ?_|refine o_region ?_|refine wp_block ?_|refine wp_skip ?_|refine wp_exit ?_|(refine w_condD rfl ?_ ?_<;>intro h)|(refine w_cond rfl ?_ ?_<;>intro h<;>try exact Bool.noConfusion h)|refine w_retA (vs:=[_]) rfl (Res.tmp rfl Res.nil) ?_|refine w_ret (S) (vs:=[_]) rfl (Res.tmp rfl Res.nil) ?_|(show WP _ _ _ _ (.region 6 _ true) _ _ _ _;refine o_drawnZ [Zf 0,Zf 1,Zf 2,Zf 3,Zf 4,Zf 5,Zf 6,Zf 7,Zf 8,Zf 9] [] mixed (by kernel_rfl) (List.nil_sublist _) ?_)|(show WP _ _ _ _ (.region 11 _ true) _ _ _ _;refine o_drawnZ [Zf 0,Zf 1,Zf 2,Zf 3,Zf 4,Zf 5,Zf 6,Zf 7,Zf 8,Zf 9] [] mixed (by kernel_rfl) (List.nil_sublist _) ?_)
  refine wp_loop (fun m t ds S' => ∃ (k : Nat) (t0 : Tm), m = xs.length - k ∧ 1 ≤ k ∧ k ≤ xs.length ∧ [] = ds ∧ Δ ++ S0 = S' ∧ t = den [(3, iv k), (0, .slice (some ⟨b, 0, none⟩) xs.length cap)] t0 ∧ ddT xs k = xs.take k)
    _ ⟨1, _, rfl, Nat.le_refl _, by omega, rfl, rfl, keep ⟨rfl, rfl, trivial⟩, by rw [show (1 : Nat) = 0 + 1 from rfl, ddT_new (.inl rfl), take_snoc0 (by omega)]; simp [ddT]⟩ ?_
  rintro m t ds S' ⟨k, t0, rfl, hk1, hk2, rfl, rfl, rfl, hdk⟩
  obtain ⟨_, hrt⟩ := ho.sla
  have i6 := SlI.mk hrt
  have i7 : RowI Δ b 0 Int _ xs := ⟨fun h => (hrt h).2⟩
  repeat' first|(refine gX ?_;first|refine o_v rfl rfl ?_|(refine gL ?_;first|refine o_load rfl rfl rfl rfl ?_|refine o_loadR rfl rfl rfl (by omega) rfl rfl ?_|refine o_loadW rfl rfl rfl rfl ?_|refine o_loadK rfl rfl rfl ?_)|(refine gB ?_;first|refine o_add rfl rfl rfl rfl (by omega) ?_|refine o_sub rfl rfl rfl rfl (by omega) ?_|refine o_eqNil rfl rfl rfl rfl rfl ?_)|(refine gI ?_;first|refine o_indexZ (k - 1) rfl rfl rfl rfl rfl rfl (by omega) (by omega) ?_|refine o_indexS rfl rfl rfl rfl rfl rfl (by omega) ?_|refine o_indexS rfl rfl rfl rfl rfl rfl (by omega) ?_|refine o_index rfl rfl rfl rfl rfl (by omega) ?_)|(refine gS ?_;first|refine o_store rfl rfl rfl rfl rfl rfl ?_|refine o_storeW rfl rfl rfl rfl rfl rfl ?_)|(refine o_slice k xs.length cap rfl rfl rfl rfl rfl rfl rfl (.inl rfl) (.inr ⟨rfl, rfl, rfl⟩) (.inr ⟨rfl, rfl⟩) (by omega) (by omega) (by omega) ?_;rw [slVal_at (by omega)]))|refine o_head0 rfl ?_|refine o_end ?_|refine o_head1 rfl ?_|refine wp_seq ?_|refine o_region ?_|refine wp_block ?_|refine wp_skip ?_|refine wp_exit ?_|(refine w_condD rfl ?_ ?_<;>intro h)|(refine w_cond rfl ?_ ?_<;>intro h<;>try exact Bool.noConfusion h)|refine w_retA (vs:=[_]) rfl (Res.tmp rfl Res.nil) ?_|refine w_ret (S) (vs:=[_]) rfl (Res.tmp rfl Res.nil) ?_|(show WP _ _ _ _ (.region 6 _ true) _ _ _ _;refine o_drawnZ [Zf 0,Zf 1,Zf 2,Zf 3,Zf 4,Zf 5,Zf 6,Zf 7,Zf 8,Zf 9] [] mixed (by kernel_rfl) (List.nil_sublist _) ?_)|(show WP _ _ _ _ (.region 11 _ true) _ _ _ _;refine o_drawnZ [Zf 0,Zf 1,Zf 2,Zf 3,Zf 4,Zf 5,Zf 6,Zf 7,Zf 8,Zf 9] [] mixed (by kernel_rfl) (List.nil_sublist _) ?_)
  · clear i6 i7 hrt
    simp only [at0_get] at h
    have hdk1 : ddT xs (k + 1) = xs.take k := by rw [ddT_old (by omega) h, hdk]
    refine wp_loop (fun m t ds S' => ∃ (q i : Nat) (ys : List Int) (t0 : Tm) (Δ : Ents), m = xs.length - (k + q) ∧ 1 ≤ q ∧ k + q ≤ xs.length ∧ 1 ≤ i ∧ i + 1 ≤ k + q ∧ [] = ds ∧ Δ ++ S0 = S' ∧ t = den [(5, iv q), (4, .slice (some ⟨b, k, none⟩) (xs.length - k) (cap - k)), (3, iv i), (0, .slice (some ⟨b, 0, none⟩) xs.length cap)] t0 ∧ Own (.slice (some ⟨b, 0, none⟩) xs.length cap) ys Δ ∧ ys.length = xs.length ∧ ddT xs (k + q) = ys.take i ∧ ∀ j, i ≤ j → at0 ys j = at0 xs j)
      _ ⟨1, k, xs, _, Δ, rfl, Nat.le_refl _, by omega, hk1, Nat.le_refl _, rfl, rfl, keep ⟨rfl, rfl, rfl, rfl, trivial⟩, ho, rfl, hdk1, fun _ _ => rfl⟩ ?_
    clear ho
    rintro m t ds S' ⟨q, i, ys, t0, Δ, rfl, hq1, hq2, hi1, hi2, rfl, rfl, rfl, ho, hyl, hdq, hin⟩
    obtain ⟨_, hrt⟩ := ho.sla
    have i7 : RowI Δ b 0 Int _ ys := ⟨fun h => (hrt h).2⟩
    have hrt2 := own_behind ho (k := k) (by omega)
    have i8 := SlI.mk hrt2
    have i9 : RowI Δ b k Int _ (ys.drop k) := ⟨fun h => (hrt2 h).2⟩
    have hdl : (ys.drop k).length = xs.length - k := by rw [List.length_drop, hyl]
    have i6 := SlI.mk hrt
    have had : ∀ j, at0 (ys.drop k) j = at0 ys (k + j) := fun j => at0_drop
    repeat' first|(refine gX ?_;first|refine o_v rfl rfl ?_|(refine gL ?_;first|refine o_load rfl rfl rfl rfl ?_|refine o_loadR rfl rfl rfl (by omega) rfl rfl ?_|refine o_loadW rfl rfl rfl rfl ?_|refine o_loadK rfl rfl rfl ?_)|(refine gB ?_;first|refine o_add rfl rfl rfl rfl (by omega) ?_|refine o_sub rfl rfl rfl rfl (by omega) ?_|refine o_eqNil rfl rfl rfl rfl rfl ?_)|(refine gC ?_;first|(refine o_clearO (xs := ys.take i) rfl rfl rfl rfl rfl rfl (ho.take (i := i) (by omega)) (fun _ => ⟨i, by simp [blkA], Nat.le_refl _, by omega⟩) ?_;intro Δ3 ho3;refine ⟨_, inferInstance, ?_⟩))|(refine gI ?_;first|refine o_indexZ (q - 1) rfl rfl rfl rfl rfl hdl.symm (by omega) (by omega) ?_|refine o_indexS rfl rfl rfl rfl rfl hdl.symm (by omega) ?_|refine o_indexS rfl rfl rfl rfl rfl hyl.symm (by omega) ?_|refine o_indexS rfl rfl rfl rfl rfl rfl (by omega) ?_|refine o_index rfl rfl rfl rfl rfl (by omega) ?_)|(refine gS ?_;first|(refine o_storeO ((ys.drop k)[q]'(by first|done|omega)) rfl rfl rfl ho (by omega) rfl rfl rfl rfl ?_;intro Δ2 ho2;refine ⟨_, inferInstance, ?_⟩)|refine o_store rfl rfl rfl rfl rfl rfl ?_|refine o_storeW rfl rfl rfl rfl rfl rfl ?_)|(refine o_slice i xs.length cap rfl rfl rfl rfl rfl rfl rfl (.inl rfl) (.inr ⟨rfl, rfl, rfl⟩) (.inr ⟨rfl, rfl⟩) (by omega) (by omega) (by omega) ?_;rw [slVal_at (by omega)])|refine o_slice 0 i cap rfl rfl rfl rfl rfl rfl rfl (.inr ⟨rfl, rfl⟩) (.inl rfl) (.inr ⟨rfl, rfl⟩) (by omega) (by omega) (by omega) ?_)|refine o_head0 rfl ?_|refine o_end ?_|refine o_head1 rfl ?_|refine wp_seq ?_|refine o_region ?_|refine wp_block ?_|refine wp_skip ?_|refine wp_exit ?_|(refine w_condD rfl ?_ ?_<;>intro h)|(refine w_cond rfl ?_ ?_<;>intro h<;>try exact Bool.noConfusion h)|refine w_retA (vs:=[_]) rfl (Res.tmp rfl Res.nil) ?_|refine w_ret (S) (vs:=[_]) rfl (Res.tmp rfl Res.nil) ?_|(show WP _ _ _ _ (.region 6 _ true) _ _ _ _;refine o_drawnZ [Zf 0,Zf 1,Zf 2,Zf 3,Zf 4,Zf 5,Zf 6,Zf 7,Zf 8,Zf 9] [] mixed (by kernel_rfl) (List.nil_sublist _) ?_)|(show WP _ _ _ _ (.region 11 _ true) _ _ _ _;refine o_drawnZ [Zf 0,Zf 1,Zf 2,Zf 3,Zf 4,Zf 5,Zf 6,Zf 7,Zf 8,Zf 9] [] mixed (by kernel_rfl) (List.nil_sublist _) ?_)
    · simp only [at0_get, had] at ho2 h
      have e1 : at0 ys (k + q) = at0 xs (k + q) := hin _ (by omega)
      have e2 : at0 ys (k + (q - 1)) = at0 xs (k + q - 1) := by rw [hin _ (by omega)]; congr 1; omega
      rw [e1, e2] at h
      rw [e1] at ho2
      exact ⟨xs.length - (k + (q + 1)), by omega, _, List.Sublist.refl _, q + 1, i + 1, _, _, Δ2, rfl, by omega, by omega, by omega, by omega, rfl, rfl, keep ⟨rfl, rfl, rfl, rfl, trivial⟩, ho2, by rw [List.length_set, hyl],
        by rw [← Nat.add_assoc, ddT_new (.inr h), hdq, take_set_snoc (by omega)], fun j hj => by rw [at0_set (by omega), if_neg (by omega)]; exact hin _ (by omega)⟩
    · simp only [at0_get, had] at h
      have e1 : at0 ys (k + q) = at0 xs (k + q) := hin _ (by omega)
      have e2 : at0 ys (k + (q - 1)) = at0 xs (k + q - 1) := by rw [hin _ (by omega)]; congr 1; omega
      rw [e1, e2] at h
      exact ⟨xs.length - (k + (q + 1)), by omega, _, List.Sublist.refl _, q + 1, i, _, _, Δ, rfl, by omega, by omega, by omega, by omega, rfl, rfl, keep ⟨rfl, rfl, rfl, rfl, trivial⟩, ho, hyl,
        by rw [← Nat.add_assoc, ddT_old (by omega) (Classical.not_not.1 h), hdq], hin⟩
    · have hke : k + q = xs.length := by omega
      rw [hke] at hdq
      have := ho3.front (i := i) (by simp; omega)
      rw [List.take_take, Nat.min_self, ← hdq] at this
      exact ⟨Δ3, this, rfl⟩
  · simp only [at0_get] at h
    exact ⟨xs.length - (k + 1), by omega, _, List.Sublist.refl _, k + 1, _, rfl, by omega, by omega, rfl, rfl, keep ⟨rfl, rfl, trivial⟩, by rw [ddT_new (.inr h), take_snoc0 (by omega), hdk]⟩
  · have hke : k = xs.length := by omega
    rw [hke, List.take_length] at hdk
    exact ⟨Δ, by unfold dd; rw [hdk]; exact ho, rfl⟩
def sortedL (xss : List (List Int)) : List Int := dd (srtL xss.flatten)
theorem c126 (E : Env) (S : Ents) (ls : List SlG) (xss : List (List Int)) (v : Value) (hv : SlV S v ls) (hll : ls.length = xss.length) (hls : ∀ j (h : j < ls.length) (h2 : j < xss.length), SlV S ls[j].v xss[j]) (hm : xss.flatten.length ≤ 4000000) (hm2 : ls.length ≤ 4000000) (hs : SortOk xss.flatten) :
    CallW Tryz.prog E 126 #[v] S fun r S' => ∃ Δ, Own r (sortedL xss) Δ ∧ S' = Δ ++ S := by
  have hv' := hv
  obtain ⟨a, cp, rfl, _, hr⟩ := hv'
  refine call_in (args := [.slice a ls.length cp]) Tryz.func126 (by decide) rfl rfl ?_
  have hsl := srtL_len xss.flatten
  repeat' first|(refine gX ?_;first|refine o_v rfl rfl ?_|(refine gC ?_;first|(refine o_callZ rfl rfl rfl (c166 _ S ls xss _ hv hll hls hm hm2) ?_;rintro r _ ⟨Δ, ho, rfl⟩;obtain ⟨wa, wc, rfl, _, _⟩ := ho.slv;refine ⟨inferInstance, ?_⟩)|(refine o_callZ rfl rfl rfl (c167 _ S Δ xss.flatten _ _ ho hs hm) ?_;rintro r _ ⟨Δ2, ho2, rfl⟩;rw [← hsl] at ho2;refine ⟨inferInstance, ?_⟩)|(refine o_callZ rfl rfl rfl (by rw [← hsl]; exact c168 _ S Δ2 (srtL xss.flatten) _ _ ho2 (by omega)) ?_;rintro r _ ⟨Δ3, ho3, rfl⟩;refine ⟨inferInstance, ?_⟩)))|refine o_head0 rfl ?_|refine o_end ?_|refine o_head1 rfl ?_|refine wp_seq ?_|refine o_region ?_|refine w_retA (vs:=[_]) rfl (Res.tmp rfl Res.nil) ?_|refine w_ret (S) (vs:=[_]) rfl (Res.tmp rfl Res.nil) ?_
  exact ⟨Δ3, ho3, rfl⟩
end Go.Proofs.YtpnnmklacialgaaGreat
namespace Go.Proofs.YtpnnmklacialgaaGreat
open Go.Conc
attribute [local irreducible] WP OpF OpX CallW SemH retQ AnyF RoundW
def nightsL (n : NetG) : List (List Int) := [n.uses.flatMap nightsUse, n.readings.flatMap nightsRead, n.faults.flatMap nightsFault]
def timesL (n : NetG) : List (List Int) := [n.uses.map (·.period), n.readings.map (·.period), n.faults.map (·.period)]
def datesN (n : NetG) : List Int := sortedL (nightsL n)
def periodsN (n : NetG) : List Int := sortedL (timesL n)
theorem flatMap_le {α : Type} {f : α → List Int} (hf : ∀ x, (f x).length ≤ 2) : ∀ l : List α, (l.flatMap f).length ≤ 2 * l.length
  | [] => by simp
  | x :: l => by
    have h1 := hf x
    have h2 := flatMap_le hf l
    simp only [List.flatMap_cons, List.length_append, List.length_cons]
    omega
theorem nightsUse_le (x : UseG) : (nightsUse x).length ≤ 2 := by unfold nightsUse; split <;> simp
theorem nightsRead_le (x : ReadG) : (nightsRead x).length ≤ 2 := by unfold nightsRead; split <;> simp
theorem nightsFault_le (x : FaultG) : (nightsFault x).length ≤ 2 := by unfold nightsFault; split <;> simp
theorem nightsL_len {n : NetG} (h : Valid n) : (nightsL n).flatten.length ≤ 360 := by
  have h1 := flatMap_le nightsUse_le n.uses
  have h2 := flatMap_le nightsRead_le n.readings
  have h3 := flatMap_le nightsFault_le n.faults
  have h4 := h.u60
  have h5 := h.r60
  have h6 := h.f60
  simp only [nightsL, List.flatten_cons, List.flatten_nil, List.length_append, List.append_nil]
  omega
theorem timesL_len {n : NetG} (h : Valid n) : (timesL n).flatten.length ≤ 180 := by
  have h4 := h.u60
  have h5 := h.r60
  have h6 := h.f60
  simp only [timesL, List.flatten_cons, List.flatten_nil, List.length_append, List.append_nil, List.length_map]
  omega
theorem slv_three {S : Ents} {b : Nat} {v0 v1 v2 : SlG} {tb : TypeId} : SlV (⟨b, true, .cells #[v0.v, v1.v, v2.v] tb (0, 0)⟩ :: S) (.slice (some ⟨b, 0, none⟩) 3 3) [v0, v1, v2] :=
  slv_one (xs := [v0, v1, v2]) (mn := true) (.head _) rfl (Nat.le_refl _)
theorem three_sl {S : Ents} {v0 v1 v2 : SlG} {x0 x1 x2 : List Int} (h0 : SlV S v0.v x0) (h1 : SlV S v1.v x1) (h2 : SlV S v2.v x2) : ∀ j (h : j < [v0, v1, v2].length) (h2 : j < [x0, x1, x2].length), SlV S ([v0, v1, v2][j]).v [x0, x1, x2][j]
  | 0, _, _ => h0
  | 1, _, _ => h1
  | 2, _, _ => h2
  | j + 3, h, _ => absurd h (by simp)
theorem c97 (E : Env) (S : Ents) (n : NetG) (a b c d e : Value) (hn : NetV S a b c d e n) (hV : Valid n) (hs : SortOk (nightsL n).flatten) :
    CallW Tryz.prog E 97 #[.agg #[a, b, c, d, e]] S fun r S' => ∃ Δ, Own r (datesN n) Δ ∧ S' = Δ ++ S := by
  have hu := hV.u60
  have hr := hV.r60
  have hf := hV.f60
  have hnl := nightsL_len hV
  refine call_in (args := [.agg #[a, b, c, d, e]]) Tryz.func97 (by decide) rfl rfl ?_
  repeat' first|(refine gX ?_;first|refine o_v rfl rfl ?_|(refine gL ?_;first|refine o_load rfl rfl rfl rfl ?_|refine o_loadR rfl rfl rfl (by omega) rfl rfl ?_|refine o_loadW rfl rfl rfl rfl ?_|refine o_loadK rfl rfl rfl ?_)|(refine gC ?_;first|(refine o_callZ (R:=fun r S' => ∃ Δ, Own r n.uses Δ ∧ S' = Δ ++ _) rfl rfl rfl (c139 _ _ n _ _ _ _ _ (hn.sub Sb.h) (by omega)) ?_;rintro r _ ⟨Δu, hou, rfl⟩;refine ⟨inferInstance, ?_⟩)|(refine o_callZ (R:=fun r S' => ∃ Δ, Own r (n.uses.flatMap nightsUse) Δ ∧ S' = Δ ++ _) rfl rfl rfl (c157 _ _ n.uses _ (hou.slv.sub Sb.h) (by omega)) ?_;rintro r _ ⟨Δu2, hou2, rfl⟩;obtain ⟨ua, uc, rfl, _, hua⟩ := hou2.slv;refine ⟨inferInstance, ?_⟩)|(refine o_callZ (R:=fun r S' => ∃ Δ, Own r n.readings Δ ∧ S' = Δ ++ _) rfl rfl rfl (c107 _ _ n _ _ _ _ _ (hn.sub Sb.h) (by omega)) ?_;rintro r _ ⟨Δr, hor, rfl⟩;refine ⟨inferInstance, ?_⟩)|(refine o_callZ (R:=fun r S' => ∃ Δ, Own r (n.readings.flatMap nightsRead) Δ ∧ S' = Δ ++ _) rfl rfl rfl (c158 _ _ n.readings _ (hor.slv.sub Sb.h) (by omega)) ?_;rintro r _ ⟨Δr2, hor2, rfl⟩;obtain ⟨ra, rc, rfl, _, hra⟩ := hor2.slv;refine ⟨inferInstance, ?_⟩)|(refine o_callZ (R:=fun r S' => ∃ Δ, Own r n.faults Δ ∧ S' = Δ ++ _) rfl rfl rfl (c142 _ _ n _ _ _ _ _ (hn.sub Sb.h) (by omega)) ?_;rintro r _ ⟨Δf, hof, rfl⟩;refine ⟨inferInstance, ?_⟩)|(refine o_callZ (R:=fun r S' => ∃ Δ, Own r (n.faults.flatMap nightsFault) Δ ∧ S' = Δ ++ _) rfl rfl rfl (c159 _ _ n.faults _ (hof.slv.sub Sb.h) (by omega)) ?_;rintro r _ ⟨Δf2, hof2, rfl⟩;obtain ⟨fa, fc, rfl, _, hfa⟩ := hof2.slv;refine ⟨inferInstance, ?_⟩)|(refine o_callZ (R:=fun r S' => ∃ Δ, Own r (datesN n) Δ ∧ S' = Δ ++ _) rfl rfl rfl (c126 _ _ [⟨ua, (n.uses.flatMap nightsUse).length, uc⟩, ⟨ra, (n.readings.flatMap nightsRead).length, rc⟩, ⟨fa, (n.faults.flatMap nightsFault).length, fc⟩] (nightsL n) _ slv_three rfl (three_sl (hou2.slv.sub Sb.h) (hor2.slv.sub Sb.h) (hof2.slv.sub Sb.h)) (by omega) (by simp) hs) ?_;rintro r _ ⟨Δo, hoo, rfl⟩;refine ⟨inferInstance, ?_⟩))|(refine o_box rfl rfl rfl ?_;intro _)|(refine o_bslice rfl rfl rfl rfl rfl rfl rfl ?_;intro _))|refine o_head0 rfl ?_|refine o_end ?_|refine o_head1 rfl ?_|refine wp_seq ?_|refine o_region ?_|refine w_ret (Δo ++ S) (vs:=[_]) rfl (Res.tmp rfl Res.nil) ?_|refine w_ret (S) (vs:=[_]) rfl (Res.tmp rfl Res.nil) ?_|(show WP _ _ _ _ (.region 1 _ true) _ _ _ _;refine o_drawn [Zf 0,Zt 3,Zt 6,Zf 1,Zf 2,Zf 4,Zf 5,Zt 7,Zt 8,Zt 9,Zt 10,Zf 11] mixed (by kernel_rfl) ?_)
  exact ⟨Δo, hoo, rfl⟩
end Go.Proofs.YtpnnmklacialgaaGreat
namespace Go.Proofs.YtpnnmklacialgaaGreat
open Go.Conc
inductive HB0 (t : Trace) : Nat → Nat → Prop
  | po {i j : Nat} {x y : MemOp} : i < j → t[i]? = some x → t[j]? = some y → x.g = y.g → HB0 t i j
  | spawn {i j child : Nat} {x y : MemOp} : t[i]? = some x → t[j]? = some y → x.act = .go child → y.act = .start → y.g = child → HB0 t i j
  | closed {i j c : Nat} {x y : MemOp} : t[i]? = some x → t[j]? = some y → x.act = .close c → y.act = .recvClosed c → HB0 t i j
  | trans {i j k : Nat} : HB0 t i j → HB0 t j k → HB0 t i k
theorem get_old {t u : Trace} {i : Nat} {x : MemOp} (h : t[i]? = some x) : (t ++ u)[i]? = some x := by
  rw [getElem?_append_old (lt_size_of_getElem? h)]; exact h
theorem HB0.append {t u : Trace} {i j : Nat} (h : HB0 t i j) : HB0 (t ++ u) i j := by
  induction h with
  | po h1 h2 h3 h4 => exact .po h1 (get_old h2) (get_old h3) h4
  | spawn h1 h2 h3 h4 h5 => exact .spawn (get_old h1) (get_old h2) h3 h4 h5
  | closed h1 h2 h3 h4 => exact .closed (get_old h1) (get_old h2) h3 h4
  | trans _ _ a b => exact .trans a b
def MarkOk (m : Mark) : Prop := m = .noRoom ∨ ∃ f, m = .extern f
def QuietOp (op : MemOp) : Prop := ∀ m, op.act = .mark m → MarkOk m
def Quiet (t : Trace) : Prop := ∀ op ∈ t, QuietOp op
theorem Quiet.append {t u : Trace} (ht : Quiet t) (hu : Quiet u) : Quiet (t ++ u) := by
  intro op hop
  rcases Array.mem_append.1 hop with h | h
  · exact ht op h
  · exact hu op h
theorem Quiet.deaf {t : Trace} (h : Quiet t) (g : Nat) : ∀ i, t.deaf g i = 0 := by
  intro i
  induction i with
  | zero => rfl
  | succ i ih =>
    unfold Trace.deaf
    split
    · rename_i hh _ _ heq
      rcases h _ (mem_of_getElem? heq) .disable rfl with e | ⟨f, e⟩ <;> cases e
    · rename_i hh _ _ heq
      rcases h _ (mem_of_getElem? heq) .enable rfl with e | ⟨f, e⟩ <;> cases e
    · exact ih
theorem Quiet.heard {t : Trace} (h : Quiet t) {i : Nat} {op : MemOp} (hi : t[i]? = some op) : t.heard i := ⟨op.g, by simp [Trace.g?, hi], h.deaf _ _⟩
theorem HB0.hb {t : Trace} {i j : Nat} (h : HB0 t i j) (hq : Quiet t) : HappensBefore t i j := by
  induction h with
  | po h1 h2 h3 h4 => exact hb_po h1 h2 h3 h4
  | @spawn i j child x y h1 h2 h3 h4 h5 => exact .single (.inr ⟨.spawn (child := child) (by simp [Trace.act?, h1, h3]) (by simp [Trace.act?, h2, h4]) (by simp [Trace.g?, h2, h5]), hq.heard h1, hq.heard h2⟩)
  | @closed i j c x y h1 h2 h3 h4 => exact .single (.inr ⟨.closed (c := c) (by simp [Trace.act?, h1, h3]) (by simp [Trace.act?, h2, h4]), hq.heard h1, hq.heard h2⟩)
  | trans _ _ a b => exact a.trans b
def Known (t : Trace) (g i : Nat) : Prop := ∃ j y, t[j]? = some y ∧ y.g = g ∧ (i = j ∨ HB0 t i j)
theorem Known.append {t u : Trace} {g i : Nat} (h : Known t g i) : Known (t ++ u) g i := by
  obtain ⟨j, y, h1, h2, h3⟩ := h
  exact ⟨j, y, get_old h1, h2, h3.imp id fun x => x.append⟩
theorem Known.to {t : Trace} {g i k : Nat} {y : MemOp} (h : Known t g i) (hk : t[k]? = some y) (hg : y.g = g) (hlt : ∀ j x, t[j]? = some x → x.g = g → (i = j ∨ HB0 t i j) → j < k) : HB0 t i k := by
  obtain ⟨j, x, h1, h2, h3⟩ := h
  have hp : HB0 t j k := .po (hlt j x h1 h2 h3) h1 hk (h2.trans hg.symm)
  rcases h3 with rfl | h3
  · exact hp
  · exact .trans h3 hp
theorem Known.new {t u : Trace} {g i k : Nat} {y : MemOp} (h : Known t g i) (hk : (t ++ u)[k]? = some y) (hs : t.size ≤ k) (hg : y.g = g) : HB0 (t ++ u) i k := by
  obtain ⟨j, x, h1, h2, h3⟩ := h
  have hp : HB0 (t ++ u) j k := .po (Nat.lt_of_lt_of_le (lt_size_of_getElem? h1) hs) (get_old h1) hk (h2.trans hg.symm)
  rcases h3 with rfl | h3
  · exact hp
  · exact .trans h3.append hp
theorem Known.self {t : Trace} {i : Nat} {op : MemOp} (h : t[i]? = some op) : Known t op.g i := ⟨i, op, h, rfl, .inl rfl⟩
def Tou (O ro : Nat → Prop) (op : MemOp) : Prop := ∀ x, op.act.touch? = some x → match x.loc with
  | .cell a => if x.write then O a.block else O a.block ∨ ro a.block
  | .obj r => O r
  | _ => False
theorem Tou.mono {O O' ro : Nat → Prop} {op : MemOp} (h : Tou O ro op) (ho : ∀ b, O b → O' b) : Tou O' ro op := by
  intro x hx
  have := h x hx
  revert this
  cases x.loc <;> simp only
  · split
    · exact ho _
    · exact Or.imp (ho _) id
  · exact ho _
  all_goals exact id
structure Apart (O Oc ro : Nat → Prop) : Prop where
  a : ∀ b, O b → ¬ Oc b
  b : ∀ b, O b → ¬ ro b
  c : ∀ b, Oc b → ¬ ro b
theorem Apart.swap {O Oc ro : Nat → Prop} (h : Apart O Oc ro) : Apart Oc O ro := ⟨fun b x y => h.a b y x, h.c, h.b⟩
theorem Apart.no {O Oc ro : Nat → Prop} (h : Apart O Oc ro) {p q : MemOp} {x y : Touch} (hp : Tou O ro p) (hq : Tou Oc ro q) (hx : p.act.touch? = some x) (hy : q.act.touch? = some y) (hl : x.loc = y.loc) (hw : x.write = true ∨ y.write = true) : False := by
  have h1 := hp x hx
  have h2 := hq y hy
  rw [← hl] at h2
  revert h1 h2
  cases x.loc <;> simp only
  · rename_i a
    rcases hw with hw | hw
    · rw [if_pos hw]
      intro h1 h2
      split at h2
      · exact h.a _ h1 h2
      · exact h2.elim (h.a _ h1) (h.b _ h1)
    · rw [if_pos hw]
      intro h1 h2
      split at h1
      · exact h.a _ h1 h2
      · exact h1.elim (fun z => h.a _ z h2) (h.c _ h2)
  · exact fun h1 h2 => h.a _ h1 h2
  all_goals exact fun h1 => h1.elim
def Conf (t : Trace) (i j : Nat) : Prop := ∃ p q x y, t[i]? = some p ∧ t[j]? = some q ∧ p.act.touch? = some x ∧ q.act.touch? = some y ∧ x.loc = y.loc ∧ (x.write = true ∨ y.write = true)
def Ord (t : Trace) : Prop := ∀ i j, i < j → Conf t i j → HB0 t i j
theorem Ord.noRace {t : Trace} (h : Ord t) (hq : Quiet t) (said : Bool) : ¬ Race said t := by
  rintro ⟨i, j, hij, ⟨x, y, hx, hy, hloc, _, hwr, _⟩, hn, _⟩
  obtain ⟨oi, hoi, hxi⟩ := touch_of hx
  obtain ⟨oj, hoj, hyj⟩ := touch_of hy
  exact hn ((h i j hij ⟨oi, oj, x, y, hoi, hoj, hxi, hyj, hloc, hwr⟩).hb hq)
theorem Ord.append {t u : Trace} {g : Nat} (h : Ord t) (hu : ∀ op ∈ u, op.g = g)
    (hk : ∀ i p, t[i]? = some p → ∀ q ∈ u, ∀ x y, p.act.touch? = some x → q.act.touch? = some y → x.loc = y.loc → (x.write = true ∨ y.write = true) → Known t g i) : Ord (t ++ u) := by
  rintro i j hij ⟨p, q, x, y, hi, hj, hx, hy, hl, hw⟩
  rcases getElem?_append_cases hj with ⟨hjl, hj'⟩ | ⟨hjl, hjm⟩
  · have hi' : t[i]? = some p := by rw [getElem?_append_old (by omega)] at hi; exact hi
    exact (h i j hij ⟨p, q, x, y, hi', hj', hx, hy, hl, hw⟩).append
  · rcases getElem?_append_cases hi with ⟨_, hi'⟩ | ⟨_, him⟩
    · exact (hk i p hi' q hjm x y hx hy hl hw).new hj hjl (hu q hjm)
    · exact .po hij hi hj ((hu p him).trans (hu q hjm).symm)
theorem Ord.still {t u : Trace} (h : Ord t) (hu : ∀ op ∈ u, op.act.touch? = none) : Ord (t ++ u) := by
  rintro i j hij ⟨p, q, x, y, hi, hj, hx, hy, hl, hw⟩
  rcases getElem?_append_cases hj with ⟨hjl, hj'⟩ | ⟨hjl, hjm⟩
  · have hi' : t[i]? = some p := by rw [getElem?_append_old (by omega)] at hi; exact hi
    exact (h i j hij ⟨p, q, x, y, hi', hj', hx, hy, hl, hw⟩).append
  · rw [hu q hjm] at hy; cases hy
structure TAl (t : Trace) : Prop where
  quiet : Quiet t
  ord : Ord t
  known : ∀ i op x, t[i]? = some op → op.act.touch? = some x → Known t 0 i
theorem TAl.empty : TAl #[] := ⟨fun op h => by simp at h, fun i j _ ⟨p, _, _, _, hi, _⟩ => by simp at hi, fun i op x h => by simp at h⟩
theorem TAl.add {t u : Trace} (h : TAl t) (hq : Quiet u) (hu : ∀ op ∈ u, op.g = 0) : TAl (t ++ u) := by
  refine ⟨h.quiet.append hq, h.ord.append hu fun i p hi q hq x y hx hy hl hw => h.known i p x hi hx, fun i op x hi hx => ?_⟩
  rcases getElem?_append_cases hi with ⟨_, hi'⟩ | ⟨_, hm⟩
  · exact (h.known i op x hi' hx).append
  · have := Known.self hi
    rwa [hu op hm] at this
theorem TAl.handedOver {t : Trace} (h : TAl t) : t.HandedOver := by
  intro i g hg hne hcount
  obtain ⟨x, hx, _, _⟩ := hcount
  obtain ⟨oi, hoi, hxi⟩ := touch_of hx
  obtain ⟨j, y, h1, h2, h3⟩ := h.known i oi x hoi hxi
  have hgi : oi.g = g := by simpa [Trace.g?, hoi] using hg
  refine ⟨j, by simp [Trace.g?, h1, h2], ?_⟩
  rcases h3 with rfl | h3
  · rw [hoi] at h1; cases h1; exact absurd (hgi.symm.trans h2) hne
  · exact h3.hb h.quiet
structure TDu (t : Trace) (g h : Nat) (O Oc ro : Nat → Prop) : Prop where
  quiet : Quiet t
  ord : Ord t
  cls : ∀ i op x, t[i]? = some op → op.act.touch? = some x → (Known t g i ∧ Known t h i) ∨ (op.g = g ∧ Tou O ro op) ∨ (op.g = h ∧ Tou Oc ro op)
theorem TDu.swap {t : Trace} {g h : Nat} {O Oc ro : Nat → Prop} (d : TDu t g h O Oc ro) : TDu t h g Oc O ro :=
  ⟨d.quiet, d.ord, fun i op x h1 h2 => (d.cls i op x h1 h2).elim (fun k => .inl ⟨k.2, k.1⟩) fun k => .inr (k.elim .inr .inl)⟩
theorem TDu.add {t u : Trace} {g h : Nat} {O O' Oc ro : Nat → Prop} (d : TDu t g h O Oc ro) (hq : Quiet u) (hu : ∀ op ∈ u, op.g = g ∧ Tou O' ro op) (ho : ∀ b, O b → O' b) (ha : Apart O' Oc ro) : TDu (t ++ u) g h O' Oc ro := by
  refine ⟨d.quiet.append hq, d.ord.append (fun op ho => (hu op ho).1) fun i p hi q hqm x y hx hy hl hw => ?_, fun i op x hi hx => ?_⟩
  · rcases d.cls i p x hi hx with k | ⟨k, _⟩ | ⟨_, k⟩
    · exact k.1
    · exact ⟨i, p, hi, k, .inl rfl⟩
    · exact (ha.no (hu q hqm).2 k hy hx hl.symm (Or.comm.1 hw)).elim
  · rcases getElem?_append_cases hi with ⟨_, hi'⟩ | ⟨_, hm⟩
    · rcases d.cls i op x hi' hx with k | ⟨k, k2⟩ | k
      · exact .inl ⟨k.1.append, k.2.append⟩
      · exact .inr (.inl ⟨k, k2.mono ho⟩)
      · exact .inr (.inr k)
    · exact .inr (.inl (hu op hm))
theorem TDu.still {t u : Trace} {g h : Nat} {O Oc ro : Nat → Prop} (d : TDu t g h O Oc ro) (hq : Quiet u) (hu : ∀ op ∈ u, op.act.touch? = none) : TDu (t ++ u) g h O Oc ro := by
  refine ⟨d.quiet.append hq, d.ord.still hu, fun i op x hi hx => ?_⟩
  rcases getElem?_append_cases hi with ⟨_, hi'⟩ | ⟨_, hm⟩
  · exact (d.cls i op x hi' hx).imp (fun k => ⟨k.1.append, k.2.append⟩) id
  · rw [hu op hm] at hx; cases hx
theorem TAl.fork {t : Trace} {n : Nat} {x y : MemOp} {O ro : Nat → Prop} (h : TAl t) (hx : x.g = 0 ∧ x.act = .go n) (hy : y.g = n ∧ y.act = .start) : TDu ((t.push x).push y) 0 n O (fun _ => False) ro := by
  have e : (t.push x).push y = t ++ #[x, y] := by
    rw [Array.push_eq_append, Array.push_eq_append, Array.append_assoc]; rfl
  rw [e]
  have q : Quiet #[x, y] := by
    intro op hop m hm
    simp at hop
    rcases hop with rfl | rfl
    · rw [hx.2] at hm; cases hm
    · rw [hy.2] at hm; cases hm
  have ht : ∀ op ∈ (#[x, y] : Trace), op.act.touch? = none := by
    intro op hop
    simp at hop
    rcases hop with rfl | rfl
    · rw [hx.2]; rfl
    · rw [hy.2]; rfl
  have g0 : (t ++ #[x, y])[t.size]? = some x := by rw [Array.getElem?_append_right (Nat.le_refl _)]; simp
  have g1 : (t ++ #[x, y])[t.size + 1]? = some y := by rw [Array.getElem?_append_right (Nat.le_succ _)]; simp
  refine ⟨h.quiet.append q, h.ord.still ht, fun i op z hi hz => ?_⟩
  rcases getElem?_append_cases hi with ⟨_, hi'⟩ | ⟨_, hm⟩
  · have k := h.known i op z hi' hz
    have h1 := k.new g0 (Nat.le_refl _) hx.1
    exact .inl ⟨k.append, t.size + 1, y, g1, hy.1, .inr (.trans h1 (.spawn g0 g1 hx.2 hy.2 hy.1))⟩
  · rw [ht op hm] at hz; cases hz
structure TSh (t : Trace) (c : Nat) (O Oc ro : Nat → Prop) : Prop where
  quiet : Quiet t
  ord : Ord t
  cls : ∀ i op x, t[i]? = some op → op.act.touch? = some x → Known t 0 i ∨ (Tou Oc ro op ∧ ∃ pc y, t[pc]? = some y ∧ y.act = .close c ∧ HB0 t i pc)
theorem TDu.shut {t : Trace} {n c : Nat} {O Oc ro : Nat → Prop} {y : MemOp} (d : TDu t 0 n O Oc ro) (hy : y.g = n ∧ y.act = .close c) : TSh (t.push y) c O Oc ro := by
  rw [Array.push_eq_append]
  have q : Quiet #[y] := by
    intro op hop m hm
    simp at hop
    subst hop
    rw [hy.2] at hm; cases hm
  have ht : ∀ op ∈ (#[y] : Trace), op.act.touch? = none := by
    intro op hop
    simp at hop
    subst hop
    rw [hy.2]; rfl
  have g0 : (t ++ #[y])[t.size]? = some y := by rw [Array.getElem?_append_right (Nat.le_refl _)]; simp
  refine ⟨d.quiet.append q, d.ord.still ht, fun i op z hi hz => ?_⟩
  rcases getElem?_append_cases hi with ⟨_, hi'⟩ | ⟨_, hm⟩
  · rcases d.cls i op z hi' hz with k | ⟨k, _⟩ | ⟨k, k2⟩
    · exact .inl k.1.append
    · exact .inl ⟨i, op, hi, k, .inl rfl⟩
    · exact .inr ⟨k2, t.size, y, g0, hy.2, .po (lt_size_of_getElem? hi') hi g0 (k.trans hy.1.symm)⟩
  · rw [ht op hm] at hz; cases hz
theorem TSh.add {t u : Trace} {c : Nat} {O O' Oc ro : Nat → Prop} (d : TSh t c O Oc ro) (hq : Quiet u) (hu : ∀ op ∈ u, op.g = 0 ∧ Tou O' ro op) (ha : Apart O' Oc ro) : TSh (t ++ u) c O' Oc ro := by
  refine ⟨d.quiet.append hq, d.ord.append (fun op ho => (hu op ho).1) fun i p hi q hqm x y hx hy hl hw => ?_, fun i op x hi hx => ?_⟩
  · rcases d.cls i p x hi hx with k | ⟨k, _⟩
    · exact k
    · exact (ha.no (hu q hqm).2 k hy hx hl.symm (Or.comm.1 hw)).elim
  · rcases getElem?_append_cases hi with ⟨_, hi'⟩ | ⟨_, hm⟩
    · rcases d.cls i op x hi' hx with k | ⟨k, pc, y, k1, k2, k3⟩
      · exact .inl k.append
      · exact .inr ⟨k, pc, y, get_old k1, k2, k3.append⟩
    · have := Known.self hi
      rw [(hu op hm).1] at this
      exact .inl this
theorem TSh.join {t : Trace} {c : Nat} {O Oc ro : Nat → Prop} {y : MemOp} (d : TSh t c O Oc ro) (hy : y.g = 0 ∧ y.act = .recvClosed c) : TAl (t.push y) := by
  rw [Array.push_eq_append]
  have q : Quiet #[y] := by
    intro op hop m hm
    simp at hop
    subst hop
    rw [hy.2] at hm; cases hm
  have ht : ∀ op ∈ (#[y] : Trace), op.act.touch? = none := by
    intro op hop
    simp at hop
    subst hop
    rw [hy.2]; rfl
  have g0 : (t ++ #[y])[t.size]? = some y := by rw [Array.getElem?_append_right (Nat.le_refl _)]; simp
  refine ⟨d.quiet.append q, d.ord.still ht, fun i op z hi hz => ?_⟩
  rcases getElem?_append_cases hi with ⟨_, hi'⟩ | ⟨_, hm⟩
  · rcases d.cls i op z hi' hz with k | ⟨_, pc, x, k1, k2, k3⟩
    · exact k.append
    · exact ⟨t.size, y, g0, hy.1, .inr (.trans k3.append (.closed (get_old k1) g0 k2 hy.2))⟩
  · rw [ht op hm] at hz; cases hz
theorem ofEvents_spec {O ro : Nat → Prop} {k n n' : Nat} {fn : FuncId} {pos : String} {es : Array Event} (h : ∀ e ∈ es, EvOk O ro n n' e) : Quiet (MemOp.ofEvents k fn pos es) ∧ ∀ op ∈ MemOp.ofEvents k fn pos es, op.g = k ∧ Tou (fun b => O b ∨ (n ≤ b ∧ b < n')) ro op := by
  rw [ofEvents_eq]
  have key : ∀ e ∈ es, QuietOp { g := k, fn, pos, act := .ofEvent e } ∧ Tou (fun b => O b ∨ (n ≤ b ∧ b < n')) ro { g := k, fn, pos, act := .ofEvent e } := by
    intro e he
    have hk := h e he
    obtain ⟨loc, wr, sy⟩ := e
    unfold EvOk at hk
    cases loc <;> simp only at hk
    case cell a =>
      obtain ⟨rfl, h2, h3⟩ := hk
      have ea : MemAct.ofEvent ⟨.cell a, wr, false⟩ = .access ⟨.cell a, wr, false⟩ := by cases wr <;> rfl
      refine ⟨fun m hm => (by simp only [ea] at hm; cases hm), fun x hx => ?_⟩
      simp only [ea, MemAct.touch?, Option.some.injEq] at hx
      subst hx
      simp only
      cases wr with
      | true =>
        simp only [if_true] at h3 ⊢
        exact h3.imp id fun x => ⟨x, h2⟩
      | false =>
        simp only [Bool.false_eq_true, if_false] at h3 ⊢
        exact h3.imp (Or.imp id fun x => ⟨x, h2⟩) id
    case obj r =>
      obtain ⟨rfl, h2, h3⟩ := hk
      have ea : MemAct.ofEvent ⟨.obj r, wr, false⟩ = .access ⟨.obj r, wr, false⟩ := by cases wr <;> rfl
      refine ⟨fun m hm => (by simp only [ea] at hm; cases hm), fun x hx => ?_⟩
      simp only [ea, MemAct.touch?, Option.some.injEq] at hx
      subst hx
      exact h3.imp id fun x => ⟨x, h2⟩
    case mark m =>
      have ea : MemAct.ofEvent ⟨.mark m, wr, sy⟩ = .mark m := by cases wr <;> cases sy <;> rfl
      refine ⟨fun m' hm => ?_, fun x hx => ?_⟩
      · simp only [ea, MemAct.mark.injEq] at hm
        subst hm
        exact hk
      · simp only [ea] at hx
        rcases hk with rfl | ⟨f, rfl⟩ <;> cases hx
  exact ⟨fun op hop => by obtain ⟨e, he, rfl⟩ := Array.mem_map.1 hop; exact (key e he).1, fun op hop => by obtain ⟨e, he, rfl⟩ := Array.mem_map.1 hop; exact ⟨rfl, (key e he).2⟩⟩
end Go.Proofs.YtpnnmklacialgaaGreat
namespace Go.Proofs.YtpnnmklacialgaaGreat
open Go.Conc
def gsOf (N : Nat) (f : Nat → Goroutine) : Array Goroutine := (Array.range N).map f
def crew (N : Nat) (f : Nat → Goroutine) (w : World) (sl : Option (Nat × Nat)) : Machine := { world := w, gs := gsOf N f, rest := { timers := #[], alone := none, slice := sl } }
def at' (f : Nat → Goroutine) (i : Nat) (g : Goroutine) : Nat → Goroutine := fun j => if j = i then g else f j
theorem at_same {f : Nat → Goroutine} {i : Nat} {g : Goroutine} : at' f i g i = g := by simp [at']
theorem at_ne {f : Nat → Goroutine} {i j : Nat} {g : Goroutine} (h : j ≠ i) : at' f i g j = f j := by simp [at', h]
theorem gsOf_size {N : Nat} {f : Nat → Goroutine} : (gsOf N f).size = N := by simp [gsOf]
theorem gsOf_get {N : Nat} {f : Nat → Goroutine} {j : Nat} (h : j < N) : (gsOf N f)[j]? = some (f j) := by simp [gsOf, h]
theorem gsOf_get_none {N : Nat} {f : Nat → Goroutine} {j : Nat} (h : N ≤ j) : (gsOf N f)[j]? = none := by simp [gsOf]; omega
theorem gsOf_some {N : Nat} {f : Nat → Goroutine} {j : Nat} {g : Goroutine} (h : (gsOf N f)[j]? = some g) : j < N ∧ g = f j := by
  rcases Nat.lt_or_ge j N with hj | hj
  · rw [gsOf_get hj] at h; exact ⟨hj, (Option.some.inj h).symm⟩
  · rw [gsOf_get_none hj] at h; cases h
theorem gsOf_set {N : Nat} {f : Nat → Goroutine} {i : Nat} {g : Goroutine} : (gsOf N f).setIfInBounds i g = gsOf N (at' f i g) := by
  apply Array.ext_getElem?
  intro j
  rw [Array.getElem?_setIfInBounds]
  by_cases hj : j < N
  · rw [gsOf_get hj, gsOf_get hj, gsOf_size]
    by_cases e : i = j
    · subst e; rw [if_pos rfl, if_pos hj, at_same]
    · rw [if_neg e, at_ne (Ne.symm e)]
  · rw [gsOf_get_none (Nat.le_of_not_lt hj), gsOf_get_none (Nat.le_of_not_lt hj), gsOf_size]
    split
    · rw [if_neg (by omega)]
    · rfl
theorem gsOf_map {N : Nat} {f : Nat → Goroutine} {h : Goroutine → Goroutine} : (gsOf N f).map h = gsOf N (fun j => h (f j)) := by simp [gsOf]
theorem gsOf_congr {N : Nat} {f f' : Nat → Goroutine} (h : ∀ j, j < N → f j = f' j) : gsOf N f = gsOf N f' := by
  apply Array.ext_getElem?
  intro j
  by_cases hj : j < N
  · rw [gsOf_get hj, gsOf_get hj, h j hj]
  · rw [gsOf_get_none (Nat.le_of_not_lt hj), gsOf_get_none (Nat.le_of_not_lt hj)]
theorem gsOf_push {N : Nat} {f : Nat → Goroutine} {g : Goroutine} : (gsOf N f).push g = gsOf (N + 1) (at' f N g) := by
  apply Array.ext_getElem?
  intro j
  rw [Array.getElem?_push, gsOf_size]
  by_cases h : j = N
  · subst h; rw [if_pos rfl, gsOf_get (by omega), at_same]
  · rw [if_neg h]
    by_cases hj : j < N
    · rw [gsOf_get hj, gsOf_get (by omega), at_ne h]
    · rw [gsOf_get_none (Nat.le_of_not_lt hj), gsOf_get_none (by omega)]
theorem gsOf_modify {N : Nat} {f : Nat → Goroutine} {i : Nat} {h : Goroutine → Goroutine} : (gsOf N f).modify i h = gsOf N (at' f i (h (f i))) := by
  apply Array.ext_getElem?
  intro j
  rw [Array.getElem?_modify]
  by_cases hj : j < N
  · rw [gsOf_get hj, gsOf_get hj]
    by_cases e : i = j
    · subst e; rw [if_pos rfl, at_same]; rfl
    · rw [if_neg e, at_ne (Ne.symm e)]
  · rw [gsOf_get_none (Nat.le_of_not_lt hj), gsOf_get_none (Nat.le_of_not_lt hj)]
    split <;> rfl
def ghost : Goroutine := { (default : Goroutine) with status := .finished }
theorem gsOf_swap {N : Nat} {f : Nat → Goroutine} {i : Nat} {g : Goroutine} (hi : i < N) : (gsOf N f).swapAt! i g = (f i, gsOf N (at' f i g)) := by
  have hs : i < (gsOf N f).size := by rw [gsOf_size]; exact hi
  have h1 : (gsOf N f).swapAt! i g = ((gsOf N f)[i], (gsOf N f).setIfInBounds i g) := by
    unfold Array.swapAt!
    rw [dif_pos hs]
    unfold Array.swapAt
    simp [Array.setIfInBounds, hs]
  have h2 : (gsOf N f)[i] = f i := by
    have := gsOf_get (f := f) hi
    rw [Array.getElem?_eq_getElem hs] at this
    exact Option.some.inj this
  rw [h1, h2, gsOf_set]
def wk (P : Program) (N : Nat) (g g' : Goroutine) : Bool := decide (N > 1) && mayWake P g && g'.status != .blocked && g'.status != .waiting
theorem runT_go {P : Program} {N i : Nat} {f : Nat → Goroutine} {w w' : World} {sl : Option (Nat × Nat)} {g' : Goroutine} {es : Array Event} (hi : i < N) (h : stepG P (i == 0) (f i) w = .go g' w' es) :
    runT P (crew N f w sl) i = (.next (crew N (at' (fun j => if wk P N (f i) g' then (f j).again w' else f j) i g') w' sl), MemOp.ofEvents i (f i).frame.fn (f i).frame.place es) := by
  unfold runT crew
  simp only [gsOf_swap hi, h, GStep.es, gsOf_size]
  congr 2
  unfold wk
  by_cases hw : (decide (N > 1) && mayWake P (f i) && g'.status != .blocked && g'.status != .waiting) = true
  · simp only [hw, if_true, gsOf_map, gsOf_set]
    congr 1
    · apply gsOf_congr
      intro j hj
      by_cases e : j = i
      · subst e; simp [at']
      · simp [at', e]
    · simp
  · simp only [hw, Bool.false_eq_true, if_false, gsOf_set]
    congr 1
    · apply gsOf_congr
      intro j hj
      by_cases e : j = i
      · subst e; simp [at']
      · simp [at', e]
    · simp
theorem runT_ended {P : Program} {N i : Nat} {f : Nat → Goroutine} {w w' : World} {sl : Option (Nat × Nat)} {o : Outcome} {es : Array Event} (hi : i < N) (h : stepG P (i == 0) (f i) w = .ended o w' es) :
    runT P (crew N f w sl) i = (.ended o w', MemOp.ofEvents i (f i).frame.fn (f i).frame.place es) := by
  unfold runT crew
  simp only [gsOf_swap hi, h, GStep.es]
theorem runT_spawn {P : Program} {N i : Nat} {f : Nat → Goroutine} {w w' : World} {sl : Option (Nat × Nat)} {g' child : Goroutine} {es : Array Event} (hi : i < N) (h : stepG P (i == 0) (f i) w = .spawn g' child w' es) :
    runT P (crew N f w sl) i = (.next (crew (N + 1) (at' (at' f i g') N child) w' sl), (MemOp.ofEvents i (f i).frame.fn (f i).frame.place es).push { g := i, fn := (f i).frame.fn, pos := (f i).frame.place, act := .go N } |>.push { g := N, fn := child.frame.fn, pos := (f i).frame.place, act := .start }) := by
  unfold runT crew
  simp only [gsOf_swap hi, h, GStep.es, gsOf_size, gsOf_set, gsOf_push]
  congr 3
  apply gsOf_congr
  intro j hj
  unfold at'
  repeat' split
  all_goals rfl
theorem ahead_none {N : Nat} {f : Nat → Goroutine} {w : World} {sl : Option (Nat × Nat)} (h : ∀ j, j < N → awake (f j)) : ahead (crew N f w sl) true = none := by
  unfold ahead crew
  simp only
  rw [← Array.foldl_toList, ← Array.foldl_toList]
  simp only [Array.toList_empty, List.foldl_nil]
  have key : ∀ (l : List Goroutine) (F : Option Nat → Goroutine → Option Nat), (∀ g ∈ l, awake g) → (∀ x g, awake g → F x g = x) → l.foldl F none = none := by
    intro l F hl hF
    induction l with
    | nil => rfl
    | cons g l ih =>
      rw [List.foldl_cons, hF none g (hl g (.head _))]
      exact ih fun g hg => hl g (.tail _ hg)
  refine key _ _ (fun g hg => ?_) fun x g hg => ?_
  · simp only [gsOf, Array.toList_map, List.mem_map] at hg
    obtain ⟨j, hj, rfl⟩ := hg
    exact h j (by simpa using hj)
  · have hg' := hg
    unfold awake at hg'
    split
    · rename_i till hs; exact absurd hs (hg' till)
    · rfl
theorem crew_pick {P : Program} {N : Nat} {f : Nat → Goroutine} {w : World} {sl : Option (Nat × Nat)} (aw : ∀ j, j < N → awake (f j)) (hr : ∃ j, j < N ∧ (f j).status = .running) :
    ∃ i d sl', i < N ∧ (f i).status = .running ∧ stepT P (crew N f w sl) = runT P (crew N f (w.at d) sl') i := by
  have hne : runnable (crew N f w sl).gs (crew N f w sl).world.os.mono ≠ [] := by
    obtain ⟨j, hj, hs⟩ := hr
    have : j ∈ runnable (crew N f w sl).gs (crew N f w sl).world.os.mono := mem_runnable.2 (by simp [crew, gsOf_get hj, Goroutine.canRun, hs])
    intro h; rw [h] at this; cases this
  obtain ⟨i, hi, d, sl', hs⟩ := stepT_pick (P := P) (m := crew N f w sl) rfl rfl (by simp [due, crew]) (ahead_none aw) rfl hne
  have hc := mem_runnable.1 hi
  have hi' : i < N := by
    rcases Nat.lt_or_ge i N with h | h
    · exact h
    · simp [crew, gsOf_get_none h] at hc
  refine ⟨i, d, sl', hi', ?_, hs⟩
  simp only [crew, gsOf_get hi', Option.any_some] at hc
  exact (canRun_iff (aw i hi') _).1 hc
theorem partners_eq {N : Nat} {f : Nat → Goroutine} {c : Nat} {dir : Bool} : partners (gsOf N f) c dir = (List.range N).flatMap fun i => match (f i).status, (f i).offers with
    | .blocked, some (cs, _) => (cs.zipIdx.toList.filter fun (k, _) => k.send.isSome == dir && (match k.chan with | .chan (some r') => r' == c | _ => false)).map fun (_, k) => (i, k)
    | _, _ => [] := by
  unfold partners gsOf
  have : (Array.map f (Array.range N)).zipIdx.toList = (List.range N).map fun i => (f i, i) := by
    apply List.ext_getElem?
    intro j
    simp [Array.toList_zipIdx, List.getElem?_zipIdx]
    cases h : (List.range N)[j]? with
    | none => simp
    | some k =>
      have : k = j := by
        rw [List.getElem?_range] at h
        · exact (Option.some.inj h).symm
        · rcases Nat.lt_or_ge j N with h1 | h1
          · exact h1
          · rw [List.getElem?_eq_none (by simpa using h1)] at h; cases h
      simp [this]
  rw [this, List.flatMap_map]
  rfl
theorem partners_none {N : Nat} {f : Nat → Goroutine} {c : Nat} {dir : Bool} (h : ∀ j, j < N → (f j).status ≠ .blocked) : partners (gsOf N f) c dir = [] := by
  rw [partners_eq, List.flatMap_eq_nil_iff]
  intro i hi
  have := h i (by simpa using hi)
  split
  · rename_i hs _; exact absurd hs this
  · rfl
theorem partners_one {N : Nat} {f : Nat → Goroutine} {c k : Nat} {dir : Bool} {g : Goroutine} {cs : CommCase} {sh : CommShape} (hk : k < N) (hg : f k = parked g #[cs] sh) (hd : cs.send.isSome = dir) (hc : cs.chan = .chan (some c))
    (h : ∀ j, j < N → j ≠ k → (f j).status ≠ .blocked) : partners (gsOf N f) c dir = [(k, 0)] := by
  rw [partners_eq]
  have key : ∀ (n : Nat) (l : List Nat), l = List.range n → k < n → n ≤ N → (l.flatMap fun i => match (f i).status, (f i).offers with
    | .blocked, some (cs, _) => (cs.zipIdx.toList.filter fun (k, _) => k.send.isSome == dir && (match k.chan with | .chan (some r') => r' == c | _ => false)).map fun (_, k) => (i, k)
    | _, _ => []) = [(k, 0)] := by
    intro n
    induction n with
    | zero => intro l _ h0; omega
    | succ n ih =>
      rintro l rfl hlt hle
      rw [List.range_succ, List.flatMap_append]
      by_cases e : k = n
      · subst e
        have h0 : ((List.range k).flatMap fun i => match (f i).status, (f i).offers with
          | .blocked, some (cs, _) => (cs.zipIdx.toList.filter fun (k, _) => k.send.isSome == dir && (match k.chan with | .chan (some r') => r' == c | _ => false)).map fun (_, k) => (i, k)
          | _, _ => []) = [] := by
          rw [List.flatMap_eq_nil_iff]
          intro i hi
          have hi' : i < k := by simpa using hi
          have := h i (by omega) (by omega)
          split
          · rename_i hs _; exact absurd hs this
          · rfl
        rw [h0]
        simp [hg, parked, hd, hc]
      · rw [ih _ rfl (by omega) (by omega)]
        have := h n (by omega) (Ne.symm e)
        simp only [List.flatMap_cons, List.flatMap_nil, List.append_nil]
        split
        · rename_i hs _; exact absurd hs this
        · rfl
  exact key N _ rfl hk (Nat.le_refl _)
section
variable {P : Program} {N i k : Nat} {f : Nat → Goroutine} {w w₁ : World} {sl : Option (Nat × Nat)} {es : Array Event} {c s r : Nat} {z z' v : Value} {tm : Bool} {a₂ b₂ : Goroutine}
theorem at_none {i : Nat} (h : ∀ j, j < N → j ≠ i → (f j).status ≠ .blocked) : ∀ j, j < N → (at' f i ghost j).status ≠ .blocked := by
  intro j hj
  by_cases e : j = i
  · subst e; rw [at_same]; simp [ghost]
  · rw [at_ne e]; exact h j hj e
theorem crew_recv_waits (hi : i < N) (h : stepG P (i == 0) (f i) w = .comm a₂ #[rcase c z] true (.recv true) w₁ es) (hc : w₁.heap[c]? = some (.chan 0 #[] false s r tm)) (hb : ∀ j, j < N → j ≠ i → (f j).status ≠ .blocked) :
    runT P (crew N f w sl) i = (.next (crew N (at' f i (parked a₂ #[rcase c z] (.recv true))) w₁ sl), MemOp.ofEvents i (f i).frame.fn (f i).frame.place es) := by
  have hp := partners_none (c := c) (dir := true) (at_none hb)
  unfold runT crew
  rw [show ({ (default : Goroutine) with status := .finished } : Goroutine) = ghost from rfl]
  simp only [gsOf_swap hi, h, GStep.es]
  simp [communicate, ways, rcase, hc, hp, waitingAt, timerAhead, parked, gsOf_set]
  apply gsOf_congr
  intro j hj
  unfold at'
  repeat' split
  all_goals rfl
theorem crew_send_waits (hi : i < N) (h : stepG P (i == 0) (f i) w = .comm a₂ #[scase c v z'] true .send w₁ es) (hc : w₁.heap[c]? = some (.chan 0 #[] false s r tm)) (hb : ∀ j, j < N → j ≠ i → (f j).status ≠ .blocked) :
    runT P (crew N f w sl) i = (.next (crew N (at' f i (parked a₂ #[scase c v z'] .send)) w₁ sl), MemOp.ofEvents i (f i).frame.fn (f i).frame.place es) := by
  have hp := partners_none (c := c) (dir := false) (at_none hb)
  unfold runT crew
  rw [show ({ (default : Goroutine) with status := .finished } : Goroutine) = ghost from rfl]
  simp only [gsOf_swap hi, h, GStep.es]
  simp [communicate, ways, scase, hc, hp, waitingAt, timerAhead, parked, gsOf_set]
  apply gsOf_congr
  intro j hj
  unfold at'
  repeat' split
  all_goals rfl
theorem crew_recv_closed (hi : i < N) (h : stepG P (i == 0) (f i) w = .comm a₂ #[rcase c z] true (.recv true) w₁ es) (hc : w₁.heap[c]? = some (.chan 0 #[] true s r tm)) (hb : ∀ j, j < N → j ≠ i → (f j).status ≠ .blocked) :
    runT P (crew N f w sl) i = (.next (crew N (at' f i (Conc.served a₂ (.tuple #[z, .bool false]))) w₁ sl),
      MemOp.ofEvents i (f i).frame.fn (f i).frame.place es ++ #[{ g := i, fn := a₂.frame.fn, pos := a₂.frame.place, act := .recvClosed c }]) := by
  have hp := partners_none (c := c) (dir := true) (at_none hb)
  unfold runT crew
  rw [show ({ (default : Goroutine) with status := .finished } : Goroutine) = ghost from rfl]
  simp only [gsOf_swap hi, h, GStep.es]
  simp [communicate, ways, rcase, hc, hp, choose, Sem.run, Question.forced, bind, Sem.bind, pure, Goroutine.finishComm, commResult, Conc.served, gsOf_set]
  apply gsOf_congr
  intro j hj
  unfold at'
  repeat' split
  all_goals rfl
theorem crew_recv_meets (hi : i < N) (hk : k < N) (hik : k ≠ i) (h : stepG P (i == 0) (f i) w = .comm a₂ #[rcase c z] true (.recv true) w₁ es) (hc : w₁.heap[c]? = some (.chan 0 #[] false s r tm)) (hg : f k = parked b₂ #[scase c v z'] .send)
    (hb : ∀ j, j < N → j ≠ i → j ≠ k → (f j).status ≠ .blocked) :
    runT P (crew N f w sl) i = (.next (crew N (at' (at' f i (Conc.served a₂ (.tuple #[v, .bool true]))) k (Conc.served b₂ undef)) (w₁.passed c s r tm) sl),
      MemOp.ofEvents i (f i).frame.fn (f i).frame.place es ++ #[{ g := k, fn := b₂.frame.fn, pos := b₂.frame.place, act := .send c s }, { g := i, fn := a₂.frame.fn, pos := a₂.frame.place, act := .recv c r 0 },
        { g := k, fn := b₂.frame.fn, pos := b₂.frame.place, act := .sendDone c s }, { g := i, fn := a₂.frame.fn, pos := a₂.frame.place, act := .recvDone c r }]) := by
  have hgk : at' f i ghost k = parked b₂ #[scase c v z'] .send := by rw [at_ne hik, hg]
  have hp := partners_one (N := N) (f := at' f i ghost) (c := c) (k := k) (dir := true) hk hgk rfl rfl fun j hj hjk => by
    by_cases e : j = i
    · subst e; rw [at_same]; simp [ghost]
    · rw [at_ne e]; exact hb j hj e hjk
  have hgt : (gsOf N (at' f i ghost))[k]? = some (parked b₂ #[scase c v z'] .send) := by rw [gsOf_get hk, hgk]
  have hgd : (gsOf N (at' f i ghost)).getD k default = parked b₂ #[scase c v z'] .send := by rw [Array.getD_eq_getD_getElem?, hgt]; rfl
  unfold runT crew
  rw [show ({ (default : Goroutine) with status := .finished } : Goroutine) = ghost from rfl]
  simp only [gsOf_swap hi, h, GStep.es]
  simp [communicate, ways, rcase, hc, hp, choose, Sem.run, Question.forced, bind, Sem.bind, pure, finishPartner, offeredValue, Goroutine.finishComm, commResult, gsOf_set, hgt, hgd, gsOf_modify, hgk]
  simp only [parked, scase, Conc.served, World.passed]
  refine ⟨⟨trivial, ?_⟩, trivial⟩
  apply gsOf_congr
  intro j hj
  unfold at'
  by_cases e1 : j = i
  · subst e1; simp [Ne.symm hik]
  · by_cases e2 : j = k
    · subst e2; simp [e1]
    · simp [e1, e2]
theorem crew_send_meets (hi : i < N) (hk : k < N) (hik : k ≠ i) (h : stepG P (i == 0) (f i) w = .comm b₂ #[scase c v z'] true .send w₁ es) (hc : w₁.heap[c]? = some (.chan 0 #[] false s r tm)) (hg : f k = parked a₂ #[rcase c z] (.recv true))
    (hb : ∀ j, j < N → j ≠ i → j ≠ k → (f j).status ≠ .blocked) :
    runT P (crew N f w sl) i = (.next (crew N (at' (at' f i (Conc.served b₂ undef)) k (Conc.served a₂ (.tuple #[v, .bool true]))) (w₁.passed c s r tm) sl),
      MemOp.ofEvents i (f i).frame.fn (f i).frame.place es ++ #[{ g := i, fn := b₂.frame.fn, pos := b₂.frame.place, act := .send c s }, { g := k, fn := a₂.frame.fn, pos := a₂.frame.place, act := .recv c r 0 },
        { g := i, fn := b₂.frame.fn, pos := b₂.frame.place, act := .sendDone c s }, { g := k, fn := a₂.frame.fn, pos := a₂.frame.place, act := .recvDone c r }]) := by
  have hgk : at' f i ghost k = parked a₂ #[rcase c z] (.recv true) := by rw [at_ne hik, hg]
  have hp := partners_one (N := N) (f := at' f i ghost) (c := c) (k := k) (dir := false) hk hgk rfl rfl fun j hj hjk => by
    by_cases e : j = i
    · subst e; rw [at_same]; simp [ghost]
    · rw [at_ne e]; exact hb j hj e hjk
  have hgt : (gsOf N (at' f i ghost))[k]? = some (parked a₂ #[rcase c z] (.recv true)) := by rw [gsOf_get hk, hgk]
  have hgd : (gsOf N (at' f i ghost)).getD k default = parked a₂ #[rcase c z] (.recv true) := by rw [Array.getD_eq_getD_getElem?, hgt]; rfl
  unfold runT crew
  rw [show ({ (default : Goroutine) with status := .finished } : Goroutine) = ghost from rfl]
  simp only [gsOf_swap hi, h, GStep.es]
  simp [communicate, ways, scase, hc, hp, choose, Sem.run, Question.forced, bind, Sem.bind, pure, finishPartner, offeredValue, Goroutine.finishComm, commResult, gsOf_set, hgt, hgd, gsOf_modify, hgk]
  simp only [parked, rcase, Conc.served, World.passed]
  refine ⟨⟨trivial, ?_⟩, trivial⟩
  apply gsOf_congr
  intro j hj
  unfold at'
  by_cases e1 : j = i
  · subst e1; simp [Ne.symm hik]
  · by_cases e2 : j = k
    · subst e2; simp [e1]
    · simp [e1, e2]
end
end Go.Proofs.YtpnnmklacialgaaGreat
namespace Go.Proofs.YtpnnmklacialgaaGreat
open Go.Conc
def AtCl (P : Program) (c : Nat) (g : Goroutine) : Prop :=
  mayWake P g = true ∧ ∃ g₂ n, (∀ w s r tm, w.heap[c]? = some (.chan 0 #[] false s r tm) → stepG P false g w = .go g₂ (w.shut c s r tm) #[⟨.obj c, false, true⟩, ⟨.obj c, true, true⟩]) ∧ QuitsIn P n g₂
def StC (P : Program) : StopAt := fun m g w O => g.status = .running ∧ ∃ c, m.tag = .send c [] ∧ AtCl P c g
def XC (P : Program) : XNode := fun m g w O K => g.status = .running ∧ ∃ c v L g₂ z, m.tag = .send c (v :: L) ∧ stepG P false g w = .comm g₂ #[scase c v z] true .send w #[] ∧ K ⟨m.ro, .send c L⟩ (Conc.served g₂ undef) w O
structure Sep (c : Nat) (w : World) (O Oc ro : Nat → Prop) : Prop where
  ap : Apart O Oc ro
  co : ¬ O c
  cc : ¬ Oc c
  cr : ¬ ro c
  bo : ∀ b, O b → b < w.heap.size
  bc : ∀ b, Oc b → b < w.heap.size
  br : ∀ b, ro b → b < w.heap.size
  ch : c < w.heap.size
structure SepS (c : Nat) (w : World) (O Oc ro : Nat → Prop) : Prop where
  ap : Apart O Oc ro
  co : ¬ O c
  cr : ¬ ro c
  bc : ∀ b, Oc b → b < w.heap.size
  br : ∀ b, ro b → b < w.heap.size
  ch : c < w.heap.size
def RunC (P : Program) (c : Nat) (ro : Nat → Prop) (L : List Value) (b : Goroutine) (w : World) (Oc : Nat → Prop) : Prop := Run P false (XC P) (StC P) ⟨ro, .send c L⟩ b w Oc
def XM (P : Program) : XNode := fun m g w O K => g.status = .running ∧ g.offers = none ∧ match m.tag with
  | .plain => ∃ g' child c L O' ro' s r tm, g'.status = .running ∧ stepG P true g w = .spawn g' child w #[] ∧ w.heap[c]? = some (.chan 0 #[] false s r tm) ∧ Sep c w O' (fun _ => False) ro' ∧ RunC P c ro' L child w (fun _ => False) ∧ K ⟨ro', .recv c L⟩ g' w O'
  | .recv c L => ∃ z, stepG P true g w = .comm g #[rcase c z] true (.recv true) w #[] ∧ match L with
    | v :: L' => K ⟨m.ro, .recv c L'⟩ (Conc.served g (.tuple #[v, .bool true])) w O
    | [] => ∃ ro' O', K ⟨ro', .plain⟩ (Conc.served g (.tuple #[z, .bool false])) w O'
  | .send _ _ => False
def StM (P : Program) (Post : Value → World → Prop) : StopAt := fun m g w O => m.tag = .plain ∧ g.status = .running ∧ ∃ v w' es, stepG P true g w = .ended (.done v) w' es ∧ (∀ e ∈ es, EvOk O m.ro w.heap.size w'.heap.size e) ∧ Post v w'
section
variable {P : Program} {Post : Value → World → Prop}
def Ends (P : Program) (Post : Value → World → Prop) (m : Machine) (t : Trace) : Prop :=
  ∃ N last o w' t', runNT P (N + 1) m t = (.ended o w', t') ∧ runN P N m = .next last ∧ step P last = .ended o w' ∧ Good P Post last o w' t'
theorem Ends.step {m m' : Machine} {t ops : Trace} (hs : stepT P m = (.next m', ops)) (h : Ends P Post m' (t ++ ops)) : Ends P Post m t := by
  obtain ⟨N, last, o, w', t', h1, h2, h3, h4⟩ := h
  exact ⟨N + 1, last, o, w', t', by rw [runNT_succ_next hs]; exact h1, by rw [runN_succ_next hs]; exact h2, h3, h4⟩
theorem Ends.fin {m : Machine} {t ops : Trace} {o : Outcome} {w : World} (hs : stepT P m = (.ended o w, ops)) (h : Good P Post m o w (t ++ ops)) : Ends P Post m t :=
  ⟨0, m, o, w, t ++ ops, by simp [runNT, hs], rfl, by simp [Go.step, hs], h⟩
theorem Rely.at (O : Nat → Prop) (m : Mode) (w : World) (d : Nat) : Rely O m w (w.at d) := ⟨rfl, rfl, rfl, Nat.le_refl _, fun _ _ _ => rfl⟩
theorem Rely.passed {O : Nat → Prop} {m : Mode} {w : World} {c : Nat} (s r : Nat) (tm : Bool) (h1 : ¬ O c) (h2 : ¬ m.ro c) : Rely O m w (w.passed c s r tm) :=
  ⟨rfl, rfl, rfl, by simp [World.passed], fun b _ hb => by
    have : c ≠ b := by rintro rfl; exact hb.elim h1 h2
    simp [World.passed, Array.getElem?_setIfInBounds_ne this]⟩
theorem Rely.shut {O : Nat → Prop} {m : Mode} {w : World} {c : Nat} (s r : Nat) (tm : Bool) (h1 : ¬ O c) (h2 : ¬ m.ro c) : Rely O m w (w.shut c s r tm) :=
  ⟨rfl, rfl, rfl, by simp [World.shut], fun b _ hb => by
    have : c ≠ b := by rintro rfl; exact hb.elim h1 h2
    simp [World.shut, Array.getElem?_setIfInBounds_ne this]⟩
theorem Guar.rely {O Oc ro : Nat → Prop} {m m' : Mode} {w w' : World} {es : Array Event} (h : Guar O m w w' es) (ha : Apart O Oc ro) (hr : m'.ro = ro) : Rely Oc m' w w' :=
  ⟨h.tape, h.os, h.output, h.size, fun b hb ho => h.keep b hb fun hO => by subst hr; exact ho.elim (ha.a b hO) (ha.b b hO)⟩
theorem Sep.grow {c : Nat} {O Oc ro : Nat → Prop} {m : Mode} {w w' : World} {es : Array Event} (h : Sep c w O Oc ro) (hg : Guar O m w w' es) : Sep c w' (grow O w w') Oc ro := by
  have hs := hg.size
  refine ⟨⟨fun b hb => ?_, fun b hb => ?_, h.ap.c⟩, fun hc => ?_, h.cc, h.cr, fun b hb => ?_, fun b hb => Nat.lt_of_lt_of_le (h.bc b hb) hs, fun b hb => Nat.lt_of_lt_of_le (h.br b hb) hs, Nat.lt_of_lt_of_le h.ch hs⟩
  · rcases hb with hb | ⟨hb, _⟩
    · exact h.ap.a b hb
    · exact fun hx => by have := h.bc b hx; omega
  · rcases hb with hb | ⟨hb, _⟩
    · exact h.ap.b b hb
    · exact fun hx => by have := h.br b hx; omega
  · rcases hc with hb | ⟨hb, _⟩
    · exact h.co hb
    · have := h.ch; omega
  · rcases hb with hb | ⟨_, hb⟩
    · exact Nat.lt_of_lt_of_le (h.bo b hb) hs
    · exact hb
theorem SepS.grow {c : Nat} {O Oc ro : Nat → Prop} {m : Mode} {w w' : World} {es : Array Event} (h : SepS c w O Oc ro) (hg : Guar O m w w' es) : SepS c w' (grow O w w') Oc ro := by
  have hs := hg.size
  refine ⟨⟨fun b hb => ?_, fun b hb => ?_, h.ap.c⟩, fun hc => ?_, h.cr, fun b hb => Nat.lt_of_lt_of_le (h.bc b hb) hs, fun b hb => Nat.lt_of_lt_of_le (h.br b hb) hs, Nat.lt_of_lt_of_le h.ch hs⟩
  · rcases hb with hb | ⟨hb, _⟩
    · exact h.ap.a b hb
    · exact fun hx => by have := h.bc b hx; omega
  · rcases hb with hb | ⟨hb, _⟩
    · exact h.ap.b b hb
    · exact fun hx => by have := h.br b hx; omega
  · rcases hc with hb | ⟨hb, _⟩
    · exact h.co hb
    · have := h.ch; omega
theorem SepS.size {c : Nat} {O Oc ro : Nat → Prop} {w w' : World} (h : SepS c w O Oc ro) (hs : w'.heap.size = w.heap.size) : SepS c w' O Oc ro := ⟨h.ap, h.co, h.cr, by rw [hs]; exact h.bc, by rw [hs]; exact h.br, by rw [hs]; exact h.ch⟩
theorem Sep.swap {c : Nat} {O Oc ro : Nat → Prop} {w : World} (h : Sep c w O Oc ro) : Sep c w Oc O ro := ⟨h.ap.swap, h.cc, h.co, h.cr, h.bc, h.bo, h.br, h.ch⟩
theorem Sep.size {c : Nat} {O Oc ro : Nat → Prop} {w w' : World} (h : Sep c w O Oc ro) (hs : w'.heap.size = w.heap.size) : Sep c w' O Oc ro := ⟨h.ap, h.co, h.cc, h.cr, by rw [hs]; exact h.bo, by rw [hs]; exact h.bc, by rw [hs]; exact h.br, by rw [hs]; exact h.ch⟩
theorem Guar.chan {O : Nat → Prop} {m : Mode} {w w' : World} {es : Array Event} {c : Nat} {o : Obj} (h : Guar O m w w' es) (hc : ¬ O c) (ho : w.heap[c]? = some o) : w'.heap[c]? = some o := (h.keep c (lt_of_some ho) hc).trans ho
def tot : Nat → (Nat → Nat) → Nat
  | 0, _ => 0
  | n + 1, ks => tot n ks + ks n
theorem tot_congr {ks ks' : Nat → Nat} : ∀ {N : Nat}, (∀ j, j < N → ks j = ks' j) → tot N ks = tot N ks'
  | 0, _ => rfl
  | n + 1, h => by unfold tot; rw [tot_congr fun j hj => h j (by omega), h n (by omega)]
theorem tot_at {ks : Nat → Nat} {i k : Nat} (hk : ks i = k + 1) : ∀ {N : Nat}, i < N → tot N (fun j => if j = i then k else ks j) + 1 = tot N ks
  | n + 1, h => by
    unfold tot
    by_cases e : i = n
    · subst e
      rw [tot_congr (ks' := ks) (N := i) fun j hj => by rw [if_neg (by omega)]]
      simp only [if_true, hk]; omega
    · have := tot_at hk (N := n) (by omega)
      simp only [if_neg (Ne.symm e)]; omega
theorem runT_own {N i : Nat} {f : Nat → Goroutine} {w w' : World} {sl : Option (Nat × Nat)} {g' : Goroutine} {es : Array Event} (hi : i < N) (h : stepG P (i == 0) (f i) w = .go g' w' es) (hag : ∀ j, j < N → j ≠ i → (f j).again w' = f j) :
    runT P (crew N f w sl) i = (.next (crew N (at' f i g') w' sl), MemOp.ofEvents i (f i).frame.fn (f i).frame.place es) := by
  rw [runT_go hi h]
  have : gsOf N (at' (fun j => if wk P N (f i) g' then (f j).again w' else f j) i g') = gsOf N (at' f i g') := gsOf_congr fun j hj => by
    unfold at'
    split
    · rfl
    · split
      · exact hag j hj ‹_›
      · rfl
  unfold crew
  rw [this]
theorem ofEvents_nil (g : Nat) (fn : FuncId) (pos : String) : MemOp.ofEvents g fn pos #[] = #[] := rfl
theorem leaver_step {N i k : Nat} {f : Nat → Goroutine} {w : World} {sl : Option (Nat × Nat)} (hi : i < N) (h0 : i ≠ 0) (hq : QuitsIn P k (f i)) (hr : (f i).status = .running) (hag : ∀ j, j < N → j ≠ i → (f j).again w = f j) :
    ∃ k' g', k = k' + 1 ∧ QuitsIn P k' g' ∧ runT P (crew N f w sl) i = (.next (crew N (at' f i g') w sl), #[]) := by
  cases k with
  | zero => rw [show (f i).status = .finished from hq] at hr; cases hr
  | succ k =>
    rcases hq with h | ⟨_, g', hw, hq⟩
    · rw [h] at hr; cases hr
    · refine ⟨k, g', rfl, hq, ?_⟩
      rw [runT_own hi (by have : (i == 0) = false := by simpa using h0
                          rw [this]; exact hw w) hag, ofEvents_nil]
theorem quits_awake {k : Nat} {g : Goroutine} (h : QuitsIn P k g) : awake g := awake_of (h.status.elim .inl fun x => .inr (.inr x))
theorem parked_awake {g : Goroutine} {cs : Array CommCase} {sh : CommShape} : awake (parked g cs sh) := awake_of (.inr (.inl rfl))
inductive Sta (P : Program) (m : Mode) (wm : World) (O : Nat → Prop) (g a : Goroutine) : Prop
  | run : a.frame = g.frame → a.callers = g.callers → a.dying = g.dying → a.status = .running → Sta P m wm O g a
  | wait (c : Nat) (z : Value) : a = parked g #[rcase c z] (.recv true) → (∃ L, m.tag = .recv c L) → (∃ w₁, Rely O m wm w₁ ∧ stepG P true g w₁ = .comm g #[rcase c z] true (.recv true) w₁ #[]) → Sta P m wm O g a
theorem Sta.self {m : Mode} {wm : World} {O : Nat → Prop} {g : Goroutine} (h : g.status = .running) : Sta P m wm O g g := .run rfl rfl rfl h
theorem Sta.awake {m : Mode} {wm : World} {O : Nat → Prop} {g a : Goroutine} (h : Sta P m wm O g a) : awake a := by
  cases h with
  | run _ _ _ h => exact awake_of (.inl h)
  | wait c z h => subst h; exact parked_awake
theorem Sta.again {m : Mode} {wm : World} {O : Nat → Prop} {g a : Goroutine} {w : World} {c s r : Nat} {L : List Value} {tm : Bool} (h : Sta P m wm O g a) (ht : m.tag = .recv c L) (hc : w.heap[c]? = some (.chan 0 #[] false s r tm)) : a.again w = a := by
  cases h with
  | run _ _ _ h => exact again_running _ (.inl h)
  | wait c' z h h2 =>
    obtain ⟨L', h2⟩ := h2
    rw [ht] at h2
    cases h2
    subst h
    exact again_parked_open rfl hc
theorem Sta.step {m : Mode} {wm : World} {O : Nat → Prop} {g a : Goroutine} {w : World} (h : Sta P m wm O g a) (hr : a.status = .running) : stepG P true a w = stepG P true g w := by
  cases h with
  | run h1 h2 h3 _ => exact stepG_same h1 h2 h3 w
  | wait c' z h => subst h; simp [parked] at hr
inductive Chd (P : Program) (c : Nat) (ro : Nat → Prop) : List Value → Goroutine → World → (Nat → Prop) → Prop
  | going {L : List Value} {b : Goroutine} {w : World} {Oc : Nat → Prop} : RunC P c ro L b w Oc → Chd P c ro L b w Oc
  | waiting {v z : Value} {L : List Value} {g : Goroutine} {w : World} {Oc : Nat → Prop} : RunC P c ro L (Conc.served g undef) w Oc → Chd P c ro (v :: L) (parked g #[scase c v z] .send) w Oc
theorem runC_status {c : Nat} {ro : Nat → Prop} {L : List Value} {b : Goroutine} {w : World} {Oc : Nat → Prop} (h : RunC P c ro L b w Oc) : b.status = .running := by
  cases h with
  | stop h => exact (h w (Rely.refl _ _ _)).1
  | walk g' w' es hs _ _ => exact hs
  | extra K h _ => exact (h w (Rely.refl _ _ _)).1
theorem Chd.awake {c : Nat} {ro : Nat → Prop} {L : List Value} {b : Goroutine} {w : World} {Oc : Nat → Prop} (h : Chd P c ro L b w Oc) : awake b := by
  cases h with
  | going h => exact awake_of (.inl (runC_status h))
  | waiting h => exact parked_awake
theorem Chd.again {c s r : Nat} {tm : Bool} {ro : Nat → Prop} {L : List Value} {b : Goroutine} {w w' : World} {Oc : Nat → Prop} (h : Chd P c ro L b w Oc) (hc : w'.heap[c]? = some (.chan 0 #[] false s r tm)) : b.again w' = b := by
  cases h with
  | going h => exact again_running _ (.inl (runC_status h))
  | waiting h => exact again_parked_open rfl hc
theorem Chd.rely {c : Nat} {ro : Nat → Prop} {L : List Value} {b : Goroutine} {w w' : World} {Oc : Nat → Prop} (h : Chd P c ro L b w Oc) (hr : ∀ tag, Rely Oc ⟨ro, tag⟩ w w') : Chd P c ro L b w' Oc := by
  cases h with
  | going h => exact .going (Run.rely h (hr _))
  | waiting h => exact .waiting (Run.rely h (hr _))
structure Lvs (P : Program) (N : Nat) (f : Nat → Goroutine) (sk : Nat → Prop) (ks : Nat → Nat) : Prop where
  q : ∀ j, j < N → ¬ sk j → QuitsIn P (ks j) (f j)
structure Opn (P : Program) (m : Mode) (g : Goroutine) (wm : World) (O : Nat → Prop) (c : Nat) (L : List Value) (N : Nat) (f : Nat → Goroutine) (w : World) (k : Nat) (Oc : Nat → Prop) (ks : Nat → Nat) (t : Trace) : Prop where
  tag : m.tag = .recv c L
  k0 : 0 < k
  kN : k < N
  rely : Rely O m wm w
  chan : ∃ s r tm, w.heap[c]? = some (.chan 0 #[] false s r tm)
  sta : Sta P m wm O g (f 0)
  chd : Chd P c m.ro L (f k) w Oc
  lv : Lvs P N f (fun j => j = 0 ∨ j = k) ks
  sep : Sep c w O Oc m.ro
  tr : TDu t 0 k O Oc m.ro
  live : (f 0).status = .running ∨ (f k).status = .running
structure Shu (P : Program) (m : Mode) (g : Goroutine) (wm : World) (O : Nat → Prop) (c : Nat) (N : Nat) (f : Nat → Goroutine) (w : World) (Oc : Nat → Prop) (ks : Nat → Nat) (t : Trace) : Prop where
  tag : m.tag = .recv c []
  N0 : 0 < N
  rely : Rely O m wm w
  chan : ∃ s r tm, w.heap[c]? = some (.chan 0 #[] true s r tm)
  fr : (f 0).frame = g.frame
  cl : (f 0).callers = g.callers
  dy : (f 0).dying = g.dying
  st : (f 0).status = .running
  lv : Lvs P N f (fun j => j = 0) ks
  sep : SepS c w O Oc m.ro
  tr : TSh t c O Oc m.ro
structure Aln (P : Program) (m : Mode) (g : Goroutine) (wm : World) (O : Nat → Prop) (N : Nat) (f : Nat → Goroutine) (w : World) (ks : Nat → Nat) (t : Trace) : Prop where
  tag : m.tag = .plain
  N0 : 0 < N
  rely : Rely O m wm w
  fr : f 0 = g
  st : g.status = .running
  lv : Lvs P N f (fun j => j = 0) ks
  tr : TAl t
def Concl (P : Program) (Post : Value → World → Prop) (m : Mode) (g : Goroutine) (wm : World) (O : Nat → Prop) : Prop :=
  (∀ N f w ks t sl, Aln P m g wm O N f w ks t → Ends P Post (crew N f w sl) t) ∧
  (∀ c L N f w k Oc ks t sl, Opn P m g wm O c L N f w k Oc ks t → Ends P Post (crew N f w sl) t) ∧
  (∀ c N f w Oc ks t sl, Shu P m g wm O c N f w Oc ks t → Ends P Post (crew N f w sl) t)
theorem Lvs.move {N : Nat} {f : Nat → Goroutine} {sk : Nat → Prop} {ks : Nat → Nat} {i k' : Nat} {g' : Goroutine} (h : Lvs P N f sk ks) (hq : QuitsIn P k' g') : Lvs P N (at' f i g') sk (fun j => if j = i then k' else ks j) := ⟨fun j hj hs => by
  by_cases e : j = i
  · subst e; rw [at_same, if_pos rfl]; exact hq
  · rw [at_ne e, if_neg e]; exact h.q j hj hs⟩
theorem Lvs.skip {N : Nat} {f : Nat → Goroutine} {sk : Nat → Prop} {ks : Nat → Nat} {i : Nat} {g' : Goroutine} (h : Lvs P N f sk ks) (hi : sk i) : Lvs P N (at' f i g') sk ks := ⟨fun j hj hs => by
  have hne : j ≠ i := by rintro rfl; exact hs hi
  rw [at_ne hne]; exact h.q j hj hs⟩
theorem Lvs.again {N : Nat} {f : Nat → Goroutine} {sk : Nat → Prop} {ks : Nat → Nat} {w : World} (h : Lvs P N f sk ks) {j : Nat} (hj : j < N) (hs : ¬ sk j) : (f j).again w = f j := again_running _ (h.q j hj hs).status
theorem aln_ends {m : Mode} {g : Goroutine} {wm : World} {O : Nat → Prop} (H : ∀ N f w ks t sl, Aln P m g wm O N f w ks t → ∀ r, runT P (crew N f w sl) 0 = r → (∃ m' ops, r = (.next m', ops) ∧ Ends P Post m' (t ++ ops)) ∨ (∃ o w' ops, r = (.ended o w', ops) ∧ ∀ d sl', Good P Post (crew N f (w.at d) sl') o w' (t ++ ops))) :
    ∀ n N f w ks t sl, Aln P m g wm O N f w ks t → tot N ks = n → Ends P Post (crew N f w sl) t := by
  intro n
  induction n using Nat.strongRecOn with
  | _ n ih =>
    intro N f w ks t sl ha hn
    have h0 : (f 0).status = .running := by rw [ha.fr]; exact ha.st
    have aw : ∀ j, j < N → awake (f j) := fun j hj => by
      by_cases e : j = 0
      · subst e; exact awake_of (.inl h0)
      · exact quits_awake (ha.lv.q j hj e)
    obtain ⟨i, d, sl', hi, hir, hst⟩ := crew_pick (P := P) (w := w) (sl := sl) aw ⟨0, ha.N0, h0⟩
    have ha' : Aln P m g wm O N f (w.at d) ks t := ⟨ha.tag, ha.N0, ha.rely.trans (Rely.at _ _ _ _), ha.fr, ha.st, ha.lv, ha.tr⟩
    by_cases e : i = 0
    · subst e
      rcases H N f (w.at d) ks t sl' ha' _ rfl with ⟨m', ops, hr, he⟩ | ⟨o, w', ops, hr, he⟩
      · exact Ends.step (hst.trans hr) he
      · exact Ends.fin (hst.trans hr) (he w.drawn sl)
    · obtain ⟨k', g', hk, hq, hrun⟩ := leaver_step (sl := sl') hi e (ha.lv.q i hi e) hir (w := w.at d) fun j hj hji => by
        by_cases e2 : j = 0
        · subst e2; exact again_running _ (.inl h0)
        · exact ha.lv.again hj e2
      refine Ends.step (hst.trans hrun) ?_
      rw [Array.append_empty]
      have hlt := tot_at hk hi
      exact ih _ (by omega) N _ _ _ t sl' ⟨ha.tag, ha.N0, ha'.rely, by rw [at_ne (Ne.symm e)]; exact ha.fr, ha.st, ha.lv.move hq, ha.tr⟩ rfl
theorem shu_ends {m : Mode} {g : Goroutine} {wm : World} {O : Nat → Prop} {c : Nat} (H : ∀ N f w Oc ks t sl, Shu P m g wm O c N f w Oc ks t → ∃ m' ops, runT P (crew N f w sl) 0 = (.next m', ops) ∧ Ends P Post m' (t ++ ops)) :
    ∀ n N f w Oc ks t sl, Shu P m g wm O c N f w Oc ks t → tot N ks = n → Ends P Post (crew N f w sl) t := by
  intro n
  induction n using Nat.strongRecOn with
  | _ n ih =>
    intro N f w Oc ks t sl ha hn
    have h0 : (f 0).status = .running := ha.st
    have aw : ∀ j, j < N → awake (f j) := fun j hj => by
      by_cases e : j = 0
      · subst e; exact awake_of (.inl h0)
      · exact quits_awake (ha.lv.q j hj e)
    obtain ⟨i, d, sl', hi, hir, hst⟩ := crew_pick (P := P) (w := w) (sl := sl) aw ⟨0, ha.N0, h0⟩
    have ha' : Shu P m g wm O c N f (w.at d) Oc ks t := ⟨ha.tag, ha.N0, ha.rely.trans (Rely.at _ _ _ _), ha.chan, ha.fr, ha.cl, ha.dy, ha.st, ha.lv, ha.sep.size rfl, ha.tr⟩
    by_cases e : i = 0
    · subst e
      obtain ⟨m', ops, hr, he⟩ := H N f (w.at d) Oc ks t sl' ha'
      exact Ends.step (hst.trans hr) he
    · obtain ⟨k', g', hk, hq, hrun⟩ := leaver_step (sl := sl') hi e (ha.lv.q i hi e) hir (w := w.at d) fun j hj hji => by
        by_cases e2 : j = 0
        · subst e2; exact again_running _ (.inl h0)
        · exact ha.lv.again hj e2
      refine Ends.step (hst.trans hrun) ?_
      rw [Array.append_empty]
      have hlt := tot_at hk hi
      have e0 : at' f i g' 0 = f 0 := at_ne (Ne.symm e)
      exact ih _ (by omega) N _ _ Oc _ t sl' ⟨ha.tag, ha.N0, ha'.rely, ha.chan, by rw [e0]; exact ha.fr, by rw [e0]; exact ha.cl, by rw [e0]; exact ha.dy, by rw [e0]; exact ha.st, ha.lv.move hq, ha'.sep, ha.tr⟩ rfl
def MainMoves (P : Program) (Post : Value → World → Prop) (m : Mode) (g : Goroutine) (wm : World) (O : Nat → Prop) (c : Nat) (L : List Value) : Prop :=
  ∀ N f w k Oc ks t sl, Opn P m g wm O c L N f w k Oc ks t → (f 0).status = .running → ∃ m' ops, runT P (crew N f w sl) 0 = (.next m', ops) ∧
    (Ends P Post m' (t ++ ops) ∨ ((f k).status = .running ∧ ops = #[] ∧ ∃ a, m' = crew N (at' f 0 a) w sl ∧ a.status ≠ .running ∧ Sta P m wm O g a))
def MainMet (P : Program) (Post : Value → World → Prop) (m : Mode) (g : Goroutine) (wm : World) (O : Nat → Prop) (c : Nat) (L : List Value) : Prop :=
  ∀ N f w k Oc ks t sl s r tm v L' z (g₂ : Goroutine) (ops : Trace), L = v :: L' → Opn P m g wm O c L N f w k Oc ks t → w.heap[c]? = some (.chan 0 #[] false s r tm) → f 0 = parked g #[rcase c z] (.recv true) → RunC P c m.ro L' (Conc.served g₂ undef) w Oc →
    (∀ op ∈ ops, op.act.touch? = none ∧ QuietOp op) → Ends P Post (crew N (at' (at' f k (Conc.served g₂ undef)) 0 (Conc.served g (.tuple #[v, .bool true]))) (w.passed c s r tm) sl) (t ++ ops)
section opn
variable {m : Mode} {g : Goroutine} {wm : World} {O : Nat → Prop} {c : Nat}
theorem opn_pick {L : List Value} {N k : Nat} {f : Nat → Goroutine} {w : World} {Oc : Nat → Prop} {ks : Nat → Nat} {t : Trace} (sl : Option (Nat × Nat)) (ha : Opn P m g wm O c L N f w k Oc ks t) :
    ∃ i d sl', i < N ∧ (f i).status = .running ∧ stepT P (crew N f w sl) = runT P (crew N f (w.at d) sl') i ∧ Opn P m g wm O c L N f (w.at d) k Oc ks t := by
  have aw : ∀ j, j < N → awake (f j) := fun j hj => by
    by_cases e : j = 0
    · subst e; exact ha.sta.awake
    · by_cases e2 : j = k
      · subst e2; exact ha.chd.awake
      · exact quits_awake (ha.lv.q j hj (by rintro (h | h) <;> contradiction))
  have hN := ha.kN
  have k0 := ha.k0
  obtain ⟨i, d, sl', hi, hir, hst⟩ := crew_pick (P := P) (w := w) (sl := sl) aw (ha.live.elim (fun h => ⟨0, by omega, h⟩) fun h => ⟨k, hN, h⟩)
  exact ⟨i, d, sl', hi, hir, hst, ⟨ha.tag, ha.k0, ha.kN, ha.rely.trans (Rely.at _ _ _ _), ha.chan, ha.sta, ha.chd.rely fun _ => Rely.at _ _ _ _, ha.lv, ha.sep.size rfl, ha.tr, ha.live⟩⟩
theorem opn_leaver {L : List Value} {N k i : Nat} {f : Nat → Goroutine} {w : World} {Oc : Nat → Prop} {ks : Nat → Nat} {t : Trace} (sl : Option (Nat × Nat)) (ha : Opn P m g wm O c L N f w k Oc ks t) (hi : i < N) (h0 : i ≠ 0) (hk : i ≠ k) (hir : (f i).status = .running) :
    ∃ g' ks', runT P (crew N f w sl) i = (.next (crew N (at' f i g') w sl), #[]) ∧ tot N ks' < tot N ks ∧ Opn P m g wm O c L N (at' f i g') w k Oc ks' t := by
  obtain ⟨s, r, tm, hc⟩ := ha.chan
  obtain ⟨k', g', hk', hq, hrun⟩ := leaver_step (sl := sl) (w := w) hi h0 (ha.lv.q i hi (by rintro (h | h) <;> contradiction)) hir fun j hj hji => by
    by_cases e2 : j = 0
    · subst e2; exact ha.sta.again ha.tag hc
    · by_cases e3 : j = k
      · subst e3; exact ha.chd.again hc
      · exact ha.lv.again hj (by rintro (h | h) <;> contradiction)
  have e0 : at' f i g' 0 = f 0 := at_ne (Ne.symm h0)
  have ek : at' f i g' k = f k := at_ne (Ne.symm hk)
  exact ⟨g', _, hrun, by have := tot_at hk' hi; omega, ⟨ha.tag, ha.k0, ha.kN, ha.rely, ha.chan, by rw [e0]; exact ha.sta, by rw [ek]; exact ha.chd, ha.lv.move hq, ha.sep, ha.tr, by rw [e0, ek]; exact ha.live⟩⟩
theorem opn_waiting {L : List Value} (HM : MainMoves P Post m g wm O c L) : ∀ n N f w k Oc ks t sl, Opn P m g wm O c L N f w k Oc ks t → (f k).status ≠ .running → tot N ks = n → Ends P Post (crew N f w sl) t := by
  intro n
  induction n using Nat.strongRecOn with
  | _ n ih =>
    intro N f w k Oc ks t sl ha hw hn
    obtain ⟨i, d, sl', hi, hir, hst, ha'⟩ := opn_pick sl ha
    by_cases e : i = 0
    · subst e
      obtain ⟨m', ops, hr, he | ⟨h1, _⟩⟩ := HM N f (w.at d) k Oc ks t sl' ha' hir
      · exact Ends.step (hst.trans hr) he
      · exact absurd h1 hw
    · have e2 : i ≠ k := by rintro rfl; exact hw hir
      obtain ⟨g', ks', hrun, hlt, ha2⟩ := opn_leaver sl' ha' hi e e2 hir
      refine Ends.step (hst.trans hrun) ?_
      rw [Array.append_empty]
      exact ih _ (by omega) N _ _ k Oc ks' t sl' ha2 (by rw [at_ne (Ne.symm e2)]; exact hw) rfl
def mu (N : Nat) (f : Nat → Goroutine) (ks : Nat → Nat) : Nat := tot N ks + if (f 0).status = .running then 1 else 0
theorem opn_step {L : List Value} (HM : MainMoves P Post m g wm O c L) {N k : Nat} {f : Nat → Goroutine} {w : World} {Oc : Nat → Prop} {ks : Nat → Nat} {t : Trace} (sl : Option (Nat × Nat)) (ha : Opn P m g wm O c L N f w k Oc ks t) :
    Ends P Post (crew N f w sl) t ∨
    (∃ f' ks' d sl', stepT P (crew N f w sl) = (.next (crew N f' (w.at d) sl'), #[]) ∧ Opn P m g wm O c L N f' (w.at d) k Oc ks' t ∧ f' k = f k ∧ mu N f' ks' < mu N f ks) ∨
    (∃ d sl', (f k).status = .running ∧ stepT P (crew N f w sl) = runT P (crew N f (w.at d) sl') k ∧ Opn P m g wm O c L N f (w.at d) k Oc ks t) := by
  obtain ⟨i, d, sl', hi, hir, hst, ha'⟩ := opn_pick sl ha
  have k0 := ha.k0
  by_cases e : i = 0
  · subst e
    obtain ⟨m', ops, hr, he | ⟨h1, rfl, a, rfl, h2, h3⟩⟩ := HM N f (w.at d) k Oc ks t sl' ha' hir
    · exact .inl (Ends.step (hst.trans hr) he)
    · have ek : at' f 0 a k = f k := at_ne (by omega)
      refine .inr (.inl ⟨_, ks, d, sl', hst.trans hr, ⟨ha.tag, ha.k0, ha.kN, ha'.rely, ha'.chan, by rw [at_same]; exact h3, by rw [ek]; exact ha'.chd, ha'.lv.skip (.inl rfl), ha'.sep, ha.tr, .inr (by rw [ek]; exact h1)⟩, ek, ?_⟩)
      unfold mu
      rw [at_same, if_neg h2, if_pos hir]; omega
  · by_cases e2 : i = k
    · subst e2
      exact .inr (.inr ⟨d, sl', hir, hst, ha'⟩)
    · obtain ⟨g', ks', hrun, hlt, ha2⟩ := opn_leaver sl' ha' hi e e2 hir
      refine .inr (.inl ⟨_, ks', d, sl', hst.trans hrun, ha2, at_ne (Ne.symm e2), ?_⟩)
      unfold mu
      rw [at_ne (Ne.symm e)]; omega
theorem touch_close {k : Nat} {fn : FuncId} {pos : String} {Oc ro : Nat → Prop} : Quiet (MemOp.ofEvents k fn pos #[⟨.obj c, false, true⟩]) ∧ ∀ op ∈ MemOp.ofEvents k fn pos #[⟨.obj c, false, true⟩], op.g = k ∧ Tou (fun b => Oc b ∨ b = c) ro op := by
  rw [ofEvents_eq]
  refine ⟨fun op hop mm hm => ?_, fun op hop => ?_⟩
  · simp at hop; subst hop; cases hm
  · simp at hop; subst hop
    refine ⟨rfl, fun x hx => ?_⟩
    have : x = ⟨.obj c, false, .atomic⟩ := by
      have h2 : (MemAct.ofEvent ⟨.obj c, false, true⟩).touch? = some ⟨.obj c, false, .atomic⟩ := rfl
      rw [h2] at hx; exact (Option.some.inj hx).symm
    subst this
    exact .inr rfl
theorem opn_close {N k : Nat} {f : Nat → Goroutine} {w : World} {Oc : Nat → Prop} {ks : Nat → Nat} {t : Trace} (sl : Option (Nat × Nat)) (ha : Opn P m g wm O c [] N f w k Oc ks t) (hcl : AtCl P c (f k)) (HS : ∀ N f w Oc ks t sl, Shu P m g wm O c N f w Oc ks t → Ends P Post (crew N f w sl) t) :
    ∃ m' ops, runT P (crew N f w sl) k = (.next m', ops) ∧ Ends P Post m' (t ++ ops) := by
  obtain ⟨hwake, g₂, nq, hclose, hq⟩ := hcl
  obtain ⟨s, r, tm, hc⟩ := ha.chan
  have hgo := hclose _ s r tm hc
  have k0 := ha.k0
  have kN := ha.kN
  have hne : (k == 0) = false := by simp; omega
  have hr := runT_go (P := P) (sl := sl) (N := N) (f := f) (i := k) kN (by rw [hne]; exact hgo)
  refine ⟨_, _, hr, ?_⟩
  have hsep := ha.sep
  have hc2 : (w.shut c s r tm).heap[c]? = some (.chan 0 #[] true s r tm) := heap_put hc
  have hsz : (w.shut c s r tm).heap.size = w.heap.size := by simp [World.shut]
  have hwk : wk P N (f k) g₂ = true := by
    unfold wk
    rw [hwake]
    rcases hq.status with h | h <;> simp [h] <;> omega
  have e0 : (at' (fun j => if wk P N (f k) g₂ = true then (f j).again (w.shut c s r tm) else f j) k g₂) 0 = (f 0).again (w.shut c s r tm) := by
    rw [at_ne (by omega), if_pos hwk]
  have hst0 : ∀ a, Sta P m wm O g a → (a.again (w.shut c s r tm)).frame = g.frame ∧ (a.again (w.shut c s r tm)).callers = g.callers ∧ (a.again (w.shut c s r tm)).dying = g.dying ∧ (a.again (w.shut c s r tm)).status = .running := by
    intro a hs
    cases hs with
    | run h1 h2 h3 h4 => rw [again_running _ (.inl h4)]; exact ⟨h1, h2, h3, h4⟩
    | wait c' z h1 h2 =>
      obtain ⟨L', h2⟩ := h2
      rw [ha.tag] at h2
      cases h2
      subst h1
      rw [again_parked_shut rfl hc2]
      exact ⟨rfl, rfl, rfl, rfl⟩
  obtain ⟨x1, x2, x3, x4⟩ := hst0 _ ha.sta
  have hap : Apart O (fun b => Oc b ∨ b = c) m.ro := ⟨fun b hO hx => hx.elim (hsep.ap.a b hO) fun e => hsep.co (e ▸ hO), hsep.ap.b, fun b hx => hx.elim (hsep.ap.c b) fun e => e ▸ hsep.cr⟩
  have htr : TSh (t ++ MemOp.ofEvents k (f k).frame.fn (f k).frame.place #[⟨.obj c, false, true⟩, ⟨.obj c, true, true⟩]) c O (fun b => Oc b ∨ b = c) m.ro := by
    have e3 : (#[⟨.obj c, false, true⟩, ⟨.obj c, true, true⟩] : Array Event) = (#[⟨.obj c, false, true⟩] : Array Event).push ⟨.obj c, true, true⟩ := rfl
    rw [e3, ofEvents_push, ← Array.push_append]
    have tc := touch_close (c := c) (k := k) (fn := (f k).frame.fn) (pos := (f k).frame.place) (Oc := Oc) (ro := m.ro)
    exact (ha.tr.swap.add tc.1 tc.2 (fun b hb => .inl hb) hap.swap).swap.shut ⟨rfl, rfl⟩
  refine HS N _ _ (fun b => Oc b ∨ b = c) (fun j => if j = k then nq else ks j) _ sl ⟨ha.tag, by omega, ha.rely.trans (Rely.shut s r tm hsep.co hsep.cr), ⟨s, r, tm, hc2⟩, by rw [e0]; exact x1, by rw [e0]; exact x2, by rw [e0]; exact x3, by rw [e0]; exact x4, ⟨fun j hj hs => ?_⟩, ?_, htr⟩
  · by_cases e : j = k
    · subst e; rw [at_same, if_pos rfl]; exact hq
    · rw [at_ne e, if_neg e, if_pos hwk]
      have := ha.lv.q j hj (by rintro (h | h) <;> contradiction)
      rw [again_running _ this.status]
      exact this
  · exact ⟨hap, hsep.co, hsep.cr, fun b hb => hb.elim (fun h => by rw [hsz]; exact hsep.bc b h) fun h => by rw [hsz, h]; exact hsep.ch, fun b hb => by rw [hsz]; exact hsep.br b hb, by rw [hsz]; exact hsep.ch⟩
theorem opn_own {L : List Value} {N k : Nat} {f : Nat → Goroutine} {w w' : World} {Oc : Nat → Prop} {ks : Nat → Nat} {t : Trace} {g' : Goroutine} {es : Array Event} {mc : Mode} (sl : Option (Nat × Nat)) (ha : Opn P m g wm O c L N f w k Oc ks t) (hmc : mc.ro = m.ro) (hgo : stepG P false (f k) w = .go g' w' es) (hg : Guar Oc mc w w' es)
    (hr : RunC P c m.ro L g' w' (grow Oc w w')) :
    ∃ ops, runT P (crew N f w sl) k = (.next (crew N (at' f k g') w' sl), ops) ∧ Opn P m g wm O c L N (at' f k g') w' k (grow Oc w w') ks (t ++ ops) := by
  obtain ⟨s, r, tm, hc⟩ := ha.chan
  have k0 := ha.k0
  have kN := ha.kN
  have hne : (k == 0) = false := by simp; omega
  have hc' := hg.chan ha.sep.cc hc
  have hrun := runT_own (P := P) (sl := sl) (N := N) (f := f) (i := k) kN (by rw [hne]; exact hgo) fun j hj hjk => by
    by_cases e : j = 0
    · subst e; exact ha.sta.again ha.tag hc'
    · exact ha.lv.again hj (by rintro (h | h) <;> contradiction)
  refine ⟨_, hrun, ?_⟩
  have hsp := ofEvents_spec (k := k) (fn := (f k).frame.fn) (pos := (f k).frame.place) hg.evs
  have hsep := (ha.sep.swap.grow hg).swap
  have e0 : at' f k g' 0 = f 0 := at_ne (by omega)
  refine ⟨ha.tag, ha.k0, ha.kN, ha.rely.trans (hg.rely ha.sep.swap.ap rfl), ⟨s, r, tm, hc'⟩, by rw [e0]; exact ha.sta, by rw [at_same]; exact .going hr, ha.lv.skip (.inr rfl), hsep, ?_, .inr (by rw [at_same]; exact runC_status hr)⟩
  rw [hmc] at hsp
  exact (ha.tr.swap.add hsp.1 hsp.2 (fun b hb => .inl hb) hsep.swap.ap).swap
theorem opn_ends {L : List Value} (HM : MainMoves P Post m g wm O c L) (HR : MainMet P Post m g wm O c L) (HS : L = [] → ∀ N f w Oc ks t sl, Shu P m g wm O c N f w Oc ks t → Ends P Post (crew N f w sl) t) :
    ∀ N f w k Oc ks t sl, Opn P m g wm O c L N f w k Oc ks t → Ends P Post (crew N f w sl) t := by
  have key : ∀ (mc : Mode) (b : Goroutine) (wc : World) (Oc : Nat → Prop), Run P false (XC P) (StC P) mc b wc Oc → mc = ⟨m.ro, .send c L⟩ →
      ∀ n N f w k ks t sl, Opn P m g wm O c L N f w k Oc ks t → f k = b → Rely Oc mc wc w → mu N f ks = n → Ends P Post (crew N f w sl) t := by
    intro mc b wc Oc hrun
    induction hrun with
    | @stop mc b wc Oc hstop =>
      intro hmc n
      induction n using Nat.strongRecOn with
      | _ n ih =>
        intro N f w k ks t sl ha hb hrel hn
        rcases opn_step HM sl ha with he | ⟨f', ks', d, sl', hst, ha', hk, hlt⟩ | ⟨d, sl', hkr, hst, ha'⟩
        · exact he
        · exact Ends.step hst (by rw [Array.append_empty]; exact ih _ (by omega) N f' _ k ks' t sl' ha' (hk.trans hb) (hrel.trans (Rely.at _ _ _ _)) rfl)
        · subst hmc
          obtain ⟨hbr, c', htag, hcl⟩ := hstop _ (hrel.trans (Rely.at _ _ _ d))
          simp only [Tag.send.injEq] at htag
          obtain ⟨rfl, rfl⟩ := htag
          obtain ⟨m', ops, hr, he⟩ := opn_close sl' ha' (by rw [hb]; exact hcl) (HS rfl)
          exact Ends.step (hst.trans hr) he
    | @walk mc b wc Oc g' w' es hs hstep hk ihk =>
      intro hmc n
      induction n using Nat.strongRecOn with
      | _ n ih =>
        intro N f w k ks t sl ha hb hrel hn
        rcases opn_step HM sl ha with he | ⟨f', ks', d, sl', hst, ha', hkk, hlt⟩ | ⟨d, sl', hkr, hst, ha'⟩
        · exact he
        · exact Ends.step hst (by rw [Array.append_empty]; exact ih _ (by omega) N f' _ k ks' t sl' ha' (hkk.trans hb) (hrel.trans (Rely.at _ _ _ _)) rfl)
        · have hrel' := hrel.trans (Rely.at _ _ _ d)
          obtain ⟨hgo, hg⟩ := hstep _ hrel'
          have hr := hk _ hrel'
          subst hmc
          obtain ⟨ops, hrun, ha2⟩ := opn_own (mc := ⟨m.ro, .send c L⟩) sl' ha' rfl (by rw [hb]; exact hgo) hg hr
          exact Ends.step (hst.trans hrun) (ihk _ hrel' rfl _ N _ _ k ks _ sl' ha2 at_same (Rely.refl _ _ _) rfl)
    | @extra mc b wc Oc K hx hk ihk =>
      intro hmc n
      induction n using Nat.strongRecOn with
      | _ n ih =>
        intro N f w k ks t sl ha hb hrel hn
        rcases opn_step HM sl ha with he | ⟨f', ks', d, sl', hst, ha', hkk, hlt⟩ | ⟨d, sl', hkr, hst, ha'⟩
        · exact he
        · exact Ends.step hst (by rw [Array.append_empty]; exact ih _ (by omega) N f' _ k ks' t sl' ha' (hkk.trans hb) (hrel.trans (Rely.at _ _ _ _)) rfl)
        · have hrel' := hrel.trans (Rely.at _ _ _ d)
          obtain ⟨_, c', v, L', g₂, z, htag, hcomm, hK⟩ := hx _ hrel'
          subst hmc
          simp only [Tag.send.injEq] at htag
          obtain ⟨rfl, rfl⟩ := htag
          have hrun := hk _ _ _ _ hK
          obtain ⟨s, r, tm, hc⟩ := ha'.chan
          have k0 := ha.k0
          have kN := ha.kN
          have hne : (k == 0) = false := by simp; omega
          rw [← hb] at hcomm
          have hlv : ∀ j, j < N → j ≠ k → j ≠ 0 → (f j).status ≠ .blocked := fun j hj h1 h2 => by
            rcases (ha.lv.q j hj (by rintro (h | h) <;> contradiction)).status with h | h <;> rw [h] <;> simp
          cases hs : ha'.sta with
          | run q1 q2 q3 q4 =>
            have hr := crew_send_waits (P := P) (sl := sl') (N := N) (f := f) (i := k) kN (by rw [hne]; exact hcomm) hc fun j hj hjk => by
              by_cases e : j = 0
              · subst e; rw [q4]; simp
              · exact hlv j hj hjk e
            refine Ends.step (hst.trans hr) ?_
            rw [ofEvents_nil, Array.append_empty]
            have e0 : ∀ x, at' f k x 0 = f 0 := fun x => at_ne (by omega)
            refine opn_waiting HM _ N _ _ k Oc ks t sl' ⟨ha.tag, ha.k0, ha.kN, ha'.rely, ha'.chan, by rw [e0]; exact ha'.sta, by rw [at_same]; exact .waiting hrun, ha'.lv.skip (.inr rfl), ha'.sep, ha.tr, .inl (by rw [e0]; exact q4)⟩ (by rw [at_same]; simp [parked]) rfl
          | wait c2 z2 q1 q2 q3 =>
            obtain ⟨L2, q2⟩ := q2
            rw [ha.tag] at q2
            cases q2
            have hr := crew_send_meets (P := P) (sl := sl') (N := N) (f := f) (i := k) (k := 0) kN (by omega) (by omega) (by rw [hne]; exact hcomm) hc q1 fun j hj h1 h2 => hlv j hj h1 h2
            refine Ends.step (hst.trans hr) ?_
            rw [ofEvents_nil, Array.empty_append]
            refine HR N f _ k Oc ks t sl' s r tm v L' z2 g₂ _ rfl ha' hc q1 hrun ?_
            intro op hop
            simp at hop
            rcases hop with rfl | rfl | rfl | rfl <;> exact ⟨rfl, fun mm hm => by cases hm⟩
  intro N f w k Oc ks t sl ha
  have hch := ha.chd
  generalize hb : f k = b at hch
  cases hch with
  | going hr => exact key _ _ _ _ hr rfl _ N f w k ks t sl ha hb (Rely.refl _ _ _) rfl
  | waiting hr => exact opn_waiting HM _ N f w k Oc ks t sl ha (by rw [hb]; simp [parked]) rfl
end opn
theorem concl {m : Mode} {g : Goroutine} {wm : World} {O : Nat → Prop} (h : Run P true (XM P) (StM P Post) m g wm O) : Concl P Post m g wm O := by
  induction h with
  | @stop m g wm O hstop =>
    have htag := (hstop wm (Rely.refl _ _ _)).1
    refine ⟨fun N f w ks t sl ha => aln_ends ?_ _ N f w ks t sl ha rfl, fun c L N f w k Oc ks t sl ha => ?_, fun c N f w Oc ks t sl ha => ?_⟩
    · intro N f w ks t sl ha r hr
      obtain ⟨_, hrun, v, w', es, hend, hes, hpost⟩ := hstop _ ha.rely
      have := runT_ended (P := P) (sl := sl) (N := N) (f := f) (i := 0) ha.N0 (by rw [ha.fr]; exact hend)
      rw [this] at hr
      subst hr
      refine .inr ⟨_, _, _, rfl, fun d sl' => ?_⟩
      have hsp := ofEvents_spec (k := 0) (fn := (f 0).frame.fn) (pos := (f 0).frame.place) hes
      have htr := ha.tr.add hsp.1 fun op ho => (hsp.2 op ho).1
      refine ⟨v, rfl, hpost, fun said => htr.ord.noRace htr.quiet said, htr.handedOver, ⟨?_, rfl⟩, ?_⟩
      · intro x hx
        obtain ⟨j, hj⟩ := List.getElem?_of_mem hx
        rw [List.getElem?_drop] at hj
        have hj' : (gsOf N f)[1 + j]? = some x := by simpa [crew] using hj
        obtain ⟨hlt, rfl⟩ := gsOf_some hj'
        exact ⟨_, (ha.lv.q (1 + j) hlt (by omega)).leaves⟩
      · intro i x hi hne
        obtain ⟨hlt, rfl⟩ := gsOf_some hi
        rw [htr.quiet.deaf]
        exact ⟨_, (ha.lv.q i hlt hne).hears _ 0⟩
    · rw [ha.tag] at htag; cases htag
    · rw [ha.tag] at htag; cases htag
  | @walk m g wm O g' w' es hs hstep hk ih =>
    have hshu : ∀ c N f w Oc ks t sl, Shu P m g wm O c N f w Oc ks t → ∃ m' ops, runT P (crew N f w sl) 0 = (.next m', ops) ∧ Ends P Post m' (t ++ ops) := by
      intro c N f w Oc ks t sl ha
      obtain ⟨hgo, hg⟩ := hstep _ ha.rely
      obtain ⟨s, r, tm, hc⟩ := ha.chan
      have hc' := hg.chan ha.sep.co hc
      have hrun := runT_own (P := P) (sl := sl) (N := N) (f := f) (i := 0) ha.N0 (by rw [stepG_same ha.fr ha.cl ha.dy]; exact hgo) fun j hj hj0 => ha.lv.again hj hj0
      refine ⟨_, _, hrun, ?_⟩
      have hsp := ofEvents_spec (k := 0) (fn := (f 0).frame.fn) (pos := (f 0).frame.place) hg.evs
      have hsep := ha.sep.grow hg
      have hst' : (g' w).status = .running := by
        have := hk w ha.rely
        cases this with
        | stop h => exact (h _ (Rely.refl _ _ _)).2.1
        | walk _ _ _ hs _ _ => exact hs
        | extra K h _ => exact (h _ (Rely.refl _ _ _)).1
      refine (ih w ha.rely).2.2 c N _ _ Oc ks _ sl ⟨ha.tag, ha.N0, Rely.refl _ _ _, ⟨s, r, tm, hc'⟩, by rw [at_same], by rw [at_same], by rw [at_same], by rw [at_same]; exact hst', ha.lv.skip rfl, hsep, ?_⟩
      exact ha.tr.add hsp.1 hsp.2 hsep.ap
    have hst' : ∀ w, Rely O m wm w → (g' w).status = .running := fun w hw => by
      have := hk w hw
      cases this with
      | stop h => exact (h _ (Rely.refl _ _ _)).2.1
      | walk _ _ _ hs _ _ => exact hs
      | extra K h _ => exact (h _ (Rely.refl _ _ _)).1
    refine ⟨fun N f w ks t sl ha => aln_ends ?_ _ N f w ks t sl ha rfl, fun c L N f w k Oc ks t sl ha => ?_, fun c N f w Oc ks t sl ha => shu_ends (hshu c) _ N f w Oc ks t sl ha rfl⟩
    · intro N f w ks t sl ha r hr
      obtain ⟨hgo, hg⟩ := hstep _ ha.rely
      have hrun := runT_own (P := P) (sl := sl) (N := N) (f := f) (i := 0) ha.N0 (by rw [ha.fr]; exact hgo) fun j hj hj0 => ha.lv.again hj hj0
      rw [hrun] at hr
      subst hr
      refine .inl ⟨_, _, rfl, ?_⟩
      have hsp := ofEvents_spec (k := 0) (fn := (f 0).frame.fn) (pos := (f 0).frame.place) hg.evs
      exact (ih w ha.rely).1 N _ _ ks _ sl ⟨ha.tag, ha.N0, Rely.refl _ _ _, at_same, hst' w ha.rely, ha.lv.skip rfl, ha.tr.add hsp.1 fun op ho => (hsp.2 op ho).1⟩
    · refine opn_ends ?_ ?_ (fun hL => fun N f w Oc ks t sl ha => shu_ends (hshu c) _ N f w Oc ks t sl ha rfl) N f w k Oc ks t sl ha
      · intro N f w k Oc ks t sl ha h0
        obtain ⟨hgo, hg⟩ := hstep _ ha.rely
        obtain ⟨s, r, tm, hc⟩ := ha.chan
        have k0 := ha.k0
        have kN := ha.kN
        have hc' := hg.chan ha.sep.co hc
        have hrun := runT_own (P := P) (sl := sl) (N := N) (f := f) (i := 0) (by omega) (by have := ha.sta.step (w := w) h0; rw [show ((0 : Nat) == 0) = true from rfl, this]; exact hgo) fun j hj hj0 => by
          by_cases e : j = k
          · subst e; exact ha.chd.again hc'
          · exact ha.lv.again hj (by rintro (h | h) <;> contradiction)
        refine ⟨_, _, hrun, .inl ?_⟩
        have hsp := ofEvents_spec (k := 0) (fn := (f 0).frame.fn) (pos := (f 0).frame.place) hg.evs
        have hsep := ha.sep.grow hg
        have ek : at' f 0 (g' w) k = f k := at_ne (by omega)
        refine (ih w ha.rely).2.1 c L N _ _ k Oc ks _ sl ⟨ha.tag, ha.k0, ha.kN, Rely.refl _ _ _, ⟨s, r, tm, hc'⟩, by rw [at_same]; exact Sta.self (hst' w ha.rely), by rw [ek]; exact ha.chd.rely fun _ => hg.rely ha.sep.ap rfl, ha.lv.skip (.inl rfl), hsep, ?_, .inl (by rw [at_same]; exact hst' w ha.rely)⟩
        exact ha.tr.add hsp.1 hsp.2 (fun b hb => .inl hb) hsep.ap
      · intro N f w k Oc ks t sl s r tm v L' z g₂ ops hL ha hc h0 hr hops
        exfalso
        cases ha.sta with
        | run _ _ _ h4 => rw [h0] at h4; simp [parked] at h4
        | wait c2 z2 q1 q2 q3 =>
          obtain ⟨w₁, hw, hcomm⟩ := q3
          rw [(hstep _ hw).1] at hcomm
          cases hcomm
  | @extra m g wm O K hx hk ih =>
    have hrs := (hx wm (Rely.refl _ _ _)).1
    have hoff := (hx wm (Rely.refl _ _ _)).2.1
    have hshu : ∀ c N f w Oc ks t sl, Shu P m g wm O c N f w Oc ks t → ∃ m' ops, runT P (crew N f w sl) 0 = (.next m', ops) ∧ Ends P Post m' (t ++ ops) := by
      intro c N f w Oc ks t sl ha
      obtain ⟨_, _, hX⟩ := hx _ ha.rely
      rw [ha.tag] at hX
      obtain ⟨z, hcomm, ro', O', hK⟩ := hX
      obtain ⟨s, r, tm, hc⟩ := ha.chan
      have hr := crew_recv_closed (P := P) (sl := sl) (N := N) (f := f) (i := 0) ha.N0 (by rw [show ((0 : Nat) == 0) = true from rfl, stepG_same ha.fr ha.cl ha.dy]; exact hcomm) hc fun j hj hj0 => by
        rcases (ha.lv.q j hj hj0).status with h | h <;> rw [h] <;> simp
      refine ⟨_, _, hr, ?_⟩
      rw [ofEvents_nil, Array.empty_append]
      refine (ih _ _ _ _ hK).1 N _ _ ks _ sl ⟨rfl, ha.N0, Rely.refl _ _ _, at_same, rfl, ha.lv.skip rfl, ?_⟩
      exact ha.tr.join ⟨rfl, rfl⟩
    refine ⟨fun N f w ks t sl ha => aln_ends ?_ _ N f w ks t sl ha rfl, fun c L N f w k Oc ks t sl ha => ?_, fun c N f w Oc ks t sl ha => shu_ends (hshu c) _ N f w Oc ks t sl ha rfl⟩
    · intro N f w ks t sl ha r hr
      obtain ⟨_, _, hX⟩ := hx _ ha.rely
      rw [ha.tag] at hX
      obtain ⟨g', child, c, L, O', ro', s, r', tm, hgs, hsp, hc, hsep, hch, hK⟩ := hX
      have hrun := runT_spawn (P := P) (sl := sl) (N := N) (f := f) (i := 0) ha.N0 (by rw [ha.fr]; exact hsp)
      rw [hrun] at hr
      subst hr
      refine .inl ⟨_, _, rfl, ?_⟩
      have N0 := ha.N0
      have e0 : at' (at' f 0 g') N child 0 = g' := by rw [at_ne (by omega), at_same]
      rw [ofEvents_nil]
      refine (ih _ _ _ _ hK).2.1 c L (N + 1) _ _ N (fun _ => False) ks _ sl ⟨rfl, N0, by omega, Rely.refl _ _ _, ⟨s, r', tm, hc⟩, by rw [e0]; exact Sta.self hgs, by rw [at_same]; exact .going hch, ⟨fun j hj hsk => ?_⟩, hsep, ?_, .inl (by rw [e0]; exact hgs)⟩
      · have h1 : j ≠ 0 := fun e => hsk (.inl e)
        have h2 : j ≠ N := fun e => hsk (.inr e)
        rw [at_ne h2, at_ne h1]
        exact ha.lv.q j (by omega) h1
      · have := ha.tr.fork (n := N) (O := O') (ro := ro') (x := { g := 0, fn := (f 0).frame.fn, pos := (f 0).frame.place, act := .go N }) (y := { g := N, fn := child.frame.fn, pos := (f 0).frame.place, act := .start }) ⟨rfl, rfl⟩ ⟨rfl, rfl⟩
        have e : t ++ (((#[] : Trace).push { g := 0, fn := (f 0).frame.fn, pos := (f 0).frame.place, act := .go N }).push { g := N, fn := child.frame.fn, pos := (f 0).frame.place, act := .start }) = (t.push { g := 0, fn := (f 0).frame.fn, pos := (f 0).frame.place, act := .go N }).push { g := N, fn := child.frame.fn, pos := (f 0).frame.place, act := .start } := by
          rw [Array.append_push, Array.append_push, Array.append_empty]
        rw [e]
        exact this
    · refine opn_ends ?_ ?_ (fun hL => fun N f w Oc ks t sl ha => shu_ends (hshu c) _ N f w Oc ks t sl ha rfl) N f w k Oc ks t sl ha
      · intro N f w k Oc ks t sl ha h0
        obtain ⟨_, _, hX⟩ := hx _ ha.rely
        rw [ha.tag] at hX
        obtain ⟨z, hcomm, hX⟩ := hX
        obtain ⟨s, r, tm, hc⟩ := ha.chan
        have k0 := ha.k0
        have kN := ha.kN
        have hsg : stepG P true (f 0) w = .comm g #[rcase c z] true (.recv true) w #[] := (ha.sta.step h0).trans hcomm
        have hlv : ∀ j, j < N → j ≠ 0 → j ≠ k → (f j).status ≠ .blocked := fun j hj h1 h2 => by
          rcases (ha.lv.q j hj (by rintro (h | h) <;> contradiction)).status with h | h <;> rw [h] <;> simp
        have hch := ha.chd
        generalize hb : f k = b at hch
        cases hch with
        | going hr =>
          have hbs := runC_status hr
          have hrun := crew_recv_waits (P := P) (sl := sl) (N := N) (f := f) (i := 0) (by omega) hsg hc fun j hj hj0 => by
            by_cases e : j = k
            · subst e; rw [hb, hbs]; simp
            · exact hlv j hj hj0 e
          refine ⟨_, _, hrun, .inr ⟨hbs, rfl, _, rfl, by simp [parked], ?_⟩⟩
          exact .wait c z rfl ⟨L, ha.tag⟩ ⟨w, ha.rely, hcomm⟩
        | @waiting v z' L' g₂ _ _ hr =>
          have hrun := crew_recv_meets (P := P) (sl := sl) (N := N) (f := f) (i := 0) (k := k) (by omega) kN (by omega) hsg hc hb hlv
          refine ⟨_, _, hrun, .inl ?_⟩
          rw [ofEvents_nil, Array.empty_append]
          have hsep : Sep c (w.passed c s r tm) O Oc m.ro := ha.sep.size (by simp [World.passed])
          have rl : ∀ tag, Rely Oc ⟨m.ro, tag⟩ w (w.passed c s r tm) := fun tag => Rely.passed s r tm ha.sep.cc ha.sep.cr
          have hc2 : (w.passed c s r tm).heap[c]? = some (.chan 0 #[] false (s + 1) (r + 1) tm) := heap_put hc
          have e0 : ∀ x y, at' (at' f 0 x) k y 0 = x := fun x y => by rw [at_ne (by omega), at_same]
          refine (ih _ _ _ _ hX).2.1 c L' N _ _ k Oc ks _ sl ⟨rfl, k0, kN, Rely.passed s r tm ha.sep.co ha.sep.cr, ⟨_, _, _, hc2⟩, by rw [e0]; exact Sta.self rfl, by rw [at_same]; exact (Chd.going hr).rely rl, (ha.lv.skip (.inl rfl)).skip (.inr rfl), hsep, ?_, .inl (by rw [e0]; rfl)⟩
          refine ha.tr.still ?_ ?_
          · intro op hop
            simp at hop
            rcases hop with rfl | rfl | rfl | rfl <;> exact fun mm hm => by cases hm
          · intro op hop
            simp at hop
            rcases hop with rfl | rfl | rfl | rfl <;> rfl
      · intro N f w k Oc ks t sl s r tm v L' z g₂ ops hL ha hc h0 hr hops
        subst hL
        obtain ⟨_, _, hX⟩ := hx _ ha.rely
        rw [ha.tag] at hX
        obtain ⟨z3, hcomm, hX⟩ := hX
        have k0 := ha.k0
        have kN := ha.kN
        have hsep : Sep c (w.passed c s r tm) O Oc m.ro := ha.sep.size (by simp [World.passed])
        have rl : ∀ tag, Rely Oc ⟨m.ro, tag⟩ w (w.passed c s r tm) := fun tag => Rely.passed s r tm ha.sep.cc ha.sep.cr
        have hc2 : (w.passed c s r tm).heap[c]? = some (.chan 0 #[] false (s + 1) (r + 1) tm) := heap_put hc
        have ek : ∀ x y, at' (at' f k x) 0 y k = x := fun x y => by rw [at_ne (by omega), at_same]
        refine (ih _ _ _ _ hX).2.1 c L' N _ _ k Oc ks _ sl ⟨rfl, k0, kN, Rely.passed s r tm ha.sep.co ha.sep.cr, ⟨_, _, _, hc2⟩, by rw [at_same]; exact Sta.self rfl, by rw [ek]; exact (Chd.going hr).rely rl, (ha.lv.skip (.inr rfl)).skip (.inl rfl), hsep, ?_, .inl (by rw [at_same]; rfl)⟩
        exact ha.tr.still (fun op hop => (hops op hop).2) fun op hop => (hops op hop).1
theorem run_good {ro : Nat → Prop} {a : Goroutine} {w : World} {O : Nat → Prop} (h : Run P true (XM P) (StM P Post) ⟨ro, .plain⟩ a w O) (hs : a.status = .running) :
    ∃ N last o w' t', runNT P (N + 1) (solo a w) #[] = (.ended o w', t') ∧ runN P N (solo a w) = .next last ∧ step P last = .ended o w' ∧ Good P Post last o w' t' := by
  have e : solo a w = crew 1 (fun _ => a) w none := by
    unfold solo crew
    congr 1
    apply Array.ext_getElem?
    intro j
    by_cases hj : j < 1
    · have : j = 0 := by omega
      subst this
      rw [gsOf_get (by omega)]; rfl
    · rw [gsOf_get_none (by omega), Array.getElem?_eq_none (by simp; omega)]
  rw [e]
  exact (concl h).1 1 (fun _ => a) w (fun _ => 0) #[] none ⟨rfl, by omega, Rely.refl _ _ _, rfl, hs, ⟨fun j hj hne => absurd (by omega) hne⟩, TAl.empty⟩
end
end Go.Proofs.YtpnnmklacialgaaGreat
namespace Go.Proofs.YtpnnmklacialgaaGreat
open Go.Conc
abbrev PostM := Mode → Post
abbrev Env.at (E : Env) (m : Mode) : Env := { E with m := m }
def WM (P : Program) (E : Env) (fn n : Nat) (c : Code) (Q : PostM) (t : Tm) (ds : List Deferred) (S : Ents) : Prop :=
  ∀ (F : Ents) (b : Frame) (arr : Array Value) (k : List Item) (cs : List Frame) (w : World) (O : Nat → Prop) (Stop : StopAt), b.fn = fn → FrOk E b → Agree n arr t → Holds (S ++ F) w O E.m.ro →
    (∀ m' e t' ds' S' arr' w' O', Q m' e t' ds' S' → Agree n arr' t' → Holds (S' ++ F) w' O' m'.ro → Aft P (E.at m') Stop b k cs e arr' ds' w' O') →
    RunE P E Stop (G (b.st arr ds (.code c :: k)) cs) w O
def OpsM (P : Program) (E : Env) (fn n : Nat) (ops : Array Oper) (todo : List Nat) (Q : Mode → Tm → List Deferred → Ents → Prop) (t : Tm) (ds : List Deferred) (S : Ents) : Prop :=
  ∀ (F : Ents) (b : Frame) (arr : Array Value) (k : List Item) (cs : List Frame) (w : World) (O : Nat → Prop) (Stop : StopAt), b.fn = fn → FrOk E b → Agree n arr t → Holds (S ++ F) w O E.m.ro →
    (∀ m' t' ds' S' arr' w' O', Q m' t' ds' S' → Agree n arr' t' → Holds (S' ++ F) w' O' m'.ro → RunE P (E.at m') Stop (G (b.st arr' ds' (.inRegion ops [] :: k)) cs) w' O') →
    RunE P E Stop (G (b.st arr ds (.inRegion ops todo :: k)) cs) w O
def CallM (P : Program) (E : Env) (f : FuncId) (args : Array Value) (S : Ents) (R : Mode → Value → Ents → Prop) : Prop :=
  Enters P f ∧ ∀ (F : Ents) (c : Frame) (cs : List Frame) (w : World) (O : Nat → Prop) (Stop : StopAt), Holds (S ++ F) w O E.m.ro →
    (∀ m' v S' w' O', R m' v S' → Holds (S' ++ F) w' O' m'.ro → RunE P (E.at m') Stop (G (c.finish v) cs) w' O') → RunE P E Stop (G (Frame.enter P f args .normal) (c :: cs)) w O
section
variable {P : Program} {E : Env} {fn n : Nat} {Q : PostM} {t : Tm} {ds : List Deferred} {S : Ents} {ops : Array Oper} {i : Nat} {rest : List Nat} {K : Mode → Tm → List Deferred → Ents → Prop}
theorem wm_of {c : Code} (h : WP P E fn n c (Q E.m) t ds S) : WM P E fn n c Q t ds S := fun F b arr k cs w O Stop h1 h2 h3 h4 h5 =>
  h F b arr k cs w O Stop h1 h2 h3 h4 fun e t' ds' S' arr' w' O' q ha hh => h5 E.m e t' ds' S' arr' w' O' q ha hh
theorem WM.mono {c : Code} {Q' : PostM} (h : WM P E fn n c Q t ds S) (hq : ∀ m e t ds S, Q m e t ds S → Q' m e t ds S) : WM P E fn n c Q' t ds S :=
  fun F b arr k cs w O Stop h1 h2 h3 h4 h5 => h F b arr k cs w O Stop h1 h2 h3 h4 fun m e t' ds' S' arr' w' O' q => h5 m e t' ds' S' arr' w' O' (hq _ _ _ _ _ q)
theorem WM.sub {c : Code} {S' : Ents} (h : WM P E fn n c Q t ds S') (hs : List.Sublist S' S) : WM P E fn n c Q t ds S :=
  fun F b arr k cs w O Stop h1 h2 h3 h4 h5 => h F b arr k cs w O Stop h1 h2 h3 (h4.sub (hs.append_right F)) h5
theorem WM.perm {c : Code} {S' : Ents} (h : WM P E fn n c Q t ds S') (hs : S.Perm S') : WM P E fn n c Q t ds S :=
  fun F b arr k cs w O Stop h1 h2 h3 h4 h5 => h F b arr k cs w O Stop h1 h2 h3 (h4.perm (hs.append_right F)) h5
theorem wm_skip (h : Q E.m .normal t ds S) : WM P E fn n .skip Q t ds S := wm_of (wp_skip h)
theorem wm_seq {x y : Code} (h : WM P E fn n x (fun m' => seqQ (WM P (E.at m') fn n y Q) (Q m')) t ds S) : WM P E fn n (.seq x y) Q t ds S := fun F b arr k cs w O Stop h1 h2 h3 h4 h5 =>
  RunE.silent rfl (fun _ => st_seq) fun w₁ hr => h F b arr (.code y :: k) cs w₁ O Stop h1 h2 h3 (h4.rely hr) fun m' e t' ds' S' arr' w' O' q ha hh => by
    cases e with
    | normal => exact q F b arr' k cs w' O' Stop h1 h2 ha hh h5
    | exit id => exact (h5 _ _ _ _ _ _ _ _ q ha hh).push rfl (by simp)
    | ret => exact h5 m' .ret _ _ _ _ _ _ q ha hh
    | goto l => exact h5 _ _ _ _ _ _ _ _ q ha hh
    | panic c => exact h5 _ _ _ _ _ _ _ _ q ha hh
    | outgrown => exact h5 _ _ _ _ _ _ _ _ q ha hh
theorem wm_seqP {x y : Code} (h : WP P E fn n x (seqQ (WM P E fn n y Q) (Q E.m)) t ds S) : WM P E fn n (.seq x y) Q t ds S := wm_seq (wm_of h)
theorem wm_cut {x y : Code} (M : Tm → List Deferred → Ents → Prop) (h1 : WP P E fn n x (seqQ (fun t ds S' => ∃ S'', List.Sublist S'' S' ∧ M t ds S'') (Q E.m)) t ds S) (h2 : ∀ t ds S, M t ds S → WM P E fn n y Q t ds S) : WM P E fn n (.seq x y) Q t ds S :=
  wm_seqP (h1.mono fun e t' ds' S' hq => by
    cases e with
    | normal => obtain ⟨S'', hs, hm⟩ := hq; exact (h2 _ _ _ hm).sub hs
    | exit id => exact hq
    | ret => exact hq
    | goto l => exact hq
    | panic c => exact hq
    | outgrown => exact hq)
theorem wm_cond {c : Operand} {x y : Code} {v : Bool} (hc : ev t c = .bool v) (h1 : v = true → WM P E fn n x Q t ds S) (h2 : v = false → WM P E fn n y Q t ds S) : WM P E fn n (.cond c x y) Q t ds S := fun F b arr k cs w O Stop g1 g2 g3 g4 g5 =>
  RunE.silent rfl (fun _ => st_cond g3 hc) fun w₁ hr => by
    cases v with
    | true => exact h1 rfl F b arr k cs w₁ O Stop g1 g2 g3 (g4.rely hr) g5
    | false => exact h2 rfl F b arr k cs w₁ O Stop g1 g2 g3 (g4.rely hr) g5
theorem wm_condD {l : TL} {c : Operand} {x y : Code} {p : Prop} [Decidable p] (hc : evL l t c = some (.bool (decide p))) (h1 : p → WM P E fn n x Q (den l t) ds S) (h2 : ¬ p → WM P E fn n y Q (den l t) ds S) : WM P E fn n (.cond c x y) Q (den l t) ds S :=
  wm_cond (evL_eq hc) (fun h => h1 (of_decide_eq_true h)) fun h => h2 (of_decide_eq_false h)
theorem wm_block {id : Nat} {c : Code} (h : WM P E fn n c (fun m' => blockQ id (Q m')) t ds S) : WM P E fn n (.block id c) Q t ds S := fun F b arr k cs w O Stop h1 h2 h3 h4 h5 =>
  RunE.silent rfl (fun _ => st_block) fun w₁ hr => h F b arr (.inBlock id :: k) cs w₁ O Stop h1 h2 h3 (h4.rely hr) fun m' e t' ds' S' arr' w' O' q ha hh => by
    cases e with
    | normal => exact RunE.silent rfl (fun _ => st_inBlock) fun w₂ hr₂ => RunE.rely (h5 m' .normal _ _ _ _ _ _ q ha hh) hr₂
    | exit i =>
      by_cases e : i = id
      · subst e
        simp only [blockQ, show Nat.beq i i = true from by simp, cond_true] at q
        exact ⟨k, by simp [exitTo], h5 m' .normal _ _ _ _ _ _ q ha hh⟩
      · simp only [blockQ, beq_ne e, cond_false] at q
        obtain ⟨k', hk, hg⟩ := h5 _ _ _ _ _ _ _ _ q ha hh
        exact ⟨k', by simp [exitTo, hk]; omega, hg⟩
    | ret => exact h5 m' .ret _ _ _ _ _ _ q ha hh
    | goto l => exact h5 _ _ _ _ _ _ _ _ q ha hh
    | panic c => exact h5 _ _ _ _ _ _ _ _ q ha hh
    | outgrown => exact h5 _ _ _ _ _ _ _ _ q ha hh
theorem wm_loop {c : Code} (I : Nat → Mode → Tm → List Deferred → Ents → Prop) (i : Nat) (h0 : I i E.m t ds S)
    (h : ∀ i m t ds S, I i m t ds S → WM P (E.at m) fn n c (fun m' => seqQ (fun t' ds' S' => ∃ i', i' < i ∧ ∃ S'', List.Sublist S'' S' ∧ I i' m' t' ds' S'') (Q m')) t ds S) : WM P E fn n (.loop c) Q t ds S := by
  intro F b arr k cs w O Stop h1 h2 h3 h4 h5
  have key : ∀ i m t ds S arr w O, I i m t ds S → Agree n arr t → Holds (S ++ F) w O m.ro → RunE P (E.at m) Stop (G (b.st arr ds (.code c :: .inLoop c :: k)) cs) w O := by
    intro i
    induction i using Nat.strongRecOn with
    | _ i ih =>
      intro m t ds S arr w O hI ha hh
      refine h i m t ds S hI F b arr (.inLoop c :: k) cs w O Stop h1 h2 ha hh fun m' e t' ds' S' arr' w' O' q ha' hh' => ?_
      cases e with
      | normal =>
        obtain ⟨i', hlt, S'', hsub, hI'⟩ := q
        exact RunE.silent rfl (fun _ => st_inLoop) fun w₂ hr₂ => ih i' hlt _ _ _ _ _ _ _ hI' ha' ((hh'.sub (hsub.append_right F)).rely hr₂)
      | exit id => exact (h5 _ _ _ _ _ _ _ _ q ha' hh').push rfl (by simp)
      | ret => exact h5 m' .ret _ _ _ _ _ _ q ha' hh'
      | goto l => exact h5 _ _ _ _ _ _ _ _ q ha' hh'
      | panic c => exact h5 _ _ _ _ _ _ _ _ q ha' hh'
      | outgrown => exact h5 _ _ _ _ _ _ _ _ q ha' hh'
  exact RunE.silent rfl (fun _ => st_loop) fun w₁ hr => key i E.m t ds S arr w₁ O h0 h3 (h4.rely hr)
theorem wm_region {id : Nat} (h : OpsM P E fn n ops (List.range ops.size) (fun m' => Q m' .normal) t ds S) : WM P E fn n (.region id ops false) Q t ds S := fun F b arr k cs w O Stop h1 h2 h3 h4 h5 =>
  RunE.silent rfl (fun _ => st_region) fun w₁ hr => h F b arr k cs w₁ O Stop h1 h2 h3 (h4.rely hr) fun m' t' ds' S' arr' w' O' q ha hh =>
    RunE.silent rfl (fun _ => st_region_end) fun w₂ hr₂ => RunE.rely (h5 m' .normal t' ds' S' arr' w' O' q ha hh) hr₂
theorem wm_regionS (j r : Nat) {id : Nat} (hj : Nat.beq ops.size (j + r) = true) (h : OpF P E fn n ops true (seqL 0 j) (fun t ds S => OpsM P E fn n ops (List.range' j r) (fun m' => Q m' .normal) t ds S) t ds [] S) : WM P E fn n (.region id ops false) Q t ds S := by
  refine wm_region ?_
  have hj' := Nat.eq_of_beq_eq_true hj
  have e : List.range ops.size = List.range' 0 j ++ List.range' j r := by
    rw [List.range_eq_range', hj', ← List.range'_append]
    simp
  rw [e]
  have h1 := h.1 rfl
  rw [seqL_map] at h1
  exact fun F b arr k cs w O Stop g1 g2 g3 g4 g5 => h1 F b arr k cs w O Stop _ g1 g2 g3 g4 fun t' ds' S' arr' w' O' q ha hh => q F b arr' k cs w' O' Stop g1 g2 ha hh g5
theorem opsM_nil (h : K E.m t ds S) : OpsM P E fn n ops [] K t ds S := fun F b arr k cs w O Stop h1 h2 h3 h4 h5 => h5 E.m t ds S arr w O h h3 h4
theorem opsM_rest {j r : Nat} (h : OpF P E fn n ops true (seqL j r) (K E.m) t ds [] S) : OpsM P E fn n ops (List.range' j r) K t ds S := by
  have h1 := h.1 rfl
  rw [seqL_map] at h1
  intro F b arr k cs w O Stop g1 g2 g3 g4 g5
  have := h1 F b arr k cs w O Stop [] g1 g2 g3 g4 fun t' ds' S' arr' w' O' q ha hh => g5 E.m t' ds' S' arr' w' O' q ha hh
  rwa [List.append_nil] at this
theorem opsM_call {d : Nat} {ty : TypeId} {pos : String} {af : Array Edge} {f : FuncId} {args : Array Operand} {ats : Array TypeId} {l : TL} {vs : List Value} {R : Mode → Value → Ents → Prop} (ho : ops[i]? = some ⟨some d, .call { callee := .value (.func f), args := args, argTypes := ats }, ty, pos, af, none⟩) (hd : Nat.blt d n = true)
    (hx : evLs l t args.toList = some vs) (hr : CallM P E f vs.toArray S R) (h : ∀ m' v S', R m' v S' → OpsM P (E.at m') fn n ops rest K (den ((d, v) :: l) t) ds S') : OpsM P E fn n ops (i :: rest) K (den l t) ds S := by
  intro F b arr k cs w O Stop h1 h2 h3 h4 h5
  refine RunE.silent (g' := G (Frame.enter P f vs.toArray .normal) (b.st arr ds (.inRegion ops (i :: rest) :: k) :: cs)) rfl (fun w₁ => ?_) fun w₁ hrel => ?_
  · rw [st_oper h3 ho rfl rfl]
    have hrun : (execOp (ev (den l t)) (⟨some d, .call { callee := .value (.func f), args := args, argTypes := ats }, ty, pos, af, none⟩ : Oper)).runT P w₁ #[] = (.ok (.enter f vs.toArray) w₁, #[]) := by
      unfold execOp
      simp only [resolve, ev, Deferred.ofValue]
      show (Sem.bind _ _).runT P w₁ #[] = _
      rw [Sem.runT_bind']
      simp only [pure, Sem.runT, invoke]
      have e : (#[] ++ Array.map (ev (den l t)) args ++ #[] : Array Value) = vs.toArray := by
        have := evLs_eq hx
        rw [← this]; apply Array.ext'; simp
      rw [e]
      exact run_callFunc hr.1 _ w₁ #[]
    unfold stepG.apply
    have hk : (b.kind == CallKind.early) = false := by simpa using h2.1
    simp [hrun, -Sem.runT_eq, G, Frame.st, hk, GStep.after, seen_none]
  · refine hr.2 F _ cs w₁ O Stop (h4.rely hrel) fun m' v S' w' O' hR hh => ?_
    rw [finish_st ho]
    exact h m' v S' hR F b _ k cs w' O' Stop h1 h2 (h3.seto (d := some d) hd v) hh h5
theorem callM_in {f : FuncId} {fr : Func} {c : Code} {args : List Value} {R : Mode → Value → Ents → Prop} (hf : P.funcs[f]? = some fr) (hname : (fr.name == "runtime.NumGoroutine") = false) (hb : fr.body = some c) (hargs : Nat.ble args.length fr.ntmps = true)
    (h : WM P E f fr.ntmps c (fun m' => retQ P m' fr.results (R m')) (den (dens args 0) fun _ => undef) [] S) : CallM P E f args.toArray S R := by
  refine ⟨⟨fr, hf, hname, by rw [hb]; rfl⟩, fun F c' cs w O Stop hh hc => ?_⟩
  rw [enter_st args.toArray hf hb]
  have hag : Agree fr.ntmps (args.toArray ++ Array.replicate (fr.ntmps - args.toArray.size) undef) (den (dens args 0) fun _ => undef) := by
    have := agree_enter (ntm := fr.ntmps) (args := args.toArray) (by simpa using Nat.le_of_ble_eq_true hargs)
    refine ⟨this.size, fun i => ?_⟩
    rw [this.get, den_dens]
    simp [enterT, Array.getD, List.getD_eq_getElem?_getD]
    split <;> simp_all
  refine h F (base f) _ [] (c' :: cs) w O Stop rfl ⟨by simp [base], fun _ => rfl⟩ hag hh fun m' e t' ds' S' arr' w' O' q ha hh' => ?_
  cases e with
  | normal =>
    obtain ⟨rfl, hs⟩ := q
    refine RunE.silent (g' := G { (base f).st arr' [] [] with mode := .returning } (c' :: cs)) rfl (fun _ => by simp [G, stepG, stepG.exec, Frame.st, base, default, instInhabitedFrame.default]) fun w₁ hr => RunE.returns hf rfl rfl ha hs (hh'.rely hr) (hc m')
  | ret =>
    obtain ⟨rfl, hs⟩ := q
    intro k'
    refine RunE.silent (g' := G { (base f).st arr' [] (.code .ret :: k') with mode := .returning } (c' :: cs)) rfl (fun _ => by simp [G, stepG, stepG.exec, Frame.st, base, default, instInhabitedFrame.default]) fun w₁ hr => RunE.returns hf rfl rfl ha hs (hh'.rely hr) (hc m')
  | exit id => exact q.elim
  | goto l => exact q.elim
  | panic c => exact q.elim
  | outgrown => exact q.elim
theorem CallM.callW {f : FuncId} {args : Array Value} {R : Value → Ents → Prop} (h : CallM P E f args S fun m' v S' => m' = E.m ∧ R v S') : CallW P E f args S R :=
  ⟨h.1, fun F c cs w O Stop hh hc => h.2 F c cs w O Stop hh fun m' v S' w' O' hR hh' => by obtain ⟨rfl, hR⟩ := hR; exact hc v S' w' O' hR hh'⟩
end
end Go.Proofs.YtpnnmklacialgaaGreat
