/- Even, Shown, Flow, Conflict: what the specification answers.
   gas and the specification agree on conflicts.
   Flow, Used, Lost: what gas answers.
   The price in force.
   The bills of a period.
   What a main owes for a period.
   Periods and nights of entries (printed by genc36.py).
   Nights of entries (printed by genc37.py).
   More rules: conversions and shifts of numbers, a byte of a text, room made by append, slices of slices.
   Sorting a list of numbers: what is short is sorted by insertion. -/
import Derived.Test.YtpnnmklacialgaaGreatP06
set_option linter.unusedVariables false
set_option linter.unusedSimpArgs false
namespace Go.Proofs.YtpnnmklacialgaaGreat
open Go.Conc
attribute [local irreducible] WP OpF OpX CallW SemH retQ AnyF RoundW
theorem asked_ok {n : NetG} {main p k : Int} (h : askedE n main p k = 0) : Valid n := valid_of (Classical.byContradiction fun hc => by
  unfold askedE at h
  rw [if_neg hc] at h
  exact absurd h (by decide))
def shownE (n : NetG) (main p k : Int) : Int := if askedE n main p k = 0 then (if evenN n tt p k = true then 0 else 75) else askedE n main p k
def oneI (main : Int) : Int := if main = 0 then -1 else main
def flowR (n : NetG) (main p k : Int) : RangeG := if shownE n (oneI main) p k = 0 then partOf (sprF n tt p k n.mains.length) (idx n main) else zR
theorem asked_main {n : NetG} {main p k : Int} (h : askedE n (oneI main) p k = 0) : 0 ≤ placeF n main := by
  have hV := asked_ok h
  have h1 : ¬ (oneI main ≠ 0 ∧ placeF n (oneI main) < 0) := fun hc => by
    unfold askedE at h
    by_cases h2 : validB n = true
    · rw [if_pos h2, if_pos hc] at h; exact absurd h (by decide)
    · rw [if_neg h2] at h; exact absurd h (by decide)
  have h2 : oneI main ≠ 0 := by unfold oneI; split <;> omega
  have h3 : 0 ≤ placeF n (oneI main) := by
    rcases Int.lt_or_le (placeF n (oneI main)) 0 with hl | hl
    · exact absurd ⟨h2, hl⟩ h1
    · exact hl
  by_cases hm : main = 0
  · exfalso
    obtain ⟨_, hq, hid⟩ := idx_spec h3
    have := (hV.mains _ (List.getElem_mem hq)).1
    simp only [mainOk, Bool.and_eq_true, within_iff] at this
    have h4 : oneI main = -1 := if_pos hm
    have h5 := hid.trans h4
    omega
  · unfold oneI at h3
    rwa [if_neg hm] at h3
end Go.Proofs.YtpnnmklacialgaaGreat
namespace Go.Proofs.YtpnnmklacialgaaGreat
open Go.Conc
def rF (n : NetG) (by' : ReadG → Bool) (p k : Int) : List ReadG := (n.readings.filter (countsR p k)).filter by'
def stepR (n : NetG) (i : Nat) (acc : RangeG) (r : ReadG) : RangeG := if r.main = idOf n.mains i then meetR acc r.volume else acc
theorem foldR_eq {n : NetG} {by' : ReadG → Bool} {i : Nat} : ∀ {l : List ReadG} {x : RangeG}, l.foldl (fun acc r => if r.main = idOf n.mains i ∧ by' r = true then meetR acc r.volume else acc) x = (l.filter by').foldl (stepR n i) x
  | [], x => rfl
  | r :: l, x => by
    simp only [List.foldl_cons]
    rw [foldR_eq (l := l)]
    by_cases hb : by' r = true
    · rw [List.filter_cons, if_pos hb, List.foldl_cons]
      congr 1
      unfold stepR
      by_cases hm : r.main = idOf n.mains i
      · rw [if_pos ⟨hm, hb⟩, if_pos hm]
      · rw [if_neg (fun hc => hm hc.1), if_neg hm]
    · rw [List.filter_cons, if_neg hb, if_neg (fun hc => hb hc.2)]
theorem readN_eq {n : NetG} {by' : ReadG → Bool} {p k : Int} {i : Nat} {x : RangeG} : readN n by' p k i x = (rF n by' p k).foldl (stepR n i) x := by
  unfold readN readT rF
  rw [List.take_length, foldR_eq]
section
variable {n m : NetG} {b1 b2 : ReadG → Bool} {p k : Int} (hm : n.mains = m.mains) (hu : n.uses = m.uses) (hr : rF n b1 p k = rF m b2 p k)
include hm hu
include hr
end
theorem asked_look {n : NetG} {p k : Int} : askedE n 0 p k = lookE n p k := by
  unfold askedE lookE
  rw [if_neg (show ¬ ((0 : Int) ≠ 0 ∧ placeF n 0 < 0) from fun h => h.1 rfl)]
def Wid (x y : RangeG) : Prop := y.lo ≤ x.lo ∧ x.hi ≤ y.hi
theorem Wid.refl {x : RangeG} : Wid x x := ⟨Int.le_refl _, Int.le_refl _⟩
section
variable {n m : NetG} {b1 b2 : ReadG → Bool} {p k : Int} (hm : n.mains = m.mains) (hu : n.uses = m.uses) (hs : List.Sublist (rF n b1 p k) (rF m b2 p k)) (h12 : n.mains.length ≤ 12)
include hm hu hs h12
end
end Go.Proofs.YtpnnmklacialgaaGreat
namespace Go.Proofs.YtpnnmklacialgaaGreat
open Go.Conc
attribute [local irreducible] WP OpF OpX CallW SemH retQ AnyF RoundW
def flowG (n : NetG) (main p k : Int) : RangeG := if flowE n main p k = 0 then thrA n main p k else zR
def usedG (n : NetG) (main p k : Int) : RangeG := if flowE n main p k = 0 then burntR n.mains (usedN n p k) (upsN n (fun _ => true) p k) (thrN n (fun _ => true) p k) (idx n main) else zR
section
variable {n : NetG} (h : Valid n) {by' : ReadG → Bool} {p k : Int}
include h
theorem used_bd15 : ∀ x ∈ usedN n p k, Bd 1000000000000000 x := fun x hx => (usedT_nn h x hx).bd.mono (by omega)
theorem ups_bd15 : ∀ x ∈ upsN n by' p k, Bd 1000000000000000 x := fun x hx => ((upsD_bd h h.m12).1 x hx).bd.mono (by omega)
theorem leak_bd15 : ∀ m ∈ n.mains, Bd 1000000000000000 m.leak := fun m hm => by
  obtain ⟨q, hq, rfl⟩ := List.getElem_of_mem hm
  have := leak_nn h (i := q)
  unfold leakOf at this
  rw [List.getElem?_eq_getElem hq] at this
  exact this.bd.mono (by omega)
theorem thr_bd15 : ∀ x ∈ thrN n by' p k, Bd 1000000000000000 x := fun x hx => (thrN_bd h x hx).mono (by omega)
end
theorem c37 (E : Env) (S : Ents) (n : NetG) (a b c d e : Value) (main p k : Int) (hn : NetV S a b c d e n) :
    CallW Tryz.prog E 37 #[.agg #[a, b, c, d, e], iv main, iv p, iv k] S fun r S' => r = .tuple #[.agg (rangeC (flowG n main p k)), iv (flowE n main p k)] ∧ S' = S := by
  refine call_in (args := [.agg #[a, b, c, d, e], iv main, iv p, iv k]) Tryz.func37 (by decide) rfl rfl ?_
  repeat' first|(refine gX ?_;first|refine o_v rfl rfl ?_|(refine gL ?_;first|refine o_load rfl rfl rfl rfl ?_|refine o_loadR rfl rfl rfl (by omega) rfl rfl ?_|refine o_loadW rfl rfl rfl rfl ?_|refine o_loadK rfl rfl rfl ?_)|(refine gF ?_;first|refine o_fieldI rfl rfl rfl rfl ?_|refine o_field rfl rfl rfl rfl ?_)|(refine gC ?_;first|(refine o_callZ rfl rfl rfl (c81 _ _ n _ _ _ _ _ _ _ _ (hn.sub Sb.h)) ?_;rintro r _ (⟨hf, rfl, Δ, rfl⟩ | ⟨hf, bt, c', rfl, rfl, hT⟩)<;>(try have hok := flow_ok hf;have hV := hok.1;have hm12 := hV.m12;have hth := thrN_len (n := n) (by' := fun _ => true) (p := p) (k := k);have i2 : RowC c' (0 + 53) RangeG encRange (thrN n (fun _ => true) p k) := ⟨hT.through⟩;obtain ⟨hpe, hil, _⟩ := idx_spec hok.2.1)<;>refine ⟨inferInstance, ?_⟩))|(refine gI ?_;first|refine o_indexAZ (idx n main) rfl rfl rfl rfl rfl hpe (by omega) ?_|refine o_indexS rfl rfl rfl rfl rfl rfl (by omega) ?_|refine o_index rfl rfl rfl rfl rfl (by omega) ?_)|(refine gS ?_;first|refine o_store rfl rfl rfl rfl rfl rfl ?_|refine o_storeW rfl rfl rfl rfl rfl rfl ?_)|(refine o_allocZ rfl rfl ?_;intro _)|(refine o_box rfl rfl rfl ?_;intro _)|refine o_build rfl rfl rfl rfl rfl ?_)|refine o_head0 rfl ?_|refine o_end ?_|refine o_head1 rfl ?_|(refine w_condD rfl ?_ ?_<;>intro h<;>try first|(exact absurd hf h)|(exact absurd rfl h))|refine wp_seq ?_|refine o_region ?_|refine wp_skip ?_|(refine w_condD rfl ?_ ?_<;>intro h)|(refine w_cond rfl ?_ ?_<;>intro h<;>try exact Bool.noConfusion h)|refine w_ret (S) (vs:=[_,_]) rfl (Res.cell rfl rfl (Res.tmp rfl Res.nil)) ?_
  · exact ⟨by unfold flowG; rw [if_neg hf]; rfl, rfl⟩
  · exact ⟨by unfold flowG thrA; rw [if_pos hf, hf, partOf_get (by omega)]; rfl, rfl⟩
theorem c39 (E : Env) (S : Ents) (n : NetG) (a b c d e : Value) (main p k : Int) (hn : NetV S a b c d e n) :
    CallW Tryz.prog E 39 #[.agg #[a, b, c, d, e], iv main, iv p, iv k] S fun r S' => r = .tuple #[.agg (rangeC (usedG n main p k)), iv (flowE n main p k)] ∧ S' = S := by
  have hsm := hn.mains
  refine call_in (args := [.agg #[a, b, c, d, e], iv main, iv p, iv k]) Tryz.func39 (by decide) rfl rfl ?_
  repeat' first|(refine gX ?_;first|refine o_v rfl rfl ?_|(refine gL ?_;first|refine o_load rfl rfl rfl rfl ?_|refine o_loadR rfl rfl rfl (by omega) rfl rfl ?_|refine o_loadW rfl rfl rfl rfl ?_|refine o_loadK rfl rfl rfl ?_)|(refine gC ?_;first|(refine o_callZ rfl rfl rfl (c81 _ _ n _ _ _ _ _ _ _ _ (hn.sub Sb.h)) ?_;rintro r _ (⟨hf, rfl, Δ, rfl⟩ | ⟨hf, bt, c', e, rfl, hT⟩)<;>(try have hok := flow_ok hf;have hV := hok.1;have hm12 := hV.m12;have hidx := idx_spec hok.2.1;obtain ⟨hpe, hil, _⟩ := hidx;rw [hpe] at e;subst e)<;>refine ⟨inferInstance, ?_⟩)|refine o_callF rfl rfl rfl (c100 _ _ bt true c' (0, 0) n.mains _ _ _ _ _ (idx n main) InS.h hT (hsm.sub Sb.h) hm12 hil (used_bd15 hV) (ups_bd15 hV) (leak_bd15 hV) (thr_bd15 hV)) ?_)|(refine gS ?_;first|refine o_store rfl rfl rfl rfl rfl rfl ?_|refine o_storeW rfl rfl rfl rfl rfl rfl ?_)|(refine o_allocZ rfl rfl ?_;intro _)|(refine o_box rfl rfl rfl ?_;intro _)|refine o_build rfl rfl rfl rfl rfl ?_)|refine o_head0 rfl ?_|refine o_end ?_|refine o_head1 rfl ?_|(refine w_condD rfl ?_ ?_<;>intro h<;>try first|(exact absurd hf h)|(exact absurd rfl h))|refine wp_seq ?_|refine o_region ?_|refine wp_skip ?_|(refine w_condD rfl ?_ ?_<;>intro h)|(refine w_cond rfl ?_ ?_<;>intro h<;>try exact Bool.noConfusion h)|refine w_ret (S) (vs:=[_,_]) rfl (Res.cell rfl rfl (Res.tmp rfl Res.nil)) ?_
  · exact ⟨by unfold usedG; rw [if_neg hf]; rfl, rfl⟩
  · exact ⟨by unfold usedG; rw [if_pos hf, hf]; rfl, rfl⟩
def lostT (n : NetG) (p k : Int) : Nat → RangeG
  | 0 => zR
  | j + 1 => sumR [lostT n p k j, leakedR n.mains (usedN n p k) (upsN n (fun _ => true) p k) (thrN n (fun _ => true) p k) j]
def lostE (n : NetG) (p k : Int) : Int := if lookE n p k = 0 then (if evenN n (fun _ => true) p k = true then 0 else 75) else lookE n p k
def lostG (n : NetG) (p k : Int) : RangeG := if lostE n p k = 0 then lostT n p k n.mains.length else zR
section
variable {n : NetG} (h : Valid n) {by' : ReadG → Bool} {p k : Int}
include h
theorem rest_bdG {q : Nat} {but : Int} : Bd 1000000000000 (restR n.mains (usedN n p k) (upsN n by' p k) q but) := by
  have h12 := h.m12
  have h1 := upsD_bd h (by' := by') (p := p) (k := k) (d := n.mains.length) h12
  have h2 := restR_nn h (p := p) (k := k) (P := upsN n by' p k) upsD_len (upsD_nn h).1 (i := q) (but := but)
  have h3 : (sumR (upsN n by' p k)).lo ≤ 900000000000 := h1.2.1
  have h4 : (sumR (upsN n by' p k)).hi ≤ 900000000000 := h1.2.2
  unfold Bd
  omega
theorem leaked_bd {q : Nat} : Bd 14000000000000 (leakedR n.mains (usedN n p k) (upsN n by' p k) (thrN n by' p k) q) := by
  have h1 := (leak_nn h (i := q)).bd
  have h2 := bd_part (i := q) (by omega) (thrN_bd h (by' := by') (p := p) (k := k))
  have h3 := rest_bdG h (by' := by') (p := p) (k := k) (q := q) (but := -2)
  unfold leakedR meetR lessR
  unfold Bd at *
  simp only
  omega
theorem lost_bd : ∀ {j : Nat}, Bd (14000000000000 * j) (lostT n p k j)
  | 0 => by unfold Bd lostT zR; simp
  | j + 1 => by
    have h1 := lost_bd (j := j)
    have h2 := leaked_bd h (by' := fun _ => true) (p := p) (k := k) (q := j)
    unfold Bd at *
    unfold lostT
    simp only [sumR]
    omega
end
theorem c43 (E : Env) (S : Ents) (n : NetG) (a b c d e : Value) (p k : Int) (hn : NetV S a b c d e n) :
    CallW Tryz.prog E 43 #[.agg #[a, b, c, d, e], iv p, iv k] S fun r S' => r = .tuple #[.agg (rangeC (lostG n p k)), iv (lostE n p k)] ∧ S' = S := by
  have hsm := hn.mains
  obtain ⟨qm, cm, rfl, _, hrm⟩ := hn.mains
  refine call_in (args := [.agg #[.slice qm n.mains.length cm, b, c, d, e], iv p, iv k]) Tryz.func43 (by decide) rfl rfl ?_
  by_cases hl : lookE n p k = 0
  · have hV := look_valid hl
    have hm12 := hV.m12
    repeat' first|(refine gX ?_;first|refine o_v rfl rfl ?_|(refine gL ?_;first|refine o_load rfl rfl rfl rfl ?_|refine o_loadR rfl rfl rfl (by omega) rfl rfl ?_|refine o_loadW rfl rfl rfl rfl ?_|refine o_loadK rfl rfl rfl ?_)|(refine gF ?_;first|refine o_fieldI rfl rfl rfl rfl ?_|refine o_field rfl rfl rfl rfl ?_)|(refine gB ?_;first|refine o_add rfl rfl rfl rfl (by omega) ?_)|(refine gC ?_;first|refine o_callF rfl rfl rfl (c72 _ _ n _ _ _ _ _ _ _ (hn.sub Sb.h)) ?_|(refine o_callZ rfl rfl rfl (c82 _ _ n _ _ _ _ _ p k 96 #[] #[] (fun x => true) (hn.sub Sb.h) hV (fun E S' x hs => c96 E S' x)) ?_;rintro r _ ⟨bt, c', rfl, rfl, hT⟩;have i3 : CellI c' (0 + 77) (.bool (evenN n (fun x => true) p k)) := ⟨hT.even⟩;refine ⟨inferInstance, ?_⟩))|(refine gS ?_;first|refine o_store rfl rfl rfl rfl rfl rfl ?_|refine o_storeW rfl rfl rfl rfl rfl rfl ?_)|(refine o_allocZ rfl rfl ?_;intro _)|(refine o_box rfl rfl rfl ?_;intro _)|refine o_build rfl rfl rfl rfl rfl ?_|(refine o_bslice rfl rfl rfl rfl rfl rfl rfl ?_;intro _))|refine o_head0 rfl ?_|refine o_end ?_|refine o_head1 rfl ?_|(refine w_condD rfl ?_ ?_<;>intro h<;>try (exact absurd hl h))|refine wp_seq ?_|refine o_region ?_|refine wp_block ?_|refine wp_skip ?_|refine wp_exit ?_|(refine w_condD rfl ?_ ?_<;>intro h)|(refine w_cond rfl ?_ ?_<;>intro h<;>try exact Bool.noConfusion h)|refine w_ret (S) (vs:=[_,_]) rfl (Res.cell rfl rfl (Res.tmp rfl Res.nil)) ?_|(show WP _ _ _ _ (.region 11 _ true) _ _ _ _;refine o_drawn [Zt 0,Zf 1,Zf 2,Zf 3,Zt 4,Zt 5,Zt 6] mixed (by kernel_rfl) ?_)
    · have ee : lostE n p k = 75 := by unfold lostE; rw [if_pos hl, if_neg (by simpa using h)]
      exact ⟨by unfold lostG; rw [if_neg (by rw [ee]; decide), ee]; rfl, rfl⟩
    have hev : evenN n (fun _ => true) p k = true := by simpa using h
    have ee : lostE n p k = 0 := by unfold lostE; rw [if_pos hl, if_pos hev]
    rename_i b3 b6 _ b10
    refine wp_loop (fun i t ds S' => ∃ (j : Nat) (t0 : Tm), i = n.mains.length - j ∧ j ≤ n.mains.length ∧ [] = ds ∧ ⟨b10, true, .cells #[.int .i64 (lostT n p k j).lo, .int .i64 (lostT n p k j).hi] 70 (0, 0)⟩ :: ⟨bt, true, .cells c' 140 (0, 0)⟩ :: ⟨b6, true, .cells #[.int .i64 0, .int .i64 0] 70 (0, 0)⟩ :: ⟨b3, true, .cells #[.slice qm n.mains.length cm, b, c, d, e] 28 (0, 0)⟩ :: S = S' ∧
        t = den [(33, iv j), (32, iv n.mains.length), (9, .pointer (some ⟨bt, 0, none⟩)), (10, .pointer (some ⟨b10, 0, none⟩)), (6, .pointer (some ⟨b6, 0, none⟩)), (3, .pointer (some ⟨b3, 0, none⟩))] t0)
      n.mains.length ⟨0, _, rfl, Nat.zero_le _, rfl, rfl, keep ⟨rfl, rfl, rfl, rfl, rfl, rfl, trivial⟩⟩ ?_
    rintro i t ds S' ⟨j, t0, rfl, hj, rfl, rfl, rfl⟩
    have hlb := (lost_bd hV (p := p) (k := k) (j := j)).mono (M' := 1000000000000000) (by omega)
    repeat' first|(refine gX ?_;first|refine o_v rfl rfl ?_|(refine gL ?_;first|refine o_load rfl rfl rfl rfl ?_|refine o_loadR rfl rfl rfl (by omega) rfl rfl ?_|refine o_loadW rfl rfl rfl rfl ?_|refine o_loadK rfl rfl rfl ?_)|(refine gF ?_;first|refine o_fieldI rfl rfl rfl rfl ?_|refine o_field rfl rfl rfl rfl ?_)|(refine gB ?_;first|refine o_add rfl rfl rfl rfl (by omega) ?_)|(refine gC ?_;first|refine o_callF rfl rfl rfl (c101 _ _ bt true c' (0, 0) n.mains _ _ _ _ _ j InS.h hT (hsm.sub Sb.h) hm12 (by omega) (used_bd15 hV) (ups_bd15 hV) (leak_bd15 hV) (thr_bd15 hV)) ?_|refine o_callF rfl rfl rfl (c102 _ _ [lostT n p k j, leakedR n.mains (usedN n p k) (upsN n (fun _ => true) p k) (thrN n (fun _ => true) p k) j] _ (slv_one (xs := [_, _]) (.head _) rfl (Nat.le_refl _)) (by simp) (fun x hx => by rcases List.mem_cons.1 hx with rfl | hx; exact hlb; rw [List.mem_singleton.1 hx]; exact (leaked_bd hV).mono (by omega))) ?_)|(refine gS ?_;first|refine o_store rfl rfl rfl rfl rfl rfl ?_|refine o_storeW rfl rfl rfl rfl rfl rfl ?_)|(refine o_allocZ rfl rfl ?_;intro _)|(refine o_box rfl rfl rfl ?_;intro _)|refine o_build rfl rfl rfl rfl rfl ?_|(refine o_bslice rfl rfl rfl rfl rfl rfl rfl ?_;intro _))|refine o_head0 rfl ?_|refine o_end ?_|refine o_head1 rfl ?_|refine wp_seq ?_|refine o_region ?_|refine wp_block ?_|refine wp_skip ?_|refine wp_exit ?_|(refine w_condD rfl ?_ ?_<;>intro h)|(refine w_cond rfl ?_ ?_<;>intro h<;>try exact Bool.noConfusion h)|refine w_ret (S) (vs:=[_,_]) rfl (Res.cell rfl rfl (Res.tmp rfl Res.nil)) ?_|(show WP _ _ _ _ (.region 11 _ true) _ _ _ _;refine o_drawn [Zt 0,Zf 1,Zf 2,Zf 3,Zt 4,Zt 5,Zt 6] mixed (by kernel_rfl) ?_)
    · exact ⟨n.mains.length - (j + 1), by omega, _, .cons _ (List.Sublist.refl _), j + 1, _, rfl, by omega, rfl, rfl, keep ⟨rfl, rfl, rfl, rfl, rfl, rfl, trivial⟩⟩
    · have hjm : j = n.mains.length := by omega
      subst hjm
      exact ⟨by unfold lostG; rw [if_pos ee, ee]; rfl, rfl⟩
  · have ee : lostE n p k = lookE n p k := if_neg hl
    repeat' first|(refine gX ?_;first|refine o_v rfl rfl ?_|(refine gL ?_;first|refine o_load rfl rfl rfl rfl ?_|refine o_loadR rfl rfl rfl (by omega) rfl rfl ?_|refine o_loadW rfl rfl rfl rfl ?_|refine o_loadK rfl rfl rfl ?_)|(refine gF ?_;first|refine o_fieldI rfl rfl rfl rfl ?_|refine o_field rfl rfl rfl rfl ?_)|(refine gB ?_;first|refine o_add rfl rfl rfl rfl (by omega) ?_)|(refine gC ?_;first|refine o_callF rfl rfl rfl (c72 _ _ n _ _ _ _ _ _ _ (hn.sub Sb.h)) ?_)|(refine gS ?_;first|refine o_store rfl rfl rfl rfl rfl rfl ?_|refine o_storeW rfl rfl rfl rfl rfl rfl ?_)|(refine o_allocZ rfl rfl ?_;intro _)|(refine o_box rfl rfl rfl ?_;intro _)|refine o_build rfl rfl rfl rfl rfl ?_|(refine o_bslice rfl rfl rfl rfl rfl rfl rfl ?_;intro _))|refine o_head0 rfl ?_|refine o_end ?_|refine o_head1 rfl ?_|(refine w_condD rfl ?_ ?_<;>intro h<;>try (exact absurd hl h))|refine wp_seq ?_|refine o_region ?_|refine wp_block ?_|refine wp_skip ?_|refine wp_exit ?_|(refine w_condD rfl ?_ ?_<;>intro h)|(refine w_cond rfl ?_ ?_<;>intro h<;>try exact Bool.noConfusion h)|refine w_ret (S) (vs:=[_,_]) rfl (Res.cell rfl rfl (Res.tmp rfl Res.nil)) ?_|(show WP _ _ _ _ (.region 11 _ true) _ _ _ _;refine o_drawn [Zt 0,Zf 1,Zf 2,Zf 3,Zt 4,Zt 5,Zt 6] mixed (by kernel_rfl) ?_)
    exact ⟨by unfold lostG; rw [if_neg (by rw [ee]; exact hl), ee]; rfl, rfl⟩
end Go.Proofs.YtpnnmklacialgaaGreat
namespace Go.Proofs.YtpnnmklacialgaaGreat
open Go.Conc
attribute [local irreducible] WP OpF OpX CallW SemH retQ AnyF RoundW
def priceT (l : List PriceG) (p : Int) : Nat → PriceG
  | 0 => ⟨0, 0, 0⟩
  | j + 1 => match l[j]? with
    | some x => if x.since ≤ p then x else priceT l p j
    | none => priceT l p j
theorem priceT_succ {l : List PriceG} {p : Int} {j : Nat} (h : j < l.length) : priceT l p (j + 1) = if l[j].since ≤ p then l[j] else priceT l p j := by
  show (match l[j]? with | some x => if x.since ≤ p then x else priceT l p j | none => priceT l p j) = _
  rw [List.getElem?_eq_getElem h]
def priceN (n : NetG) (p : Int) : PriceG := priceT n.prices p n.prices.length
theorem c153 (E : Env) (S : Ents) (n : NetG) (a b c d e : Value) (p : Int) (hn : NetV S a b c d e n) :
    CallW Tryz.prog E 153 #[.agg #[a, b, c, d, e], iv p] S fun r S' => r = .agg (priceC (priceN n p)) ∧ S' = S := by
  obtain ⟨qp, cp, rfl, _, hrp⟩ := hn.prices
  have i1 := SlI.mk hrp
  have hm := hn.prices_le
  refine call_in (args := [.agg #[a, b, c, d, .slice qp n.prices.length cp], iv p]) Tryz.func153 (by decide) rfl rfl ?_
  repeat' first|(refine gX ?_;first|refine o_v rfl rfl ?_|(refine gL ?_;first|refine o_load rfl rfl rfl rfl ?_|refine o_loadR rfl rfl rfl (by omega) rfl rfl ?_|refine o_loadW rfl rfl rfl rfl ?_|refine o_loadK rfl rfl rfl ?_)|(refine gF ?_;first|refine o_fieldI rfl rfl rfl rfl ?_|refine o_field rfl rfl rfl rfl ?_)|(refine gB ?_;first|refine o_add rfl rfl rfl rfl (by omega) ?_)|(refine gI ?_;first|refine o_indexS rfl rfl rfl rfl rfl rfl (by omega) ?_|refine o_index rfl rfl rfl rfl rfl (by omega) ?_)|(refine gS ?_;first|refine o_store rfl rfl rfl rfl rfl rfl ?_|refine o_storeW rfl rfl rfl rfl rfl rfl ?_)|(refine o_allocZ rfl rfl ?_;intro _)|(refine o_box rfl rfl rfl ?_;intro _))|refine o_head0 rfl ?_|refine o_end ?_|refine o_head1 rfl ?_|refine wp_seq ?_|refine o_region ?_|refine wp_block ?_|refine wp_skip ?_|refine wp_exit ?_|(refine w_condD rfl ?_ ?_<;>intro h)|(refine w_cond rfl ?_ ?_<;>intro h<;>try exact Bool.noConfusion h)|refine w_ret (S) (vs:=[_]) rfl (Res.cell rfl rfl Res.nil) ?_
  rename_i b2 b4 b5
  refine wp_loop (fun i t ds S' => ∃ (j : Nat) (t0 : Tm), i = n.prices.length - j ∧ j ≤ n.prices.length ∧ [] = ds ∧ ⟨b5, true, .cells #[.int .i64 (priceT n.prices p j).since, .int .i64 (priceT n.prices p j).feet, .int .i64 (priceT n.prices p j).fault] 104 (0, 0)⟩ :: ⟨b4, true, .cells #[.int .i64 0, .int .i64 0, .int .i64 0] 104 (0, 0)⟩ :: ⟨b2, true, .cells #[a, b, c, d, .slice qp n.prices.length cp] 28 (0, 0)⟩ :: S = S' ∧
      t = den [(11, iv j), (10, iv n.prices.length), (9, .slice qp n.prices.length cp), (5, .pointer (some ⟨b5, 0, none⟩)), (4, .pointer (some ⟨b4, 0, none⟩)), (1, iv p)] t0)
    n.prices.length ⟨0, _, rfl, Nat.zero_le _, rfl, rfl, keep ⟨rfl, rfl, rfl, rfl, rfl, rfl, trivial⟩⟩ ?_
  rintro i t ds S' ⟨j, t0, rfl, hj, rfl, rfl, rfl⟩
  by_cases hjl : j < n.prices.length
  · have hst := priceT_succ (p := p) hjl
    generalize priceT n.prices p j = x at hst ⊢
    repeat' first|(refine gX ?_;first|refine o_v rfl rfl ?_|(refine gL ?_;first|refine o_load rfl rfl rfl rfl ?_|refine o_loadR rfl rfl rfl (by omega) rfl rfl ?_|refine o_loadW rfl rfl rfl rfl ?_|refine o_loadK rfl rfl rfl ?_)|(refine gF ?_;first|refine o_fieldI rfl rfl rfl rfl ?_|refine o_field rfl rfl rfl rfl ?_)|(refine gB ?_;first|refine o_add rfl rfl rfl rfl (by omega) ?_)|(refine gI ?_;first|refine o_indexS rfl rfl rfl rfl rfl rfl (by omega) ?_|refine o_index rfl rfl rfl rfl rfl (by omega) ?_)|(refine gS ?_;first|refine o_store rfl rfl rfl rfl rfl rfl ?_|refine o_storeW rfl rfl rfl rfl rfl rfl ?_)|(refine o_allocZ rfl rfl ?_;intro _)|(refine o_box rfl rfl rfl ?_;intro _))|refine o_head0 rfl ?_|refine o_end ?_|refine o_head1 rfl ?_|(refine w_condD rfl ?_ ?_<;>intro h<;>try (exact absurd (by omega) h))|refine wp_seq ?_|refine o_region ?_|refine wp_block ?_|refine wp_skip ?_|refine wp_exit ?_|(refine w_condD rfl ?_ ?_<;>intro h)|(refine w_cond rfl ?_ ?_<;>intro h<;>try exact Bool.noConfusion h)|refine w_ret (S) (vs:=[_]) rfl (Res.cell rfl rfl Res.nil) ?_
    all_goals refine ⟨n.prices.length - (j + 1), by omega, _, .cons _ (List.Sublist.refl _), j + 1, _, rfl, by omega, rfl, ?_, keep ⟨rfl, rfl, rfl, rfl, rfl, rfl, trivial⟩⟩
    · rw [hst, if_pos h]
    · rw [hst, if_neg h]
  · have hjm : j = n.prices.length := by omega
    subst hjm
    repeat' first|(refine gX ?_;first|refine o_v rfl rfl ?_|(refine gL ?_;first|refine o_load rfl rfl rfl rfl ?_|refine o_loadR rfl rfl rfl (by omega) rfl rfl ?_|refine o_loadW rfl rfl rfl rfl ?_|refine o_loadK rfl rfl rfl ?_)|(refine gF ?_;first|refine o_fieldI rfl rfl rfl rfl ?_|refine o_field rfl rfl rfl rfl ?_)|(refine gB ?_;first|refine o_add rfl rfl rfl rfl (by omega) ?_)|(refine gI ?_;first|refine o_indexS rfl rfl rfl rfl rfl rfl (by omega) ?_|refine o_index rfl rfl rfl rfl rfl (by omega) ?_)|(refine gS ?_;first|refine o_store rfl rfl rfl rfl rfl rfl ?_|refine o_storeW rfl rfl rfl rfl rfl rfl ?_)|(refine o_allocZ rfl rfl ?_;intro _)|(refine o_box rfl rfl rfl ?_;intro _))|refine o_head0 rfl ?_|refine o_end ?_|refine o_head1 rfl ?_|(refine w_condD rfl ?_ ?_<;>intro h<;>try (exact absurd h (by omega)))|refine wp_seq ?_|refine o_region ?_|refine wp_block ?_|refine wp_skip ?_|refine wp_exit ?_|(refine w_condD rfl ?_ ?_<;>intro h)|(refine w_cond rfl ?_ ?_<;>intro h<;>try exact Bool.noConfusion h)|refine w_ret (S) (vs:=[_]) rfl (Res.cell rfl rfl Res.nil) ?_
    exact ⟨rfl, rfl⟩
end Go.Proofs.YtpnnmklacialgaaGreat
namespace Go.Proofs.YtpnnmklacialgaaGreat
open Go.Conc
attribute [local irreducible] WP OpF OpX CallW SemH retQ AnyF RoundW
def burnI (n : NetG) (p k : Int) (q : Nat) : RangeG := burntR n.mains (usedN n p k) (upsN n (fun _ => true) p k) (thrN n (fun _ => true) p k) q
def gasI (n : NetG) (p k : Int) (q : Nat) : Int := if evenN n (fun _ => true) p k = true then ((burnI n p k q).lo * (priceN n p).feet) / 100 else 0
def penT (n : NetG) (p k : Int) : Nat → Nat → Int
  | 0, _ => 0
  | j + 1, q => penT n p k j q + (match n.faults[j]? with | some x => if countsF p k x = true ∧ idx n x.main = q then x.many * (priceN n p).fault else 0 | none => 0)
def bill1 (n : NetG) (p k : Int) (j : Nat) : List BillG := (List.range n.mains.length).map fun q => ⟨if q < j then gasI n p k q else 0, 0⟩
def bill2 (n : NetG) (p k : Int) (j : Nat) : List BillG := (List.range n.mains.length).map fun q => ⟨gasI n p k q, penT n p k j q⟩
def billsN (n : NetG) (p k : Int) : List BillG := bill2 n p k n.faults.length
theorem price_ok {n : NetG} (h : Valid n) {p : Int} : 0 ≤ (priceN n p).feet ∧ (priceN n p).feet ≤ 10000 ∧ 0 ≤ (priceN n p).fault ∧ (priceN n p).fault ≤ 10000 := by
  have hp : ∀ j, 0 ≤ (priceT n.prices p j).feet ∧ (priceT n.prices p j).feet ≤ 10000 ∧ 0 ≤ (priceT n.prices p j).fault ∧ (priceT n.prices p j).fault ≤ 10000 := fun j => by
    induction j with
    | zero => simp [priceT]
    | succ j ih =>
      by_cases hj : j < n.prices.length
      · rw [priceT_succ hj]
        split
        · have := h.prices _ (List.getElem_mem hj)
          simp only [priceOk, Bool.and_eq_true, within_iff] at this
          omega
        · exact ih
      · have : n.prices[j]? = none := List.getElem?_eq_none (by omega)
        have e : priceT n.prices p (j + 1) = priceT n.prices p j := by
          show (match n.prices[j]? with | some x => if x.since ≤ p then x else priceT n.prices p j | none => priceT n.prices p j) = _
          rw [this]
        rw [e]
        exact ih
  exact hp _
theorem burn_bd {n : NetG} (h : Valid n) {p k : Int} {q : Nat} : Bd 15000000000000 (burnI n p k q) := by
  have h1 : Bd 1000000000000 (partOf (usedN n p k) q) := bd_part (by omega) fun x hx => (usedT_nn h x hx).bd.mono (by omega)
  have h2 := bd_part (i := q) (by omega) (thrN_bd h (by' := fun _ => true) (p := p) (k := k))
  have h3 := rest_bdG h (by' := fun _ => true) (p := p) (k := k) (q := q) (but := -1)
  unfold burnI burntR meetR lessR
  unfold Bd at *
  simp only
  omega
theorem gas_bd {n : NetG} (h : Valid n) {p k : Int} {q : Nat} : 0 ≤ (burnI n p k q).lo * (priceN n p).feet ∧ (burnI n p k q).lo * (priceN n p).feet ≤ 150000000000000000 := by
  have h1 := burn_bd h (p := p) (k := k) (q := q)
  have h2 := price_ok h (p := p)
  have h3 := nn_part (i := q) (by omega) (fun x hx => usedT_nn h (p := p) (k := k) (j := n.uses.length) x hx)
  have h4 : 0 ≤ (burnI n p k q).lo := by
    unfold burnI burntR meetR
    unfold Nn at h3
    simp only
    change 0 ≤ (partOf (usedN n p k) q).lo ∧ _ at h3
    omega
  refine ⟨Int.mul_nonneg h4 h2.1, ?_⟩
  have h5 : (burnI n p k q).lo * (priceN n p).feet ≤ 15000000000000 * (priceN n p).feet := Int.mul_le_mul_of_nonneg_right h1.2.1 h2.1
  omega
theorem bill_map {f : Nat → BillG} {m q : Nat} (hq : q < ((List.range m).map f).length) : ((List.range m).map f)[q] = f q := by simp
theorem bill1_len {n : NetG} {p k : Int} {j : Nat} : (bill1 n p k j).length = n.mains.length := by simp [bill1]
theorem bill1_zero {n : NetG} {p k : Int} : bill1 n p k 0 = List.replicate n.mains.length ⟨0, 0⟩ := by
  unfold bill1
  apply List.ext_getElem (by simp)
  intro i h1 h2
  simp
theorem bill1_at {n : NetG} {p k : Int} {j q : Nat} (h : q < (bill1 n p k j).length) : (bill1 n p k j)[q] = ⟨if q < j then gasI n p k q else 0, 0⟩ := bill_map h
theorem bill1_succ {n : NetG} {p k : Int} {j : Nat} : (bill1 n p k j).set j ⟨gasI n p k j, 0⟩ = bill1 n p k (j + 1) := by
  apply List.ext_getElem (by rw [List.length_set, bill1_len, bill1_len])
  intro q h1 h2
  rw [List.getElem_set]
  split
  · rename_i e; subst e; rw [bill1_at, if_pos (by omega)]
  · rename_i e
    rw [bill1_at, bill1_at]
    by_cases hl : q < j
    · rw [if_pos hl, if_pos (by omega)]
    · rw [if_neg hl, if_neg (by omega)]
theorem bill1_none {n : NetG} {p k : Int} {j : Nat} (h : gasI n p k j = 0) : bill1 n p k j = bill1 n p k (j + 1) := by
  apply List.ext_getElem (by rw [bill1_len, bill1_len])
  intro q h1 h2
  rw [bill1_at, bill1_at]
  by_cases hl : q < j
  · rw [if_pos hl, if_pos (by omega)]
  · by_cases e : q = j
    · subst e; rw [if_neg (by omega), if_pos (by omega), h]
    · rw [if_neg hl, if_neg (by omega)]
theorem bill2_len {n : NetG} {p k : Int} {j : Nat} : (bill2 n p k j).length = n.mains.length := by simp [bill2]
theorem bill2_at {n : NetG} {p k : Int} {j q : Nat} (h : q < (bill2 n p k j).length) : (bill2 n p k j)[q] = ⟨gasI n p k q, penT n p k j q⟩ := bill_map h
theorem penT_succ {n : NetG} {p k : Int} {j q : Nat} (h : j < n.faults.length) : penT n p k (j + 1) q = penT n p k j q + if countsF p k n.faults[j] = true ∧ idx n n.faults[j].main = q then n.faults[j].many * (priceN n p).fault else 0 := by
  show penT n p k j q + (match n.faults[j]? with | some x => if countsF p k x = true ∧ idx n x.main = q then x.many * (priceN n p).fault else 0 | none => 0) = _
  rw [List.getElem?_eq_getElem h]
theorem bill2_skip {n : NetG} {p k : Int} {j : Nat} (h : j < n.faults.length) (hc : countsF p k n.faults[j] = false) : bill2 n p k (j + 1) = bill2 n p k j := by
  unfold bill2
  refine List.map_congr_left fun q _ => ?_
  rw [penT_succ h, if_neg (by rw [hc]; exact fun hx => Bool.noConfusion hx.1), Int.add_zero]
theorem bill2_succ {n : NetG} {p k : Int} {j : Nat} (h : j < n.faults.length) (hc : countsF p k n.faults[j] = true) : (bill2 n p k j).set (idx n n.faults[j].main) ⟨gasI n p k (idx n n.faults[j].main), penT n p k j (idx n n.faults[j].main) + n.faults[j].many * (priceN n p).fault⟩ = bill2 n p k (j + 1) := by
  apply List.ext_getElem (by rw [List.length_set, bill2_len, bill2_len])
  intro q h1 h2
  rw [List.getElem_set, bill2_at h2, penT_succ h]
  split
  · rename_i e; subst e; rw [if_pos ⟨hc, rfl⟩]
  · rename_i e
    rw [bill2_at, if_neg (fun hx => e hx.2), Int.add_zero]
theorem many_bd {n : NetG} (h : Valid n) {p : Int} {j : Nat} (hj : j < n.faults.length) : 0 ≤ n.faults[j].many * (priceN n p).fault ∧ n.faults[j].many * (priceN n p).fault ≤ 1000000 := by
  have h1 := (h.faults _ (List.getElem_mem hj)).1
  simp only [faultOk, Bool.and_eq_true, within_iff] at h1
  have h2 := price_ok h (p := p)
  refine ⟨Int.mul_nonneg (by omega) (by omega), ?_⟩
  have h3 : n.faults[j].many * (priceN n p).fault ≤ 100 * (priceN n p).fault := Int.mul_le_mul_of_nonneg_right (by omega) (by omega)
  omega
theorem pen_bd {n : NetG} (h : Valid n) {p k : Int} {q : Nat} : ∀ {j : Nat}, j ≤ n.faults.length → 0 ≤ penT n p k j q ∧ penT n p k j q ≤ 1000000 * j
  | 0, _ => by simp [penT]
  | j + 1, hj => by
    have ih := pen_bd h (p := p) (k := k) (q := q) (j := j) (by omega)
    have hm := many_bd h (p := p) (show j < n.faults.length by omega)
    rw [penT_succ (by omega)]
    split <;> omega
theorem c88 (E : Env) (S : Ents) (n : NetG) (a b c d e : Value) (p k : Int) (hn : NetV S a b c d e n) (hV : Valid n) :
    CallW Tryz.prog E 88 #[.agg #[a, b, c, d, e], iv p, iv k] S fun r S' => ∃ Δ, Own r (billsN n p k) Δ ∧ S' = Δ ++ S := by
  have hsm := hn.mains
  obtain ⟨qm, cm, rfl, _, hrm⟩ := hn.mains
  have hm12 := hV.m12
  have hf60 := hV.f60
  refine call_inM (args := [.agg #[.slice qm n.mains.length cm, b, c, d, e], iv p, iv k]) Tryz.func88 (by decide) rfl rfl ?_
  repeat' first|(refine gX ?_;first|refine o_v rfl rfl ?_|(refine gL ?_;first|refine o_load rfl rfl rfl rfl ?_|refine o_loadR rfl rfl rfl (by omega) rfl rfl ?_|refine o_loadW rfl rfl rfl rfl ?_|refine o_loadK rfl rfl rfl ?_)|(refine gF ?_;first|refine o_fieldI rfl rfl rfl rfl ?_|refine o_field rfl rfl rfl rfl ?_)|(refine gB ?_;first|refine o_add rfl rfl rfl rfl (by omega) ?_)|(refine gC ?_;first|refine o_callF rfl rfl rfl (c153 _ _ n _ _ _ _ _ p (hn.sub Sb.h)) ?_|(refine o_callZ rfl rfl rfl (c82 _ _ n _ _ _ _ _ p k 96 #[] #[] (fun x => true) (hn.sub Sb.h) hV (fun E S' x hs => c96 E S' x)) ?_;rintro r _ ⟨bt, c', rfl, rfl, hT⟩;have i3 : CellI c' (0 + 77) (.bool (evenN n (fun x => true) p k)) := ⟨hT.even⟩;refine ⟨inferInstance, ?_⟩))|(refine gI ?_;first|refine o_indexS rfl rfl rfl rfl rfl rfl (by omega) ?_|refine o_index rfl rfl rfl rfl rfl (by omega) ?_)|(refine gS ?_;first|refine o_store rfl rfl rfl rfl rfl rfl ?_|refine o_storeW rfl rfl rfl rfl rfl rfl ?_)|(refine o_make (⟨0, 0⟩ : BillG) n.mains.length rfl rfl rfl rfl rfl rfl rfl (by omega) ?_;intro v Δ ho;obtain ⟨wa, wc, rfl, _, _⟩ := ho.slv)|(refine o_allocZ rfl rfl ?_;intro _)|(refine o_box rfl rfl rfl ?_;intro _))|refine o_head0 rfl ?_|refine o_end ?_|refine o_head1 rfl ?_|refine wp_seq ?_|refine o_region ?_|refine wp_block ?_|refine wp_skip ?_|refine wp_exit ?_|(refine w_condD rfl ?_ ?_<;>intro h)|(refine w_cond rfl ?_ ?_<;>intro h<;>try exact Bool.noConfusion h)|refine w_ret (S) (vs:=[_]) rfl (Res.tmp rfl Res.nil) ?_|(show WP _ _ _ _ (.region 8 _ true) _ _ _ _;refine o_drawn [Zt 0,Zt 1,Zf 2,Zf 3,Zt 6,Zt 7,Zf 4,Zf 5,Zf 8,Zf 9,Zf 10,Zf 11,Zt 12] mixed (by kernel_rfl) ?_)|(show WP _ _ _ _ (.region 12 _ true) _ _ _ _;refine o_drawn [Zt 0,Zf 1,Zf 2,Zf 3,Zt 8,Zt 9,Zt 10,Zt 11,Zt 12,Zf 4,Zf 5,Zf 6,Zf 7,Zf 13,Zf 14,Zf 15,Zt 16] mixed (by kernel_rfl) ?_)
  rename_i b3 _ _ b7 b8
  have e0 : (List.replicate n.mains.length (⟨0, 0⟩ : BillG)).length = n.mains.length := List.length_replicate ..
  refine WP.perm ?_ (FrS.h (Δ := Δ))
  refine wp_loop (fun i t ds S' => ∃ (j : Nat) (t0 : Tm) (Δ : Ents), i = n.mains.length - j ∧ j ≤ n.mains.length ∧ dsOf [] = ds ∧ Δ ++ ⟨bt, true, .cells c' 140 (0, 0)⟩ :: ⟨b8, true, .cells #[.int .i64 (priceN n p).since, .int .i64 (priceN n p).feet, .int .i64 (priceN n p).fault] 104 (0, 0)⟩ :: ⟨b7, true, .cells #[.slice wa n.mains.length wc] 144 (0, 0)⟩ :: ⟨b3, true, .cells #[.slice qm n.mains.length cm, b, c, d, e] 28 (0, 0)⟩ :: (mks [] ++ S) = S' ∧
      t = den [(25, iv j), (24, iv n.mains.length), (9, .pointer (some ⟨bt, 0, none⟩)), (8, .pointer (some ⟨b8, 0, none⟩)), (7, .pointer (some ⟨b7, 0, none⟩)), (3, .pointer (some ⟨b3, 0, none⟩)), (1, iv p), (2, iv k)] t0 ∧ Own (.slice wa n.mains.length wc) (bill1 n p k j) Δ)
    n.mains.length ⟨0, _, Δ, rfl, Nat.zero_le _, rfl, by simp only [e0]; rfl, keep ⟨rfl, congrArg (fun q : Nat => some (iv (q : Int))) e0, rfl, rfl, rfl, rfl, rfl, rfl, trivial⟩, by rw [bill1_zero]; simpa only [e0] using ho⟩ ?_
  clear ho
  rintro i t ds S' ⟨j, t0, Δ, rfl, hj, rfl, rfl, rfl, ho⟩
  have hbl := bill1_len (n := n) (p := p) (k := k) (j := j)
  have hgb := gas_bd hV (p := p) (k := k) (q := j)
  obtain ⟨_, hrt⟩ := ho.sla
  have i6 := SlI.mk hrt
  repeat' first|(refine gX ?_;first|refine o_v rfl rfl ?_|(refine gL ?_;first|refine o_load rfl rfl rfl rfl ?_|refine o_loadR rfl rfl rfl (by omega) rfl rfl ?_|refine o_loadW rfl rfl rfl rfl ?_|refine o_loadK rfl rfl rfl ?_)|(refine gF ?_;first|refine o_fieldI rfl rfl rfl rfl ?_|refine o_field rfl rfl rfl rfl ?_)|(refine gB ?_;first|refine o_mul rfl rfl rfl rfl (by change -9223372036854775808 ≤ (burnI n p k j).lo * (priceN n p).feet ∧ (burnI n p k j).lo * (priceN n p).feet ≤ 9223372036854775807; omega) ?_|refine o_quoN rfl rfl rfl rfl (by decide) (by change 0 ≤ (burnI n p k j).lo * (priceN n p).feet ∧ (burnI n p k j).lo * (priceN n p).feet ≤ 9223372036854775807; omega) ?_|refine o_add rfl rfl rfl rfl (by omega) ?_)|(refine gC ?_;first|refine o_callF rfl rfl rfl (c100 _ _ bt true c' (0, 0) n.mains _ _ _ _ _ j InS.h hT (hsm.sub Sb.h) hm12 (by omega) (used_bd15 hV) (ups_bd15 hV) (leak_bd15 hV) (thr_bd15 hV)) ?_)|(refine gI ?_;first|refine o_indexS rfl rfl rfl rfl rfl hbl.symm (by omega) ?_|refine o_indexS rfl rfl rfl rfl rfl rfl (by omega) ?_|refine o_index rfl rfl rfl rfl rfl (by omega) ?_)|(refine gS ?_;first|(refine o_storeO (⟨(burnI n p k j).lo * (priceN n p).feet / 100, ((bill1 n p k j)[j]'(by first|done|omega)).penalty⟩ : BillG) rfl rfl rfl ho (by omega) rfl rfl rfl rfl ?_;intro Δ2 ho2;refine ⟨_, inferInstance, ?_⟩)|refine o_store rfl rfl rfl rfl rfl rfl ?_|refine o_storeW rfl rfl rfl rfl rfl rfl ?_)|(refine o_allocZ rfl rfl ?_;intro _)|(refine o_box rfl rfl rfl ?_;intro _))|refine o_head0 rfl ?_|refine o_end ?_|refine o_head1 rfl ?_|(show WP _ _ _ _ (.seq (.seq (.region 10 _ _) _) _) _ _ _ _;refine wp_cut (fun t ds S' => ∃ (t0 : Tm) (r : Nat) (Δ : Ents), dsOf [r] = ds ∧ Δ ++ markE r :: ⟨b7, true, .cells #[.slice wa n.mains.length wc] 144 (0, 0)⟩ :: S = S' ∧ t = den [(7, .pointer (some ⟨b7, 0, none⟩))] t0 ∧ Own (.slice wa n.mains.length wc) (billsN n p k) Δ) ?_ ?_)|refine wp_seq ?_|refine o_region ?_|refine wp_block ?_|refine wp_skip ?_|refine wp_exit ?_|(refine w_condD rfl ?_ ?_<;>intro h)|(refine w_cond rfl ?_ ?_<;>intro h<;>try exact Bool.noConfusion h)|refine w_ret (S) (vs:=[_]) rfl (Res.tmp rfl Res.nil) ?_|(show WP _ _ _ _ (.region 8 _ true) _ _ _ _;refine o_drawn [Zt 0,Zt 1,Zf 2,Zf 3,Zt 6,Zt 7,Zf 4,Zf 5,Zf 8,Zf 9,Zf 10,Zf 11,Zt 12] mixed (by kernel_rfl) ?_)|(show WP _ _ _ _ (.region 12 _ true) _ _ _ _;refine o_drawn [Zt 0,Zf 1,Zf 2,Zf 3,Zt 8,Zt 9,Zt 10,Zt 11,Zt 12,Zf 4,Zf 5,Zf 6,Zf 7,Zf 13,Zf 14,Zf 15,Zt 16] mixed (by kernel_rfl) ?_)
  · refine ⟨n.mains.length - (j + 1), by omega, _, List.Sublist.refl _, j + 1, _, Δ2, rfl, by omega, rfl, rfl, keep ⟨rfl, rfl, rfl, rfl, rfl, rfl, rfl, rfl, trivial⟩, ?_⟩
    have hg : gasI n p k j = (burnI n p k j).lo * (priceN n p).feet / 100 := if_pos h
    rw [← bill1_succ, hg]
    rw [show ((bill1 n p k j)[j]'(by omega)).penalty = 0 by rw [bill1_at]] at ho2
    exact ho2
  · refine ⟨n.mains.length - (j + 1), by omega, _, List.Sublist.refl _, j + 1, _, Δ, rfl, by omega, rfl, rfl, keep ⟨rfl, rfl, rfl, rfl, rfl, rfl, rfl, rfl, trivial⟩, ?_⟩
    rw [← bill1_none (if_neg (by rw [h]; decide))]
    exact ho
  · have hjm : j = n.mains.length := by omega
    subst hjm
    have hb0 : bill1 n p k n.mains.length = bill2 n p k 0 := by
      unfold bill1 bill2
      refine List.map_congr_left fun q hq => ?_
      rw [if_pos (List.mem_range.1 hq)]
      rfl
    rw [hb0] at ho
    clear i6 hrt hbl
    repeat' first|(refine gX ?_;first|refine o_v rfl rfl ?_|(refine gL ?_;first|refine o_load rfl rfl rfl rfl ?_|refine o_loadR rfl rfl rfl (by omega) rfl rfl ?_|refine o_loadW rfl rfl rfl rfl ?_|refine o_loadK rfl rfl rfl ?_)|(refine gF ?_;first|refine o_fieldI rfl rfl rfl rfl ?_|refine o_field rfl rfl rfl rfl ?_)|(refine gB ?_;first|refine o_add rfl rfl rfl rfl (by omega) ?_)|(refine gC ?_;first|(refine o_callZ (R:=fun r S' => ∃ Δ, Own r n.faults Δ ∧ S' = Δ ++ _) rfl rfl rfl (c142 _ _ n _ _ _ _ _ (hn.sub Sb.h) (by omega)) ?_;rintro r _ ⟨Δf, hof, rfl⟩;obtain ⟨fa, fc, rfl, _, hfa⟩ := hof.slv;have := SlI.mk hfa;refine ⟨inferInstance, ?_⟩)|(refine o_callZ rfl rfl rfl (c154 _ _ n.faults _ _ _ _) ?_;rintro r _ ⟨f1, f2, f3, rfl, rfl⟩;refine ⟨inferInstance, ?_⟩))|(refine gI ?_;first|refine o_indexS rfl rfl rfl rfl rfl rfl (by omega) ?_|refine o_index rfl rfl rfl rfl rfl (by omega) ?_)|(refine gS ?_;first|refine o_store rfl rfl rfl rfl rfl rfl ?_|refine o_storeW rfl rfl rfl rfl rfl rfl ?_)|(refine o_allocZ rfl rfl ?_;intro _)|(refine o_box rfl rfl rfl ?_;intro _))|refine o_head0 rfl ?_|refine o_end ?_|refine o_head1 rfl ?_|refine wp_seq ?_|refine o_region ?_|refine wp_block ?_|refine wp_skip ?_|refine wp_exit ?_|(refine w_condD rfl ?_ ?_<;>intro h)|(refine w_cond rfl ?_ ?_<;>intro h<;>try exact Bool.noConfusion h)|refine w_ret (S) (vs:=[_]) rfl (Res.tmp rfl Res.nil) ?_|(show WP _ _ _ _ (.region 8 _ true) _ _ _ _;refine o_drawn [Zt 0,Zt 1,Zf 2,Zf 3,Zt 6,Zt 7,Zf 4,Zf 5,Zf 8,Zf 9,Zf 10,Zf 11,Zt 12] mixed (by kernel_rfl) ?_)|(show WP _ _ _ _ (.region 12 _ true) _ _ _ _;refine o_drawn [Zt 0,Zf 1,Zf 2,Zf 3,Zt 8,Zt 9,Zt 10,Zt 11,Zt 12,Zf 4,Zf 5,Zf 6,Zf 7,Zf 13,Zf 14,Zf 15,Zt 16] mixed (by kernel_rfl) ?_)
    · refine wp_rangeFunc (F := 182) (first := #[]) (captured := #[.pointer (some ⟨f1, 0, none⟩), .pointer (some ⟨f2, 0, none⟩), .pointer (some ⟨f3, 0, none⟩)])
        (R := fun r lp arr v S' => ∃ (L : Loop) (Δ : Ents), L.state = .ready ∧ L.pending = none ∧ S' = Δ ++ loopE lp L :: markE r :: ⟨bt, true, .cells c' 140 (0, 0)⟩ :: ⟨b8, true, .cells #[.int .i64 (priceN n p).since, .int .i64 (priceN n p).feet, .int .i64 (priceN n p).fault] 104 (0, 0)⟩ :: ⟨b7, true, .cells #[.slice wa n.mains.length wc] 144 (0, 0)⟩ :: ⟨b3, true, .cells #[.slice qm n.mains.length cm, b, c, d, e] 28 (0, 0)⟩ :: (mks [] ++ S) ∧ Own (.slice wa n.mains.length wc) (billsN n p k) Δ) (evL_eq rfl) rfl ?_ ?_
      · intro r lp arr hag
        generalize hL : newL _ _ _ _ _ _ = L
        rw [show (#[] ++ #[Value.func (.yield lp) #[] #[]] ++ #[.pointer (some ⟨f1, 0, none⟩), .pointer (some ⟨f2, 0, none⟩), .pointer (some ⟨f3, 0, none⟩)] : Array Value) = #[.func (.yield lp) #[] #[], .pointer (some ⟨f1, 0, none⟩), .pointer (some ⟨f2, 0, none⟩), .pointer (some ⟨f3, 0, none⟩)] from by simp]
        refine CallW.perm ?_ (FrS.h (Δ := Δ))
        refine CallW.weaken (c182 _ _ (fun j S' => ∃ Δ, List.Sublist (Δ ++ loopE lp L :: markE r :: ⟨f3, true, .cells #[.int .i64 k] 3 (0, 0)⟩ :: ⟨f2, true, .cells #[.int .i64 p] 3 (0, 0)⟩ :: ⟨f1, true, .cells #[.slice fa n.faults.length fc] 197 (0, 0)⟩ :: (Δf ++ ⟨bt, true, .cells c' 140 (0, 0)⟩ :: ⟨b8, true, .cells #[.int .i64 (priceN n p).since, .int .i64 (priceN n p).feet, .int .i64 (priceN n p).fault] 104 (0, 0)⟩ :: ⟨b7, true, .cells #[.slice wa n.mains.length wc] 144 (0, 0)⟩ :: ⟨b3, true, .cells #[.slice qm n.mains.length cm, b, c, d, e] 28 (0, 0)⟩ :: (mks [] ++ S))) S' ∧ Own (.slice wa n.mains.length wc) (bill2 n p k j) Δ)
          (fun _ => False) lp f1 f2 f3 L n.faults fa fc p k (by omega) ⟨Δ, List.Sublist.refl _, ho⟩ ?_ (by subst hL; rfl) ?_ ?_) ?_
        · rintro j S' ⟨Δ, hs, ho⟩
          exact ⟨hs.subset (by simp), hs.subset (by simp), hs.subset (by simp), hfa.sub (Sb.h.trans hs), hs.subset (by simp)⟩
        · rintro j hj S' ⟨Δ, hs, ho⟩ hc
          refine RoundW.sub ?_ hs
          subst hL
          refine round1 (q := 50) rfl (by decide) hag ?_
          change WP _ _ 88 _ (.region 11 _ _) (midQ _ _ 88 _ _ (.block 3 _) _) _ _ _
          obtain ⟨hfo, hpl⟩ := hV.faults _ (List.getElem_mem hj)
          obtain ⟨hpe, hil, _⟩ := idx_spec hpl
          have hbl := bill2_len (n := n) (p := p) (k := k) (j := j)
          obtain ⟨_, hrt⟩ := ho.sla
          have i6 := SlI.mk hrt
          have hmb := many_bd hV (p := p) hj
          have hpb := pen_bd hV (p := p) (k := k) (q := idx n n.faults[j].main) (j := j) (by omega)
          have hat : ((bill2 n p k j)[idx n n.faults[j].main]'(by omega)) = ⟨gasI n p k (idx n n.faults[j].main), penT n p k j (idx n n.faults[j].main)⟩ := bill2_at _
          have hpp : ((bill2 n p k j)[idx n n.faults[j].main]'(by omega)).penalty = penT n p k j (idx n n.faults[j].main) := by rw [hat]
          repeat' first|(refine gX ?_;first|refine o_v rfl rfl ?_|(refine gL ?_;first|refine o_load rfl rfl rfl rfl ?_|refine o_loadR rfl rfl rfl (by omega) rfl rfl ?_|refine o_loadW rfl rfl rfl rfl ?_|refine o_loadK rfl rfl rfl ?_)|(refine gF ?_;first|refine o_fieldI rfl rfl rfl rfl ?_|refine o_field rfl rfl rfl rfl ?_)|(refine gB ?_;first|refine o_mul rfl rfl rfl rfl (by omega) ?_|refine o_add rfl rfl rfl rfl (by omega) ?_|refine o_add rfl rfl rfl rfl (by omega) ?_)|(refine gC ?_;first|refine o_callF rfl rfl rfl (c87 _ _ n _ _ _ _ _ _ (hn.sub Sb.h)) ?_)|(refine gI ?_;first|refine o_indexZ (idx n n.faults[j].main) rfl rfl rfl rfl rfl hbl.symm hpe (by omega) ?_|refine o_indexS rfl rfl rfl rfl rfl rfl (by omega) ?_|refine o_index rfl rfl rfl rfl rfl (by omega) ?_)|(refine gS ?_;first|(refine o_storeO (⟨((bill2 n p k j)[idx n n.faults[j].main]'(by first|done|omega)).gas, ((bill2 n p k j)[idx n n.faults[j].main]'(by first|done|omega)).penalty + n.faults[j].many * (priceN n p).fault⟩ : BillG) rfl rfl rfl ho (by omega) rfl rfl rfl rfl ?_;intro Δ2 ho2;refine ⟨_, inferInstance, ?_⟩)|refine o_store rfl rfl rfl rfl rfl rfl ?_|refine o_storeW rfl rfl rfl rfl rfl rfl ?_)|(refine o_allocZ rfl rfl ?_;intro _)|(refine o_box rfl rfl rfl ?_;intro _))|refine o_head0 rfl ?_|refine o_end ?_|refine o_head1 rfl ?_|refine mid_of rfl ?_|refine fin_ofB ?_|refine wp_seq ?_|refine o_region ?_|refine wp_block ?_|refine wp_skip ?_|refine wp_exit ?_|(refine w_condD rfl ?_ ?_<;>intro h)|(refine w_cond rfl ?_ ?_<;>intro h<;>try exact Bool.noConfusion h)|refine w_ret (S) (vs:=[_]) rfl (Res.tmp rfl Res.nil) ?_|(show WP _ _ _ _ (.region 8 _ true) _ _ _ _;refine o_drawn [Zt 0,Zt 1,Zf 2,Zf 3,Zt 6,Zt 7,Zf 4,Zf 5,Zf 8,Zf 9,Zf 10,Zf 11,Zt 12] mixed (by kernel_rfl) ?_)|(show WP _ _ _ _ (.region 12 _ true) _ _ _ _;refine o_drawn [Zt 0,Zf 1,Zf 2,Zf 3,Zt 8,Zt 9,Zt 10,Zt 11,Zt 12,Zf 4,Zf 5,Zf 6,Zf 7,Zf 13,Zf 14,Zf 15,Zt 16] mixed (by kernel_rfl) ?_)
          refine .inl ⟨rfl, Δ2, .append_left (.cons _ (List.Sublist.refl _)) _, ?_⟩
          rw [hat] at ho2
          rw [← bill2_succ hj hc]
          exact ho2
        · rintro j hj S' ⟨Δ, hs, ho⟩ hc
          exact ⟨Δ, hs, by rw [bill2_skip hj hc]; exact ho⟩
        · rintro v S' (⟨Δ, hs, ho⟩ | h)
          · refine ⟨_, List.Sublist.trans ?_ hs, L, Δ, by subst hL; rfl, by subst hL; rfl, rfl, ho⟩
            exact List.Sublist.append_left (.cons_cons _ (.cons_cons _ (.cons _ (.cons _ (.cons _ (List.sublist_append_right _ _)))))) _
          · exact h.elim
      · rintro r lp arr v S' ⟨L, Δ, h1, h2, rfl, ho⟩
        refine ⟨L, _, by rw [h1]; decide, OwnS.h (S := Δ ++ loopE lp L :: markE r :: ⟨bt, true, .cells c' 140 (0, 0)⟩ :: ⟨b8, true, .cells #[.int .i64 (priceN n p).since, .int .i64 (priceN n p).feet, .int .i64 (priceN n p).fault] 104 (0, 0)⟩ :: ⟨b7, true, .cells #[.slice wa n.mains.length wc] 144 (0, 0)⟩ :: ⟨b3, true, .cells #[.slice qm n.mains.length cm, b, c, d, e] 28 (0, 0)⟩ :: (mks [] ++ S)) _, ?_⟩
        rw [h2]
        exact ⟨_, .append_left (.cons _ (.cons_cons _ (.cons _ (.cons _ (.cons_cons _ (.cons _ (List.Sublist.refl _))))))) _, _, r, Δ, rfl, rfl, keep ⟨rfl, trivial⟩, ho⟩
  rintro _ _ _ ⟨t0, r, Δ, rfl, rfl, rfl, ho⟩
  refine WP.perm ?_ List.perm_middle
  repeat' first|(refine gX ?_;first|refine o_v rfl rfl ?_|(refine gL ?_;first|refine o_load rfl rfl rfl rfl ?_|refine o_loadR rfl rfl rfl (by omega) rfl rfl ?_|refine o_loadW rfl rfl rfl rfl ?_|refine o_loadK rfl rfl rfl ?_)|(refine gF ?_;first|refine o_fieldI rfl rfl rfl rfl ?_|refine o_field rfl rfl rfl rfl ?_)|(refine gB ?_;first|refine o_add rfl rfl rfl rfl (by omega) ?_)|(refine gI ?_;first|refine o_indexS rfl rfl rfl rfl rfl rfl (by omega) ?_|refine o_index rfl rfl rfl rfl rfl (by omega) ?_)|(refine gS ?_;first|refine o_store rfl rfl rfl rfl rfl rfl ?_|refine o_storeW rfl rfl rfl rfl rfl rfl ?_)|(refine o_allocZ rfl rfl ?_;intro _)|(refine o_box rfl rfl rfl ?_;intro _))|refine o_head0 rfl ?_|refine o_end ?_|refine o_head1 rfl ?_|refine wp_seq ?_|refine o_region ?_|refine wp_block ?_|refine wp_skip ?_|refine wp_exit ?_|(refine w_condD rfl ?_ ?_<;>intro h)|(refine w_cond rfl ?_ ?_<;>intro h<;>try exact Bool.noConfusion h)|refine w_ret (S) (vs:=[_]) rfl (Res.tmp rfl Res.nil) ?_|(show WP _ _ _ _ (.region 8 _ true) _ _ _ _;refine o_drawn [Zt 0,Zt 1,Zf 2,Zf 3,Zt 6,Zt 7,Zf 4,Zf 5,Zf 8,Zf 9,Zf 10,Zf 11,Zt 12] mixed (by kernel_rfl) ?_)|(show WP _ _ _ _ (.region 12 _ true) _ _ _ _;refine o_drawn [Zt 0,Zf 1,Zf 2,Zf 3,Zt 8,Zt 9,Zt 10,Zt 11,Zt 12,Zf 4,Zf 5,Zf 6,Zf 7,Zf 13,Zf 14,Zf 15,Zt 16] mixed (by kernel_rfl) ?_)
  refine w_retM [r] (Δ ++ S) (show List.Sublist (markE r :: (Δ ++ S)) _ from .cons_cons _ (.append_left (.cons _ (List.Sublist.refl _)) _)) (vs:=[_]) rfl (Res.tmp rfl Res.nil) ?_
  exact ⟨Δ, ho, rfl⟩
end Go.Proofs.YtpnnmklacialgaaGreat
namespace Go.Proofs.YtpnnmklacialgaaGreat
open Go.Conc
attribute [local irreducible] WP OpF OpX CallW SemH retQ AnyF RoundW
def owedE (n : NetG) (main p k : Int) : Int := if validB n = true then (if placeF n main < 0 then 70 else lookE n p k) else 74
def owedG (n : NetG) (main p k : Int) : BillG := if owedE n main p k = 0 then (billsN n p k).getD (idx n main) ⟨0, 0⟩ else ⟨0, 0⟩
theorem c19 (E : Env) (S : Ents) (n : NetG) (a b c d e : Value) (main p k : Int) (hn : NetV S a b c d e n) :
    CallW Tryz.prog E 19 #[.agg #[a, b, c, d, e], iv main, iv p, iv k] S fun r S' => r = .tuple #[.agg (billC (owedG n main p k)), iv (owedE n main p k)] ∧ S' = S := by
  refine call_in (args := [.agg #[a, b, c, d, e], iv main, iv p, iv k]) Tryz.func19 (by decide) rfl rfl ?_
  repeat' first|(refine gX ?_;first|refine o_v rfl rfl ?_|(refine gL ?_;first|refine o_load rfl rfl rfl rfl ?_|refine o_loadR rfl rfl rfl (by omega) rfl rfl ?_|refine o_loadW rfl rfl rfl rfl ?_|refine o_loadK rfl rfl rfl ?_)|(refine gC ?_;first|refine o_callF rfl rfl rfl (c71 _ _ n _ _ _ _ _ (hn.sub Sb.h)) ?_|refine o_callF rfl rfl rfl (c87 _ _ n _ _ _ _ _ _ (hn.sub Sb.h)) ?_|refine o_callF rfl rfl rfl (c72 _ _ n _ _ _ _ _ _ _ (hn.sub Sb.h)) ?_|(refine o_callZ rfl rfl rfl (c88 _ _ n _ _ _ _ _ p k (hn.sub Sb.h) (look_valid (n := n) (p := p) (k := k) (by omega))) ?_;rintro r _ ⟨Δ, ho, rfl⟩;obtain ⟨wa, wc, rfl, _, hra⟩ := ho.slv;have i1 := SlI.mk hra;have hbl : (billsN n p k).length = n.mains.length := bill2_len;have hidx := idx_spec (n := n) (id := main) (by omega);obtain ⟨hpe, hil, _⟩ := hidx;refine ⟨inferInstance, ?_⟩))|(refine gI ?_;first|refine o_indexZ (idx n main) rfl rfl rfl rfl rfl rfl hpe (by omega) ?_|refine o_indexS rfl rfl rfl rfl rfl rfl (by omega) ?_|refine o_index rfl rfl rfl rfl rfl (by omega) ?_)|(refine gS ?_;first|refine o_store rfl rfl rfl rfl rfl rfl ?_|refine o_storeW rfl rfl rfl rfl rfl rfl ?_)|(refine o_allocZ rfl rfl ?_;intro _)|(refine o_box rfl rfl rfl ?_;intro _)|refine o_build rfl rfl rfl rfl rfl ?_)|refine o_head0 rfl ?_|refine o_end ?_|refine o_head1 rfl ?_|refine wp_seq ?_|refine o_region ?_|refine wp_skip ?_|(refine w_condD rfl ?_ ?_<;>intro h)|(refine w_cond rfl ?_ ?_<;>intro h<;>try exact Bool.noConfusion h)|refine w_ret (S) (vs:=[_,_]) rfl (Res.cell rfl rfl (Res.tmp rfl Res.nil)) ?_
  · have hb : ¬ validB n = true := fun hc => h (if_pos hc)
    have ee : owedE n main p k = 74 := if_neg hb
    exact ⟨by unfold owedG; rw [if_neg hb, if_neg (show ¬ owedE n main p k = 0 by rw [ee]; decide), ee]; rfl, rfl⟩
  all_goals have hb : validB n = true := Classical.byContradiction fun hc => by simp_all
  · have ee : owedE n main p k = 70 := by unfold owedE; rw [if_pos hb, if_pos h]
    exact ⟨by unfold owedG; rw [if_neg (show ¬ owedE n main p k = 0 by rw [ee]; decide), ee]; rfl, rfl⟩
  · have ee : owedE n main p k = lookE n p k := by unfold owedE; rw [if_pos hb, if_neg (by assumption)]
    exact ⟨by unfold owedG; rw [if_neg (show ¬ owedE n main p k = 0 by rw [ee]; exact h), ee]; rfl, rfl⟩
  · have hl : lookE n p k = 0 := by omega
    have ee : owedE n main p k = 0 := by unfold owedE; rw [if_pos hb, if_neg (by assumption), hl]
    have hg : (billsN n p k).getD (idx n main) ⟨0, 0⟩ = (billsN n p k)[idx n main]'(by omega) := by simp [List.getD, show idx n main < (billsN n p k).length by omega]
    exact ⟨by unfold owedG; rw [if_pos ee, ee, hg]; rfl, rfl⟩
end Go.Proofs.YtpnnmklacialgaaGreat
namespace Go.Proofs.YtpnnmklacialgaaGreat
open Go.Conc
attribute [local irreducible] WP OpF OpX CallW SemH retQ AnyF RoundW
theorem map_snoc {α : Type} {f : α → Int} {l : List α} {j : Nat} (h : j < l.length) : (l.take (j + 1)).map f = (l.take j).map f ++ [f l[j]] := by
  rw [List.take_succ_eq_append_getElem h, List.map_append]
  rfl
theorem c183 (E : Env) (S : Ents) (xs : List UseG) (v : Value) (hv : SlV S v xs) (hm : xs.length ≤ 1048576) : CallW Tryz.prog E 183 #[v] S fun r S' => ∃ Δ, Own r (xs.map (·.period)) Δ ∧ S' = Δ ++ S := by
  obtain ⟨a, cp, rfl, _, hr⟩ := hv
  have i1 := SlI.mk hr
  refine call_in (args := [.slice a xs.length cp]) Tryz.func183 (by decide) rfl rfl ?_
  repeat' first|(refine gX ?_;first|refine o_v rfl rfl ?_|(refine gL ?_;first|refine o_load rfl rfl rfl rfl ?_|refine o_loadR rfl rfl rfl (by omega) rfl rfl ?_|refine o_loadW rfl rfl rfl rfl ?_|refine o_loadK rfl rfl rfl ?_)|(refine gB ?_;first|refine o_add rfl rfl rfl rfl (by omega) ?_)|(refine gI ?_;first|refine o_indexS rfl rfl rfl rfl rfl rfl (by omega) ?_|refine o_index rfl rfl rfl rfl rfl (by omega) ?_)|(refine gS ?_;first|refine o_store rfl rfl rfl rfl rfl rfl ?_|refine o_storeW rfl rfl rfl rfl rfl rfl ?_)|(refine o_allocZ rfl rfl ?_;intro _)|refine o_iface rfl rfl rfl ?_|(refine o_bslice rfl rfl rfl rfl rfl rfl rfl ?_;intro _))|refine o_head0 rfl ?_|refine o_end ?_|refine o_head1 rfl ?_|refine wp_seq ?_|refine o_region ?_|refine wp_block ?_|refine wp_skip ?_|refine wp_exit ?_|(refine w_condD rfl ?_ ?_<;>intro h)|(refine w_cond rfl ?_ ?_<;>intro h<;>try exact Bool.noConfusion h)|refine w_ret (S) (vs:=[_]) rfl (Res.tmp rfl Res.nil) ?_
  refine wp_loop (fun i t ds S' => ∃ (j : Nat) (t0 : Tm) (w : Value) (Δ : Ents), i = xs.length - j ∧ j ≤ xs.length ∧ [] = ds ∧ Δ ++ S = S' ∧ t = den [(13, iv j), (12, iv xs.length), (11, .slice a xs.length cp), (3, w)] t0 ∧ Own w ((xs.take j).map (·.period)) Δ)
    xs.length ⟨0, _, _, [], rfl, Nat.zero_le _, rfl, rfl, keep ⟨rfl, rfl, rfl, rfl, trivial⟩, .nil⟩ ?_
  rintro i t ds S' ⟨j, t0, w, Δ, rfl, hj, rfl, rfl, rfl, ho⟩
  obtain ⟨wa, wc, rfl, _, _⟩ := ho.slv
  have hl : ((xs.take j).map (·.period)).length ≤ xs.length := by rw [List.length_map, List.length_take]; omega
  repeat' first|(refine gX ?_;first|refine o_v rfl rfl ?_|(refine gL ?_;first|refine o_load rfl rfl rfl rfl ?_|refine o_loadR rfl rfl rfl (by omega) rfl rfl ?_|refine o_loadW rfl rfl rfl rfl ?_|refine o_loadK rfl rfl rfl ?_)|(refine gB ?_;first|refine o_add rfl rfl rfl rfl (by omega) ?_)|(refine gC ?_;first|refine o_inv rfl rfl rfl rfl (c228 _ _ (xs[j]'(by first|done|omega))) ?_|(refine o_append1 (xs[j]'(by first|done|omega)).period rfl rfl rfl rfl ho rfl (by omega) rfl rfl rfl rfl ?_;intro w2 Δ2 ho2;refine ⟨inferInstance, ?_⟩))|(refine gI ?_;first|refine o_indexS rfl rfl rfl rfl rfl rfl (by omega) ?_|refine o_index rfl rfl rfl rfl rfl (by omega) ?_)|(refine gS ?_;first|refine o_store rfl rfl rfl rfl rfl rfl ?_|refine o_storeW rfl rfl rfl rfl rfl rfl ?_)|(refine o_allocZ rfl rfl ?_;intro _)|refine o_iface rfl rfl rfl ?_|(refine o_bslice rfl rfl rfl rfl rfl rfl rfl ?_;intro _))|refine o_head0 rfl ?_|refine o_end ?_|refine o_head1 rfl ?_|refine wp_seq ?_|refine o_region ?_|refine wp_block ?_|refine wp_skip ?_|refine wp_exit ?_|(refine w_condD rfl ?_ ?_<;>intro h)|(refine w_cond rfl ?_ ?_<;>intro h<;>try exact Bool.noConfusion h)|refine w_ret (Δ ++ S) (vs:=[_]) rfl (Res.tmp rfl Res.nil) ?_|refine w_ret (S) (vs:=[_]) rfl (Res.tmp rfl Res.nil) ?_
  · refine ⟨xs.length - (j + 1), by omega, _, .append_left (.cons _ (.cons _ (List.Sublist.refl _))) _, j + 1, _, _, Δ2, rfl, by omega, rfl, rfl, keep ⟨rfl, rfl, rfl, rfl, trivial⟩, ?_⟩
    rw [map_snoc (by omega)]
    exact ho2
  · have : j = xs.length := by omega
    subst this
    refine ⟨Δ, ?_, rfl⟩
    rw [List.take_length] at ho ⊢
    exact ho
theorem c184 (E : Env) (S : Ents) (xs : List ReadG) (v : Value) (hv : SlV S v xs) (hm : xs.length ≤ 1048576) : CallW Tryz.prog E 184 #[v] S fun r S' => ∃ Δ, Own r (xs.map (·.period)) Δ ∧ S' = Δ ++ S := by
  obtain ⟨a, cp, rfl, _, hr⟩ := hv
  have i1 := SlI.mk hr
  refine call_in (args := [.slice a xs.length cp]) Tryz.func184 (by decide) rfl rfl ?_
  repeat' first|(refine gX ?_;first|refine o_v rfl rfl ?_|(refine gL ?_;first|refine o_load rfl rfl rfl rfl ?_|refine o_loadR rfl rfl rfl (by omega) rfl rfl ?_|refine o_loadW rfl rfl rfl rfl ?_|refine o_loadK rfl rfl rfl ?_)|(refine gB ?_;first|refine o_add rfl rfl rfl rfl (by omega) ?_)|(refine gI ?_;first|refine o_indexS rfl rfl rfl rfl rfl rfl (by omega) ?_|refine o_index rfl rfl rfl rfl rfl (by omega) ?_)|(refine gS ?_;first|refine o_store rfl rfl rfl rfl rfl rfl ?_|refine o_storeW rfl rfl rfl rfl rfl rfl ?_)|(refine o_allocZ rfl rfl ?_;intro _)|refine o_iface rfl rfl rfl ?_|(refine o_bslice rfl rfl rfl rfl rfl rfl rfl ?_;intro _))|refine o_head0 rfl ?_|refine o_end ?_|refine o_head1 rfl ?_|refine wp_seq ?_|refine o_region ?_|refine wp_block ?_|refine wp_skip ?_|refine wp_exit ?_|(refine w_condD rfl ?_ ?_<;>intro h)|(refine w_cond rfl ?_ ?_<;>intro h<;>try exact Bool.noConfusion h)|refine w_ret (S) (vs:=[_]) rfl (Res.tmp rfl Res.nil) ?_
  refine wp_loop (fun i t ds S' => ∃ (j : Nat) (t0 : Tm) (w : Value) (Δ : Ents), i = xs.length - j ∧ j ≤ xs.length ∧ [] = ds ∧ Δ ++ S = S' ∧ t = den [(13, iv j), (12, iv xs.length), (11, .slice a xs.length cp), (3, w)] t0 ∧ Own w ((xs.take j).map (·.period)) Δ)
    xs.length ⟨0, _, _, [], rfl, Nat.zero_le _, rfl, rfl, keep ⟨rfl, rfl, rfl, rfl, trivial⟩, .nil⟩ ?_
  rintro i t ds S' ⟨j, t0, w, Δ, rfl, hj, rfl, rfl, rfl, ho⟩
  obtain ⟨wa, wc, rfl, _, _⟩ := ho.slv
  have hl : ((xs.take j).map (·.period)).length ≤ xs.length := by rw [List.length_map, List.length_take]; omega
  repeat' first|(refine gX ?_;first|refine o_v rfl rfl ?_|(refine gL ?_;first|refine o_load rfl rfl rfl rfl ?_|refine o_loadR rfl rfl rfl (by omega) rfl rfl ?_|refine o_loadW rfl rfl rfl rfl ?_|refine o_loadK rfl rfl rfl ?_)|(refine gB ?_;first|refine o_add rfl rfl rfl rfl (by omega) ?_)|(refine gC ?_;first|refine o_inv rfl rfl rfl rfl (c227 _ _ (xs[j]'(by first|done|omega))) ?_|(refine o_append1 (xs[j]'(by first|done|omega)).period rfl rfl rfl rfl ho rfl (by omega) rfl rfl rfl rfl ?_;intro w2 Δ2 ho2;refine ⟨inferInstance, ?_⟩))|(refine gI ?_;first|refine o_indexS rfl rfl rfl rfl rfl rfl (by omega) ?_|refine o_index rfl rfl rfl rfl rfl (by omega) ?_)|(refine gS ?_;first|refine o_store rfl rfl rfl rfl rfl rfl ?_|refine o_storeW rfl rfl rfl rfl rfl rfl ?_)|(refine o_allocZ rfl rfl ?_;intro _)|refine o_iface rfl rfl rfl ?_|(refine o_bslice rfl rfl rfl rfl rfl rfl rfl ?_;intro _))|refine o_head0 rfl ?_|refine o_end ?_|refine o_head1 rfl ?_|refine wp_seq ?_|refine o_region ?_|refine wp_block ?_|refine wp_skip ?_|refine wp_exit ?_|(refine w_condD rfl ?_ ?_<;>intro h)|(refine w_cond rfl ?_ ?_<;>intro h<;>try exact Bool.noConfusion h)|refine w_ret (Δ ++ S) (vs:=[_]) rfl (Res.tmp rfl Res.nil) ?_|refine w_ret (S) (vs:=[_]) rfl (Res.tmp rfl Res.nil) ?_
  · refine ⟨xs.length - (j + 1), by omega, _, .append_left (.cons _ (.cons _ (List.Sublist.refl _))) _, j + 1, _, _, Δ2, rfl, by omega, rfl, rfl, keep ⟨rfl, rfl, rfl, rfl, trivial⟩, ?_⟩
    rw [map_snoc (by omega)]
    exact ho2
  · have : j = xs.length := by omega
    subst this
    refine ⟨Δ, ?_, rfl⟩
    rw [List.take_length] at ho ⊢
    exact ho
theorem c185 (E : Env) (S : Ents) (xs : List FaultG) (v : Value) (hv : SlV S v xs) (hm : xs.length ≤ 1048576) : CallW Tryz.prog E 185 #[v] S fun r S' => ∃ Δ, Own r (xs.map (·.period)) Δ ∧ S' = Δ ++ S := by
  obtain ⟨a, cp, rfl, _, hr⟩ := hv
  have i1 := SlI.mk hr
  refine call_in (args := [.slice a xs.length cp]) Tryz.func185 (by decide) rfl rfl ?_
  repeat' first|(refine gX ?_;first|refine o_v rfl rfl ?_|(refine gL ?_;first|refine o_load rfl rfl rfl rfl ?_|refine o_loadR rfl rfl rfl (by omega) rfl rfl ?_|refine o_loadW rfl rfl rfl rfl ?_|refine o_loadK rfl rfl rfl ?_)|(refine gB ?_;first|refine o_add rfl rfl rfl rfl (by omega) ?_)|(refine gI ?_;first|refine o_indexS rfl rfl rfl rfl rfl rfl (by omega) ?_|refine o_index rfl rfl rfl rfl rfl (by omega) ?_)|(refine gS ?_;first|refine o_store rfl rfl rfl rfl rfl rfl ?_|refine o_storeW rfl rfl rfl rfl rfl rfl ?_)|(refine o_allocZ rfl rfl ?_;intro _)|refine o_iface rfl rfl rfl ?_|(refine o_bslice rfl rfl rfl rfl rfl rfl rfl ?_;intro _))|refine o_head0 rfl ?_|refine o_end ?_|refine o_head1 rfl ?_|refine wp_seq ?_|refine o_region ?_|refine wp_block ?_|refine wp_skip ?_|refine wp_exit ?_|(refine w_condD rfl ?_ ?_<;>intro h)|(refine w_cond rfl ?_ ?_<;>intro h<;>try exact Bool.noConfusion h)|refine w_ret (S) (vs:=[_]) rfl (Res.tmp rfl Res.nil) ?_
  refine wp_loop (fun i t ds S' => ∃ (j : Nat) (t0 : Tm) (w : Value) (Δ : Ents), i = xs.length - j ∧ j ≤ xs.length ∧ [] = ds ∧ Δ ++ S = S' ∧ t = den [(13, iv j), (12, iv xs.length), (11, .slice a xs.length cp), (3, w)] t0 ∧ Own w ((xs.take j).map (·.period)) Δ)
    xs.length ⟨0, _, _, [], rfl, Nat.zero_le _, rfl, rfl, keep ⟨rfl, rfl, rfl, rfl, trivial⟩, .nil⟩ ?_
  rintro i t ds S' ⟨j, t0, w, Δ, rfl, hj, rfl, rfl, rfl, ho⟩
  obtain ⟨wa, wc, rfl, _, _⟩ := ho.slv
  have hl : ((xs.take j).map (·.period)).length ≤ xs.length := by rw [List.length_map, List.length_take]; omega
  repeat' first|(refine gX ?_;first|refine o_v rfl rfl ?_|(refine gL ?_;first|refine o_load rfl rfl rfl rfl ?_|refine o_loadR rfl rfl rfl (by omega) rfl rfl ?_|refine o_loadW rfl rfl rfl rfl ?_|refine o_loadK rfl rfl rfl ?_)|(refine gB ?_;first|refine o_add rfl rfl rfl rfl (by omega) ?_)|(refine gC ?_;first|refine o_inv rfl rfl rfl rfl (c229 _ _ (xs[j]'(by first|done|omega))) ?_|(refine o_append1 (xs[j]'(by first|done|omega)).period rfl rfl rfl rfl ho rfl (by omega) rfl rfl rfl rfl ?_;intro w2 Δ2 ho2;refine ⟨inferInstance, ?_⟩))|(refine gI ?_;first|refine o_indexS rfl rfl rfl rfl rfl rfl (by omega) ?_|refine o_index rfl rfl rfl rfl rfl (by omega) ?_)|(refine gS ?_;first|refine o_store rfl rfl rfl rfl rfl rfl ?_|refine o_storeW rfl rfl rfl rfl rfl rfl ?_)|(refine o_allocZ rfl rfl ?_;intro _)|refine o_iface rfl rfl rfl ?_|(refine o_bslice rfl rfl rfl rfl rfl rfl rfl ?_;intro _))|refine o_head0 rfl ?_|refine o_end ?_|refine o_head1 rfl ?_|refine wp_seq ?_|refine o_region ?_|refine wp_block ?_|refine wp_skip ?_|refine wp_exit ?_|(refine w_condD rfl ?_ ?_<;>intro h)|(refine w_cond rfl ?_ ?_<;>intro h<;>try exact Bool.noConfusion h)|refine w_ret (Δ ++ S) (vs:=[_]) rfl (Res.tmp rfl Res.nil) ?_|refine w_ret (S) (vs:=[_]) rfl (Res.tmp rfl Res.nil) ?_
  · refine ⟨xs.length - (j + 1), by omega, _, .append_left (.cons _ (.cons _ (List.Sublist.refl _))) _, j + 1, _, _, Δ2, rfl, by omega, rfl, rfl, keep ⟨rfl, rfl, rfl, rfl, trivial⟩, ?_⟩
    rw [map_snoc (by omega)]
    exact ho2
  · have : j = xs.length := by omega
    subst this
    refine ⟨Δ, ?_, rfl⟩
    rw [List.take_length] at ho ⊢
    exact ho
end Go.Proofs.YtpnnmklacialgaaGreat
namespace Go.Proofs.YtpnnmklacialgaaGreat
open Go.Conc
attribute [local irreducible] WP OpF OpX CallW SemH retQ AnyF RoundW
theorem flatMap_snoc {α : Type} {f : α → List Int} {l : List α} {j : Nat} (h : j < l.length) : (l.take (j + 1)).flatMap f = (l.take j).flatMap f ++ f l[j] := by
  rw [List.take_succ_eq_append_getElem h, List.flatMap_append]
  simp
def nightsUse (x : UseG) : List Int := if x.til = 0 then [x.known] else [x.known, x.til]
theorem c157 (E : Env) (S : Ents) (xs : List UseG) (v : Value) (hv : SlV S v xs) (hm : xs.length ≤ 1048576) : CallW Tryz.prog E 157 #[v] S fun r S' => ∃ Δ, Own r (xs.flatMap nightsUse) Δ ∧ S' = Δ ++ S := by
  obtain ⟨a, cp, rfl, _, hr⟩ := hv
  have i1 := SlI.mk hr
  refine call_in (args := [.slice a xs.length cp]) Tryz.func157 (by decide) rfl rfl ?_
  repeat' first|(refine gX ?_;first|refine o_v rfl rfl ?_|(refine gL ?_;first|refine o_load rfl rfl rfl rfl ?_|refine o_loadR rfl rfl rfl (by omega) rfl rfl ?_|refine o_loadW rfl rfl rfl rfl ?_|refine o_loadK rfl rfl rfl ?_)|(refine gB ?_;first|refine o_add rfl rfl rfl rfl (by omega) ?_)|(refine gI ?_;first|refine o_indexS rfl rfl rfl rfl rfl rfl (by omega) ?_|refine o_index rfl rfl rfl rfl rfl (by omega) ?_)|(refine gS ?_;first|refine o_store rfl rfl rfl rfl rfl rfl ?_|refine o_storeW rfl rfl rfl rfl rfl rfl ?_)|(refine o_allocZ rfl rfl ?_;intro _)|refine o_iface rfl rfl rfl ?_|(refine o_bslice rfl rfl rfl rfl rfl rfl rfl ?_;intro _))|refine o_head0 rfl ?_|refine o_end ?_|refine o_head1 rfl ?_|refine wp_seq ?_|refine o_region ?_|refine wp_block ?_|refine wp_skip ?_|refine wp_exit ?_|(refine w_condD rfl ?_ ?_<;>intro h)|(refine w_cond rfl ?_ ?_<;>intro h<;>try exact Bool.noConfusion h)|refine w_ret (S) (vs:=[_]) rfl (Res.tmp rfl Res.nil) ?_
  refine wp_loop (fun i t ds S' => ∃ (j : Nat) (t0 : Tm) (w : Value) (Δ : Ents), i = xs.length - j ∧ j ≤ xs.length ∧ [] = ds ∧ Δ ++ S = S' ∧ t = den [(13, iv j), (12, iv xs.length), (11, .slice a xs.length cp), (3, w)] t0 ∧ Own w ((xs.take j).flatMap nightsUse) Δ ∧ ((xs.take j).flatMap nightsUse).length ≤ 2 * j)
    xs.length ⟨0, _, _, [], rfl, Nat.zero_le _, rfl, rfl, keep ⟨rfl, rfl, rfl, rfl, trivial⟩, .nil, by simp⟩ ?_
  rintro i t ds S' ⟨j, t0, w, Δ, rfl, hj, rfl, rfl, rfl, ho, hl⟩
  obtain ⟨wa, wc, rfl, _, _⟩ := ho.slv
  repeat' first|(refine gX ?_;first|refine o_v rfl rfl ?_|(refine gL ?_;first|refine o_load rfl rfl rfl rfl ?_|refine o_loadR rfl rfl rfl (by omega) rfl rfl ?_|refine o_loadW rfl rfl rfl rfl ?_|refine o_loadK rfl rfl rfl ?_)|(refine gB ?_;first|refine o_add rfl rfl rfl rfl (by omega) ?_)|(refine gC ?_;first|refine o_inv rfl rfl rfl rfl (c228 _ _ (xs[j]'(by first|done|omega))) ?_|(refine o_append1 (xs[j]'(by first|done|omega)).til rfl rfl rfl rfl ho2 rfl (by rw [List.length_append, List.length_singleton]; omega) rfl rfl rfl rfl ?_;intro w3 Δ3 ho3;refine ⟨inferInstance, ?_⟩)|(refine o_append1 (xs[j]'(by first|done|omega)).known rfl rfl rfl rfl ho rfl (by omega) rfl rfl rfl rfl ?_;intro w2 Δ2 ho2;refine ⟨inferInstance, ?_⟩))|(refine gI ?_;first|refine o_indexS rfl rfl rfl rfl rfl rfl (by omega) ?_|refine o_index rfl rfl rfl rfl rfl (by omega) ?_)|(refine gS ?_;first|refine o_store rfl rfl rfl rfl rfl rfl ?_|refine o_storeW rfl rfl rfl rfl rfl rfl ?_)|(refine o_allocZ rfl rfl ?_;intro _)|refine o_iface rfl rfl rfl ?_|(refine o_bslice rfl rfl rfl rfl rfl rfl rfl ?_;intro _))|refine o_head0 rfl ?_|refine o_end ?_|refine o_head1 rfl ?_|refine wp_seq ?_|refine o_region ?_|refine wp_block ?_|refine wp_skip ?_|refine wp_exit ?_|(refine w_condD rfl ?_ ?_<;>intro h)|(refine w_cond rfl ?_ ?_<;>intro h<;>try exact Bool.noConfusion h)|refine w_ret (Δ ++ S) (vs:=[_]) rfl (Res.tmp rfl Res.nil) ?_|refine w_ret (S) (vs:=[_]) rfl (Res.tmp rfl Res.nil) ?_
  · refine ⟨xs.length - (j + 1), by omega, _, .append_left (.cons _ (.cons _ (.cons _ (List.Sublist.refl _)))) _, j + 1, _, _, Δ3, rfl, by omega, rfl, rfl, keep ⟨rfl, rfl, rfl, rfl, trivial⟩, ?_, ?_⟩
    · rw [flatMap_snoc (by omega)]
      unfold nightsUse at *
      rw [if_neg h]
      simpa using ho3
    · rw [flatMap_snoc (by omega), List.length_append]
      unfold nightsUse at *
      rw [if_neg h]
      simp only [List.length_cons, List.length_nil]
      omega
  · refine ⟨xs.length - (j + 1), by omega, _, .append_left (.cons _ (.cons _ (List.Sublist.refl _))) _, j + 1, _, _, Δ2, rfl, by omega, rfl, rfl, keep ⟨rfl, rfl, rfl, rfl, trivial⟩, ?_, ?_⟩
    · rw [flatMap_snoc (by omega)]
      unfold nightsUse at *
      rw [if_pos (by simpa using h)]
      exact ho2
    · rw [flatMap_snoc (by omega), List.length_append]
      unfold nightsUse at *
      rw [if_pos (by simpa using h)]
      simp only [List.length_cons, List.length_nil]
      omega
  · have : j = xs.length := by omega
    subst this
    refine ⟨Δ, ?_, rfl⟩
    rw [List.take_length] at ho ⊢
    exact ho
def nightsRead (x : ReadG) : List Int := if x.til = 0 then [x.known] else [x.known, x.til]
theorem c158 (E : Env) (S : Ents) (xs : List ReadG) (v : Value) (hv : SlV S v xs) (hm : xs.length ≤ 1048576) : CallW Tryz.prog E 158 #[v] S fun r S' => ∃ Δ, Own r (xs.flatMap nightsRead) Δ ∧ S' = Δ ++ S := by
  obtain ⟨a, cp, rfl, _, hr⟩ := hv
  have i1 := SlI.mk hr
  refine call_in (args := [.slice a xs.length cp]) Tryz.func158 (by decide) rfl rfl ?_
  repeat' first|(refine gX ?_;first|refine o_v rfl rfl ?_|(refine gL ?_;first|refine o_load rfl rfl rfl rfl ?_|refine o_loadR rfl rfl rfl (by omega) rfl rfl ?_|refine o_loadW rfl rfl rfl rfl ?_|refine o_loadK rfl rfl rfl ?_)|(refine gB ?_;first|refine o_add rfl rfl rfl rfl (by omega) ?_)|(refine gI ?_;first|refine o_indexS rfl rfl rfl rfl rfl rfl (by omega) ?_|refine o_index rfl rfl rfl rfl rfl (by omega) ?_)|(refine gS ?_;first|refine o_store rfl rfl rfl rfl rfl rfl ?_|refine o_storeW rfl rfl rfl rfl rfl rfl ?_)|(refine o_allocZ rfl rfl ?_;intro _)|refine o_iface rfl rfl rfl ?_|(refine o_bslice rfl rfl rfl rfl rfl rfl rfl ?_;intro _))|refine o_head0 rfl ?_|refine o_end ?_|refine o_head1 rfl ?_|refine wp_seq ?_|refine o_region ?_|refine wp_block ?_|refine wp_skip ?_|refine wp_exit ?_|(refine w_condD rfl ?_ ?_<;>intro h)|(refine w_cond rfl ?_ ?_<;>intro h<;>try exact Bool.noConfusion h)|refine w_ret (S) (vs:=[_]) rfl (Res.tmp rfl Res.nil) ?_
  refine wp_loop (fun i t ds S' => ∃ (j : Nat) (t0 : Tm) (w : Value) (Δ : Ents), i = xs.length - j ∧ j ≤ xs.length ∧ [] = ds ∧ Δ ++ S = S' ∧ t = den [(13, iv j), (12, iv xs.length), (11, .slice a xs.length cp), (3, w)] t0 ∧ Own w ((xs.take j).flatMap nightsRead) Δ ∧ ((xs.take j).flatMap nightsRead).length ≤ 2 * j)
    xs.length ⟨0, _, _, [], rfl, Nat.zero_le _, rfl, rfl, keep ⟨rfl, rfl, rfl, rfl, trivial⟩, .nil, by simp⟩ ?_
  rintro i t ds S' ⟨j, t0, w, Δ, rfl, hj, rfl, rfl, rfl, ho, hl⟩
  obtain ⟨wa, wc, rfl, _, _⟩ := ho.slv
  repeat' first|(refine gX ?_;first|refine o_v rfl rfl ?_|(refine gL ?_;first|refine o_load rfl rfl rfl rfl ?_|refine o_loadR rfl rfl rfl (by omega) rfl rfl ?_|refine o_loadW rfl rfl rfl rfl ?_|refine o_loadK rfl rfl rfl ?_)|(refine gB ?_;first|refine o_add rfl rfl rfl rfl (by omega) ?_)|(refine gC ?_;first|refine o_inv rfl rfl rfl rfl (c227 _ _ (xs[j]'(by first|done|omega))) ?_|(refine o_append1 (xs[j]'(by first|done|omega)).til rfl rfl rfl rfl ho2 rfl (by rw [List.length_append, List.length_singleton]; omega) rfl rfl rfl rfl ?_;intro w3 Δ3 ho3;refine ⟨inferInstance, ?_⟩)|(refine o_append1 (xs[j]'(by first|done|omega)).known rfl rfl rfl rfl ho rfl (by omega) rfl rfl rfl rfl ?_;intro w2 Δ2 ho2;refine ⟨inferInstance, ?_⟩))|(refine gI ?_;first|refine o_indexS rfl rfl rfl rfl rfl rfl (by omega) ?_|refine o_index rfl rfl rfl rfl rfl (by omega) ?_)|(refine gS ?_;first|refine o_store rfl rfl rfl rfl rfl rfl ?_|refine o_storeW rfl rfl rfl rfl rfl rfl ?_)|(refine o_allocZ rfl rfl ?_;intro _)|refine o_iface rfl rfl rfl ?_|(refine o_bslice rfl rfl rfl rfl rfl rfl rfl ?_;intro _))|refine o_head0 rfl ?_|refine o_end ?_|refine o_head1 rfl ?_|refine wp_seq ?_|refine o_region ?_|refine wp_block ?_|refine wp_skip ?_|refine wp_exit ?_|(refine w_condD rfl ?_ ?_<;>intro h)|(refine w_cond rfl ?_ ?_<;>intro h<;>try exact Bool.noConfusion h)|refine w_ret (Δ ++ S) (vs:=[_]) rfl (Res.tmp rfl Res.nil) ?_|refine w_ret (S) (vs:=[_]) rfl (Res.tmp rfl Res.nil) ?_
  · refine ⟨xs.length - (j + 1), by omega, _, .append_left (.cons _ (.cons _ (.cons _ (List.Sublist.refl _)))) _, j + 1, _, _, Δ3, rfl, by omega, rfl, rfl, keep ⟨rfl, rfl, rfl, rfl, trivial⟩, ?_, ?_⟩
    · rw [flatMap_snoc (by omega)]
      unfold nightsRead at *
      rw [if_neg h]
      simpa using ho3
    · rw [flatMap_snoc (by omega), List.length_append]
      unfold nightsRead at *
      rw [if_neg h]
      simp only [List.length_cons, List.length_nil]
      omega
  · refine ⟨xs.length - (j + 1), by omega, _, .append_left (.cons _ (.cons _ (List.Sublist.refl _))) _, j + 1, _, _, Δ2, rfl, by omega, rfl, rfl, keep ⟨rfl, rfl, rfl, rfl, trivial⟩, ?_, ?_⟩
    · rw [flatMap_snoc (by omega)]
      unfold nightsRead at *
      rw [if_pos (by simpa using h)]
      exact ho2
    · rw [flatMap_snoc (by omega), List.length_append]
      unfold nightsRead at *
      rw [if_pos (by simpa using h)]
      simp only [List.length_cons, List.length_nil]
      omega
  · have : j = xs.length := by omega
    subst this
    refine ⟨Δ, ?_, rfl⟩
    rw [List.take_length] at ho ⊢
    exact ho
def nightsFault (x : FaultG) : List Int := if x.til = 0 then [x.known] else [x.known, x.til]
theorem c159 (E : Env) (S : Ents) (xs : List FaultG) (v : Value) (hv : SlV S v xs) (hm : xs.length ≤ 1048576) : CallW Tryz.prog E 159 #[v] S fun r S' => ∃ Δ, Own r (xs.flatMap nightsFault) Δ ∧ S' = Δ ++ S := by
  obtain ⟨a, cp, rfl, _, hr⟩ := hv
  have i1 := SlI.mk hr
  refine call_in (args := [.slice a xs.length cp]) Tryz.func159 (by decide) rfl rfl ?_
  repeat' first|(refine gX ?_;first|refine o_v rfl rfl ?_|(refine gL ?_;first|refine o_load rfl rfl rfl rfl ?_|refine o_loadR rfl rfl rfl (by omega) rfl rfl ?_|refine o_loadW rfl rfl rfl rfl ?_|refine o_loadK rfl rfl rfl ?_)|(refine gB ?_;first|refine o_add rfl rfl rfl rfl (by omega) ?_)|(refine gI ?_;first|refine o_indexS rfl rfl rfl rfl rfl rfl (by omega) ?_|refine o_index rfl rfl rfl rfl rfl (by omega) ?_)|(refine gS ?_;first|refine o_store rfl rfl rfl rfl rfl rfl ?_|refine o_storeW rfl rfl rfl rfl rfl rfl ?_)|(refine o_allocZ rfl rfl ?_;intro _)|refine o_iface rfl rfl rfl ?_|(refine o_bslice rfl rfl rfl rfl rfl rfl rfl ?_;intro _))|refine o_head0 rfl ?_|refine o_end ?_|refine o_head1 rfl ?_|refine wp_seq ?_|refine o_region ?_|refine wp_block ?_|refine wp_skip ?_|refine wp_exit ?_|(refine w_condD rfl ?_ ?_<;>intro h)|(refine w_cond rfl ?_ ?_<;>intro h<;>try exact Bool.noConfusion h)|refine w_ret (S) (vs:=[_]) rfl (Res.tmp rfl Res.nil) ?_
  refine wp_loop (fun i t ds S' => ∃ (j : Nat) (t0 : Tm) (w : Value) (Δ : Ents), i = xs.length - j ∧ j ≤ xs.length ∧ [] = ds ∧ Δ ++ S = S' ∧ t = den [(13, iv j), (12, iv xs.length), (11, .slice a xs.length cp), (3, w)] t0 ∧ Own w ((xs.take j).flatMap nightsFault) Δ ∧ ((xs.take j).flatMap nightsFault).length ≤ 2 * j)
    xs.length ⟨0, _, _, [], rfl, Nat.zero_le _, rfl, rfl, keep ⟨rfl, rfl, rfl, rfl, trivial⟩, .nil, by simp⟩ ?_
  rintro i t ds S' ⟨j, t0, w, Δ, rfl, hj, rfl, rfl, rfl, ho, hl⟩
  obtain ⟨wa, wc, rfl, _, _⟩ := ho.slv
  repeat' first|(refine gX ?_;first|refine o_v rfl rfl ?_|(refine gL ?_;first|refine o_load rfl rfl rfl rfl ?_|refine o_loadR rfl rfl rfl (by omega) rfl rfl ?_|refine o_loadW rfl rfl rfl rfl ?_|refine o_loadK rfl rfl rfl ?_)|(refine gB ?_;first|refine o_add rfl rfl rfl rfl (by omega) ?_)|(refine gC ?_;first|refine o_inv rfl rfl rfl rfl (c229 _ _ (xs[j]'(by first|done|omega))) ?_|(refine o_append1 (xs[j]'(by first|done|omega)).til rfl rfl rfl rfl ho2 rfl (by rw [List.length_append, List.length_singleton]; omega) rfl rfl rfl rfl ?_;intro w3 Δ3 ho3;refine ⟨inferInstance, ?_⟩)|(refine o_append1 (xs[j]'(by first|done|omega)).known rfl rfl rfl rfl ho rfl (by omega) rfl rfl rfl rfl ?_;intro w2 Δ2 ho2;refine ⟨inferInstance, ?_⟩))|(refine gI ?_;first|refine o_indexS rfl rfl rfl rfl rfl rfl (by omega) ?_|refine o_index rfl rfl rfl rfl rfl (by omega) ?_)|(refine gS ?_;first|refine o_store rfl rfl rfl rfl rfl rfl ?_|refine o_storeW rfl rfl rfl rfl rfl rfl ?_)|(refine o_allocZ rfl rfl ?_;intro _)|refine o_iface rfl rfl rfl ?_|(refine o_bslice rfl rfl rfl rfl rfl rfl rfl ?_;intro _))|refine o_head0 rfl ?_|refine o_end ?_|refine o_head1 rfl ?_|refine wp_seq ?_|refine o_region ?_|refine wp_block ?_|refine wp_skip ?_|refine wp_exit ?_|(refine w_condD rfl ?_ ?_<;>intro h)|(refine w_cond rfl ?_ ?_<;>intro h<;>try exact Bool.noConfusion h)|refine w_ret (Δ ++ S) (vs:=[_]) rfl (Res.tmp rfl Res.nil) ?_|refine w_ret (S) (vs:=[_]) rfl (Res.tmp rfl Res.nil) ?_
  · refine ⟨xs.length - (j + 1), by omega, _, .append_left (.cons _ (.cons _ (.cons _ (List.Sublist.refl _)))) _, j + 1, _, _, Δ3, rfl, by omega, rfl, rfl, keep ⟨rfl, rfl, rfl, rfl, trivial⟩, ?_, ?_⟩
    · rw [flatMap_snoc (by omega)]
      unfold nightsFault at *
      rw [if_neg h]
      simpa using ho3
    · rw [flatMap_snoc (by omega), List.length_append]
      unfold nightsFault at *
      rw [if_neg h]
      simp only [List.length_cons, List.length_nil]
      omega
  · refine ⟨xs.length - (j + 1), by omega, _, .append_left (.cons _ (.cons _ (List.Sublist.refl _))) _, j + 1, _, _, Δ2, rfl, by omega, rfl, rfl, keep ⟨rfl, rfl, rfl, rfl, trivial⟩, ?_, ?_⟩
    · rw [flatMap_snoc (by omega)]
      unfold nightsFault at *
      rw [if_pos (by simpa using h)]
      exact ho2
    · rw [flatMap_snoc (by omega), List.length_append]
      unfold nightsFault at *
      rw [if_pos (by simpa using h)]
      simp only [List.length_cons, List.length_nil]
      omega
  · have : j = xs.length := by omega
    subst this
    refine ⟨Δ, ?_, rfl⟩
    rw [List.take_length] at ho ⊢
    exact ho
end Go.Proofs.YtpnnmklacialgaaGreat
namespace Go.Proofs.YtpnnmklacialgaaGreat
open Go.Conc
structure SlG where
  a : Option Addr
  len : Nat
  cap : Nat
def SlG.v (x : SlG) : Value := .slice x.a x.len x.cap
def slC (x : SlG) : Array Value := #[.slice x.a x.len x.cap]
instance encSl : Enc SlG := ⟨1, slC, by decide, fun _ => rfl, fun x => one_of rfl⟩
section
variable {E : Env} {fn n : Nat} {Q : Post} {K : Tm → List Deferred → Ents → Prop} {l : TL} {t : Tm} {ds : List Deferred} {S Z Zi : Ents} {ops : Array Oper} {i : Nat} {z : Bool} {rest : List (Nat × Bool)} {sq : Bool}
variable {d : Nat} {ty : TypeId} {pos : String} {af : Array Edge} {g : Option (Nat × Bool)}
theorem o_conv {src dst : TypeId} {k1 k2 k3 : IntKind} {x : Operand} {a m : Int} (hw : wantL ops l t g = some true) (hd : Nat.blt d n = true) (h1 : lk1 itT src = some k1) (h2 : lk1 itT dst = some k2) (hx : evL l t x = some (.int k3 a)) (hm : k2.wrap a = m)
    (h : OpF Tryz.prog E fn n ops sq rest K (den ((d, .int k2 m) :: l) t) ds Z S) : OpX Tryz.prog E fn n ops sq i z rest ⟨some d, .convert src dst x, ty, pos, af, g⟩ K (den l t) ds Zi Z S := by
  subst hm
  refine o_V rfl (vop_of hw hd rfl rfl fun S hS => ?_) h
  unfold OpH execOp
  refine semH_bind (?_ : SemH Tryz.prog E.m (convert src dst (ev (den l t) x)) S _)
  rw [evL_eq hx]
  unfold convert
  refine semH_bind (semH_underlying (itT_ok h1) (semH_bind (semH_underlying (itT_ok h2) ?_)))
  exact semH_pure (semH_pure ⟨_, .inl rfl, rfl, rfl⟩)
theorem o_shr {t1 t2 : TypeId} {k yk : IntKind} {x y : Operand} {a b : Int} (hw : wantL ops l t g = some true) (hd : Nat.blt d n = true) (hx : evL l t x = some (.int k a)) (hy : evL l t y = some (.int yk b)) (hb : 0 ≤ b)
    (h : OpF Tryz.prog E fn n ops sq rest K (den ((d, .int k (a.fdiv (2 ^ (min b.toNat k.bits)))) :: l) t) ds Z S) : OpX Tryz.prog E fn n ops sq i z rest ⟨some d, .binOp .shr t1 x y t2, ty, pos, af, g⟩ K (den l t) ds Zi Z S := by
  refine o_V rfl (vop_of hw hd rfl rfl fun S hS => ?_) h
  unfold OpH execOp
  refine semH_bind (?_ : SemH Tryz.prog E.m (do eqGuard .shr t1 x y (ev (den l t) x) (ev (den l t) y); binOp .shr t1 (ev (den l t) x) (ev (den l t) y)) S _)
  rw [evL_eq hx, evL_eq hy]
  unfold eqGuard
  refine semH_bind (semH_pure ?_)
  simp only [binOp, Op.shift]
  rw [if_neg (by omega)]
  exact semH_pure (semH_pure ⟨_, .inl rfl, rfl, rfl⟩)
def strT (P : Program) (t : Nat) : Bool := match P.underlying t with | some .string => true | _ => false
class StrT (t : Nat) : Prop where h : strT Tryz.prog t = true
theorem strT_ok {P : Program} {t : Nat} (h : strT P t = true) : P.underlying t = some .string := by
  unfold strT at h
  split at h
  · assumption
  · cases h
theorem o_idxStr {xt : TypeId} {x y : Operand} {s : ByteArray} {k : IntKind} {q : Int} (hw : wantL ops l t g = some true) (hd : Nat.blt d n = true) [hs : StrT xt] (hx : evL l t x = some (.string s)) (hy : evL l t y = some (.int k q)) (h0 : 0 ≤ q ∧ q ≤ 255) (h1 : Nat.blt 255 s.size = true)
    (h : ∀ b : Nat, b ≤ 255 → OpF Tryz.prog E fn n ops sq rest K (den ((d, .int .u8 (b : Int)) :: l) t) ds Z S) : OpX Tryz.prog E fn n ops sq i z rest ⟨some d, .index xt x y, ty, pos, af, g⟩ K (den l t) ds Zi Z S := by
  have hlt : q.toNat < s.size := by simp [Nat.blt] at h1; omega
  have hle : s[q.toNat].toNat ≤ 255 := by have := UInt8.toNat_lt s[q.toNat]; omega
  have hu := strT_ok hs.h
  refine o_V rfl (vop_of hw hd rfl rfl fun S hS => ?_) (h s[q.toNat].toNat hle)
  unfold OpH execOp
  refine semH_bind (?_ : SemH Tryz.prog E.m (Instr.index xt (ev (den l t) x) (ev (den l t) y)) S _)
  rw [evL_eq hx, evL_eq hy]
  unfold Instr.index
  refine semH_bind (semH_pure ?_)
  refine semH_bind (semH_underlying hu ?_)
  simp only
  rw [if_pos h0.1, getElem?_pos s q.toNat hlt]
  exact semH_pure (semH_pure ⟨_, .inl rfl, rfl, rfl⟩)
theorem o_appendM {α : Type} [En : Enc α] (u : α) {sT xT e sz by' k : Nat} {x y : Operand} (hw : wantL ops l t g = some true) (hd : Nat.blt d n = true) (hx : evL l t x = some (.slice none 0 0)) (hy : evL l t y = some (.int .i64 (k : Int))) (hk0 : 0 < k) (hk : k ≤ 4000000)
    (hs : lk1 slT sT = some e) (hi : lk1 itT xT = some .i64) [he : Eb e sz by'] {cs : Array Value} [hz : Zo e cs] (hcs : cs = En.enc u) (hsz : En.sz = sz)
    (h : ∀ v' Δ', Own v' (List.replicate k u) Δ' → OpF Tryz.prog E fn n ops sq rest K (den ((d, v') :: l) t) ds Z (Δ' ++ S)) :
    OpX Tryz.prog E fn n ops sq i z rest ⟨some d, .call { callee := .builtin .append, args := #[x, y], argTypes := #[sT, xT] }, ty, pos, af, g⟩ K (den l t) ds Zi Z S := by
  subst hsz
  obtain ⟨heb, hb1, hb2⟩ := he.h
  have hpos := En.pos
  refine o_A rfl (R := fun v S' => ∃ Δ, Own v (List.replicate k u) Δ ∧ S' = Δ ++ S) (exec_of hw hd rfl rfl ?_) ?_
  · unfold OpH execOp
    simp only [resolve]
    refine semH_bind (semH_pure ?_)
    simp only [invoke, builtin]
    refine semH_bind ?_
    unfold Builtin.append_
    simp only [List.map_toArray, List.map_cons, List.map_nil, evL_eq hx, evL_eq hy, List.getElem?_toArray, List.getElem?_cons_zero, List.getElem?_cons_succ]
    refine semH_bind (semH_underlying (slT_ok hs) ?_)
    simp only
    refine semH_bind (semH_sizeOf' heb ?_)
    refine semH_bind (semH_underlying (itT_ok hi) ?_)
    refine semH_bind (semH_pure ?_)
    have hwr : IntKind.i64.wrap (k : Int) = (k : Int) := wrap_in (by omega) (by omega)
    simp only [if_true]
    refine semH_bind (semH_pure ?_)
    simp only [hwr]
    rw [if_neg (by omega)]
    refine semH_bytes heb fun i0 hi0 => ?_
    have hkb : (k : Int) * (by' : Int) ≤ 4000000000 := by
      have h1 : k * by' ≤ 4000000000 := Nat.le_trans (Nat.mul_le_mul hk hb2) (by decide)
      have := Int.ofNat_le.2 h1
      rw [Int.natCast_mul] at this
      omega
    have e48 : (2 : Int) ^ 48 = 281474976710656 := by decide
    rw [if_neg (by rw [hi0, e48]; omega)]
    refine semH_bind (semH_pure ?_)
    simp only [Int.toNat_natCast, Nat.zero_add]
    rw [if_neg (by omega)]
    refine semH_bytes heb fun i hi => ?_
    rw [if_neg (by rintro ⟨hh, _⟩; revert hh; simp only [IntKind.max]; intro hh; revert hh; simp [IntKind.signed, IntKind.bits]; omega)]
    have hbig : Builtin.nextslicecap k 0 * by' ≤ 2 ^ 48 := by
      have h1 := nextslicecap_le (need := k) (cap := 0) (by omega)
      calc _ ≤ 9000000 * 1000 := Nat.mul_le_mul (by omega) hb2
        _ ≤ _ := by decide
    refine semH_bytes heb fun i2 hi2 => ?_
    rw [if_neg (by rw [hi2]; omega)]
    refine semH_bind (semH_choose fun n => ?_)
    obtain ⟨newCap, hnc, hge⟩ : ∃ nc, (if (Question.appendCap k 0 e).forced = true then 0 else (Question.appendCap k 0 e).cut n) = nc ∧ k ≤ nc := ⟨_, rfl, by
      simp only [Question.forced, Bool.false_eq_true, if_false, Question.cut]; omega⟩
    rw [hnc]
    refine semH_bytes heb fun i3 hi3 => ?_
    refine semH_bind (semH_askRoom ?_)
    refine semH_bind (semH_pure ?_)
    have hne : ¬ k * En.sz = 0 := by
      intro h0
      rcases Nat.mul_eq_zero.1 h0 with h | h <;> omega
    simp only [Bool.not_true, Bool.false_eq_true, if_false]
    rw [if_neg hne]
    refine semH_bind (semH_bind (semH_zero hz.h fun z0 hz0 => semH_pure ?_))
    refine semH_bind (semH_zero hz.h fun z' hz2 => ?_)
    unfold newRow
    refine semH_bind (semH_bind (semH_new fun b => semH_pure (semH_pure ?_)))
    have hes : (En.enc u).size = En.sz := En.size u
    have hzr : ∀ q, (Builtin.zeroCells (En.enc u) q).toList = rowL (List.replicate q u) := fun q => by
      have h1 := (isRow_zero (En := En) (zs := En.enc u) (u := u) rfl q).rowL
      have h2 : ((Array.range (q * En.sz)).map ((En.enc u)[· % (En.enc u).size]!)).extract 0 (0 + (List.replicate q u).length * En.sz) = (Array.range (q * En.sz)).map ((En.enc u)[· % (En.enc u).size]!) := by
        rw [List.length_replicate, Nat.zero_add]
        apply Array.extract_eq_self_of_le
        simp
      rw [h2] at h1
      unfold Builtin.zeroCells
      rw [hes] at *
      rw [h1]
    generalize hcells : (#[] ++ Builtin.zeroCells z0.cells k ++ Builtin.zeroCells z'.cells (newCap - k) : Array Value) = c
    rw [hz0, hz2, hcs] at hcells
    have hl : c.toList = rowL (List.replicate k u) ++ rowL (List.replicate (newCap - k) u) := by
      rw [← hcells]
      simp [hzr]
    have hcsz : c.size = newCap * En.sz := by
      rw [← Array.length_toList, hl, List.length_append, rowL_length, rowL_length, List.length_replicate, List.length_replicate, ← Nat.add_mul, Nat.add_sub_cancel' hge]
    have hrow : IsRow c 0 (List.replicate k u) := isRow_of (l := []) (r := rowL (List.replicate (newCap - k) u)) (by simpa using hl)
    have := Own.some (b := b) (cap := newCap) (ty := e) hrow hcsz (by simpa using hge)
    rw [List.length_replicate] at this
    exact semH_pure ⟨_, .inl rfl, _, this, rfl⟩
  · rintro v _ ⟨Δ, ho, rfl⟩
    exact ⟨Z, fun _ hz => ⟨fun _ => List.Sublist.refl _, hz.trans (List.sublist_append_right _ _)⟩, h v Δ ho⟩
end
instance : StrT 9 := ⟨by kernel_rfl⟩
end Go.Proofs.YtpnnmklacialgaaGreat
namespace Go.Proofs.YtpnnmklacialgaaGreat
open Go.Conc
attribute [local irreducible] WP OpF OpX CallW SemH retQ AnyF RoundW
def at0 (l : List Int) (i : Nat) : Int := l.getD i 0
theorem at0_get {l : List Int} {i : Nat} (h : i < l.length) : l[i] = at0 l i := by
  unfold at0
  rw [List.getD_eq_getElem?_getD, List.getElem?_eq_getElem h]
  rfl
theorem at0_set {l : List Int} {i j : Nat} {v : Int} (h : j < l.length) : at0 (l.set j v) i = if i = j then v else at0 l i := by
  unfold at0
  rw [List.getD_eq_getElem?_getD, List.getD_eq_getElem?_getD, List.getElem?_set]
  by_cases e : j = i
  · subst e
    rw [if_pos rfl, if_pos h, if_pos rfl]
    rfl
  · rw [if_neg e, if_neg (Ne.symm e)]
theorem swap_perm (l : List Int) (i j : Nat) (hi : i < l.length) (hj : j < l.length) : ((l.set i l[j]).set j l[i]).Perm l := by
  have h := Array.swap_perm (xs := l.toArray) (i := i) (j := j) (by simpa using hi) (by simpa using hj)
  rw [Array.perm_iff_toList_perm] at h
  simpa [Array.swap] using h
def sw (l : List Int) (i j : Nat) : List Int := (l.set i (at0 l j)).set j (at0 l i)
theorem sw_len {l : List Int} {i j : Nat} : (sw l i j).length = l.length := by simp [sw]
theorem sw_perm {l : List Int} {i j : Nat} (hi : i < l.length) (hj : j < l.length) : (sw l i j).Perm l := by
  unfold sw
  rw [← at0_get hi, ← at0_get hj]
  exact swap_perm l i j hi hj
theorem at0_sw {l : List Int} {i j x : Nat} (hi : i < l.length) (hj : j < l.length) : at0 (sw l i j) x = if x = j then at0 l i else if x = i then at0 l j else at0 l x := by
  unfold sw
  rw [at0_set (by simpa using hj), at0_set hi]
structure Seg (lo hi : Nat) (xs ys : List Int) : Prop where
  len : ys.length = xs.length
  perm : ys.Perm xs
  out : ∀ i, i < lo ∨ hi ≤ i → at0 ys i = at0 xs i
theorem Seg.refl (lo hi : Nat) (xs : List Int) : Seg lo hi xs xs := ⟨rfl, List.Perm.refl _, fun _ _ => rfl⟩
theorem Seg.trans {lo hi : Nat} {a b c : List Int} (h : Seg lo hi a b) (k : Seg lo hi b c) : Seg lo hi a c := ⟨k.len.trans h.len, k.perm.trans h.perm, fun i hi => (k.out i hi).trans (h.out i hi)⟩
theorem Seg.mono {lo hi lo' hi' : Nat} {a b : List Int} (h : Seg lo hi a b) (h1 : lo' ≤ lo) (h2 : hi ≤ hi') : Seg lo' hi' a b := ⟨h.len, h.perm, fun i hi => h.out i (by omega)⟩
theorem Seg.sw {lo hi i j : Nat} {l : List Int} (hi1 : lo ≤ i) (hi2 : i < hi) (hj1 : lo ≤ j) (hj2 : j < hi) (hl : hi ≤ l.length) : Seg lo hi l (sw l i j) :=
  ⟨sw_len, sw_perm (by omega) (by omega), fun x hx => by rw [at0_sw (by omega) (by omega), if_neg (by omega), if_neg (by omega)]⟩
def SrtOn (lo hi : Nat) (l : List Int) : Prop := ∀ p q, lo ≤ p → p < q → q < hi → at0 l p ≤ at0 l q
structure Alm (lo i j : Nat) (l : List Int) : Prop where
  a : ∀ p q, lo ≤ p → p < q → q ≤ i → p ≠ j → q ≠ j → at0 l p ≤ at0 l q
  b : ∀ q, j < q → q ≤ i → at0 l j ≤ at0 l q
theorem Alm.start {lo i : Nat} {l : List Int} (h : SrtOn lo i l) : Alm lo i i l := ⟨fun p q h1 h2 h3 h4 h5 => h p q h1 h2 (by omega), fun q h1 h2 => absurd h1 (by omega)⟩
theorem Alm.step {lo i j : Nat} {l : List Int} (h : Alm lo i j l) (hj : lo < j) (hji : j ≤ i) (hl : i < l.length) (hlt : at0 l j < at0 l (j - 1)) : Alm lo i (j - 1) (sw l j (j - 1)) := by
  have hs : ∀ x, at0 (sw l j (j - 1)) x = if x = j - 1 then at0 l j else if x = j then at0 l (j - 1) else at0 l x := fun x => at0_sw (by omega) (by omega)
  refine ⟨fun p q h1 h2 h3 h4 h5 => ?_, fun q h1 h2 => ?_⟩
  · rw [hs, hs, if_neg h4, if_neg h5]
    by_cases e1 : p = j
    · subst e1
      rw [if_pos rfl, if_neg (by omega)]
      have := h.a (p - 1) q (by omega) (by omega) h3 (by omega) (by omega)
      exact this
    · rw [if_neg e1]
      by_cases e2 : q = j
      · subst e2
        rw [if_pos rfl]
        by_cases e3 : p = q - 1
        · exact absurd e3 h4
        · exact h.a p (q - 1) h1 (by omega) (by omega) (by omega) (by omega)
      · rw [if_neg e2]
        exact h.a p q h1 h2 h3 e1 e2
  · rw [hs, hs, if_pos rfl, if_neg (by omega)]
    by_cases e2 : q = j
    · rw [if_pos e2]; omega
    · rw [if_neg e2]
      exact h.b q (by omega) h2
theorem Alm.done {lo i j : Nat} {l : List Int} (h : Alm lo i j l) (hj : lo ≤ j) (hji : j ≤ i) (he : j = lo ∨ at0 l (j - 1) ≤ at0 l j) : SrtOn lo (i + 1) l := by
  intro p q h1 h2 h3
  by_cases e1 : p = j
  · subst e1; exact h.b q h2 (by omega)
  · by_cases e2 : q = j
    · subst e2
      rcases he with he | he
      · omega
      · by_cases e3 : p = q - 1
        · subst e3; exact he
        · have := h.a p (q - 1) h1 (by omega) (by omega) e1 (by omega)
          omega
    · exact h.a p q h1 h2 (by omega) e1 e2
theorem c161 (E : Env) (S : Ents) (a : Int) : CallW Tryz.prog E 161 #[iv a] S fun r S' => r = .bool false ∧ S' = S := by
  refine call_in (args := [iv a]) Tryz.func161 (by decide) rfl rfl ?_
  repeat' first|(refine gX ?_;first|refine o_v rfl rfl ?_)|refine o_head0 rfl ?_|refine o_end ?_|refine o_head1 rfl ?_|refine wp_seq ?_|refine o_region ?_|refine w_ret (S) (vs:=[_]) rfl (Res.tmp rfl Res.nil) ?_
  all_goals(simp_all [pack]<;>(try omega))
theorem c201 (E : Env) (S : Ents) (a b : Int) : CallW Tryz.prog E 201 #[iv a, iv b] S fun r S' => r = .bool (decide (a < b)) ∧ S' = S := by
  refine call_in (args := [iv a, iv b]) Tryz.func201 (by decide) rfl rfl ?_
  repeat' first|(refine gX ?_;first|refine o_v rfl rfl ?_|(refine o_splitD rfl rfl rfl ?_ ?_<;>intro h)|(refine o_split rfl rfl rfl ?_ ?_<;>intro h<;>fail_if_success exact Bool.noConfusion h)|(refine gC ?_;first|refine o_callF rfl rfl rfl (c161 _ _ _) ?_)|refine o_skip rfl rfl ?_|refine o_skipN rfl rfl ?_|(refine o_splitP rfl ?_ ?_<;>intro h<;>fail_if_success exact Bool.noConfusion h))|refine o_head0 rfl ?_|refine o_end ?_|refine o_head1 rfl ?_|refine wp_seq ?_|refine o_region ?_|refine w_ret (S) (vs:=[_]) rfl (Res.tmp rfl Res.nil) ?_
  all_goals(simp_all [pack]<;>(try omega))
theorem c205 (E : Env) (S : Ents) (a : Int) : CallW Tryz.prog E 205 #[.int .u64 a] S fun r S' => (∃ k : Nat, k ≤ 400 ∧ r = iv k) ∧ S' = S := by
  refine call_in (args := [.int .u64 a]) Tryz.func205 (by decide) rfl rfl ?_
  have hw : ∀ q : Int, 0 ≤ IntKind.u8.wrap q ∧ IntKind.u8.wrap q ≤ 255 := fun q => by
    unfold IntKind.wrap
    simp [IntKind.signed, IntKind.bits]
    omega
  repeat' first|(refine gX ?_;first|refine o_v rfl rfl ?_|(refine gB ?_;first|refine o_add rfl rfl rfl rfl (by omega) ?_)|refine o_shr rfl rfl rfl rfl (by decide +kernel) ?_|(refine o_idxStr rfl rfl rfl rfl (hw _) (by decide +kernel) ?_;intro bb hbb)|refine o_conv rfl rfl rfl rfl rfl (wrap_in (by omega) (by omega)) ?_|refine o_conv rfl rfl rfl rfl rfl rfl ?_)|refine o_head0 rfl ?_|refine o_end ?_|refine o_head1 rfl ?_|refine wp_seq ?_|refine o_region ?_|refine wp_skip ?_|(refine w_condD rfl ?_ ?_<;>intro h)|(refine w_cond rfl ?_ ?_<;>intro h<;>try exact Bool.noConfusion h)|refine w_ret (S) (vs:=[_]) rfl (Res.tmp rfl Res.nil) ?_
  all_goals refine ⟨⟨_, ?_, rfl⟩, rfl⟩
  all_goals exact Nat.le_trans (Nat.add_le_add_left hbb _) (by decide)
theorem c189 (E : Env) (S : Ents) (a : Int) : CallW Tryz.prog E 189 #[.int .u64 a] S fun r S' => (∃ k : Nat, k ≤ 400 ∧ r = iv k) ∧ S' = S := by
  refine call_in (args := [.int .u64 a]) Tryz.func189 (by decide) rfl rfl ?_
  repeat' first|(refine gX ?_;first|refine o_v rfl rfl ?_|(refine gC ?_;first|(refine o_callZ rfl rfl rfl (c205 _ _ _) ?_;rintro r S1 ⟨⟨k, hk, rfl⟩, rfl⟩;refine ⟨inferInstance, ?_⟩)))|refine o_head0 rfl ?_|refine o_end ?_|refine o_head1 rfl ?_|refine wp_seq ?_|refine o_region ?_|refine wp_skip ?_|(refine w_condD rfl ?_ ?_<;>intro h)|(refine w_cond rfl ?_ ?_<;>intro h<;>try exact Bool.noConfusion h)|refine w_retA (vs:=[_]) rfl (Res.tmp rfl Res.nil) ?_|refine w_ret (S) (vs:=[_]) rfl (Res.tmp rfl Res.nil) ?_
  exact ⟨⟨k, hk, rfl⟩, rfl⟩
theorem c195 (E : Env) (S0 Δ : Ents) (xs : List Int) (a : Option Addr) (len cap lo hi : Nat) (ho : Own (.slice a len cap) xs Δ) (hlh : lo ≤ hi) (hh : hi ≤ xs.length) (hm : xs.length ≤ 4000000) :
    CallW Tryz.prog E 195 #[.slice a len cap, iv lo, iv hi] (Δ ++ S0) fun r S' => ∃ ys Δ', Own (.slice a len cap) ys Δ' ∧ Seg lo hi xs ys ∧ SrtOn lo hi ys ∧ S' = Δ' ++ S0 := by
  have hlen : len = xs.length := by obtain ⟨_, _, h, _⟩ := ho.slv; cases h; rfl
  refine call_in (args := [.slice a len cap, iv lo, iv hi]) Tryz.func195 (by decide) rfl rfl ?_
  repeat' first|(refine gX ?_;first|refine o_v rfl rfl ?_|(refine o_splitD rfl rfl rfl ?_ ?_<;>intro h)|(refine o_split rfl rfl rfl ?_ ?_<;>intro h<;>fail_if_success exact Bool.noConfusion h)|(refine gL ?_;first|refine o_load rfl rfl rfl rfl ?_|refine o_loadR rfl rfl rfl (by omega) rfl rfl ?_|refine o_loadW rfl rfl rfl rfl ?_|refine o_loadK rfl rfl rfl ?_)|(refine gB ?_;first|refine o_add rfl rfl rfl rfl (by omega) ?_|refine o_sub rfl rfl rfl rfl (by omega) ?_)|(refine gI ?_;first|refine o_indexS rfl rfl rfl rfl rfl rfl (by omega) ?_|refine o_index rfl rfl rfl rfl rfl (by omega) ?_)|(refine gS ?_;first|refine o_store rfl rfl rfl rfl rfl rfl ?_|refine o_storeW rfl rfl rfl rfl rfl rfl ?_)|refine o_skip rfl rfl ?_|refine o_skipN rfl rfl ?_|(refine o_splitP rfl ?_ ?_<;>intro h<;>fail_if_success exact Bool.noConfusion h))|refine o_head0 rfl ?_|refine o_end ?_|refine o_head1 rfl ?_|refine wp_seq ?_|refine o_region ?_|refine wp_block ?_|refine wp_skip ?_|refine wp_exit ?_|(refine w_condD rfl ?_ ?_<;>intro h)|(refine w_cond rfl ?_ ?_<;>intro h<;>try exact Bool.noConfusion h)|refine w_ret (S) (vs:=[]) rfl Res.nil ?_|(show WP _ _ _ _ (.region 4 _ true) _ _ _ _;refine o_drawnZ [Zf 0,Zf 1,Zf 2,Zf 3,Zf 4,Zf 5,Zf 6,Zf 7,Zf 8,Zf 9,Zf 10,Zf 11,Zf 12,Zt 13,Zf 14] [] mixed (by kernel_rfl) (List.nil_sublist _) ?_)|(show WP _ _ _ _ (.region 6 _ true) _ _ _ _;refine o_drawnZ [Zf 0,Zf 1,Zt 2,Zt 3,Zt 4,Zf 5,Zf 6,Zf 7,Zf 8,Zf 9,Zf 10,Zf 11,Zf 12,Zf 13,Zf 14,Zf 15,Zf 16,Zt 17] [] mixed (by kernel_rfl) (List.nil_sublist _) ?_)
  refine wp_loop (fun m t ds S' => ∃ (i : Nat) (t0 : Tm) (ys : List Int) (Δ : Ents), m = hi + 1 - i ∧ lo < i ∧ (i ≤ hi ∨ i = lo + 1) ∧ [] = ds ∧ Δ ++ S0 = S' ∧ t = den [(6, iv i), (0, .slice a len cap), (1, iv lo), (2, iv hi)] t0 ∧ Own (.slice a len cap) ys Δ ∧ Seg lo hi xs ys ∧ SrtOn lo i ys)
    _ ⟨lo + 1, _, xs, Δ, rfl, by omega, .inr rfl, rfl, rfl, keep ⟨rfl, rfl, rfl, rfl, trivial⟩, ho, Seg.refl _ _ _, fun p q h1 h2 h3 => absurd h1 (by omega)⟩ ?_
  clear ho
  rintro m t ds S' ⟨i, t0, ys, Δ, rfl, hi1, hi2, rfl, rfl, rfl, ho, hsg, hst⟩
  repeat' first|(refine gX ?_;first|refine o_v rfl rfl ?_|(refine o_splitD rfl rfl rfl ?_ ?_<;>intro h)|(refine o_split rfl rfl rfl ?_ ?_<;>intro h<;>fail_if_success exact Bool.noConfusion h)|(refine gL ?_;first|refine o_load rfl rfl rfl rfl ?_|refine o_loadR rfl rfl rfl (by omega) rfl rfl ?_|refine o_loadW rfl rfl rfl rfl ?_|refine o_loadK rfl rfl rfl ?_)|(refine gB ?_;first|refine o_add rfl rfl rfl rfl (by omega) ?_|refine o_sub rfl rfl rfl rfl (by omega) ?_)|(refine gI ?_;first|refine o_indexS rfl rfl rfl rfl rfl rfl (by omega) ?_|refine o_index rfl rfl rfl rfl rfl (by omega) ?_)|(refine gS ?_;first|refine o_store rfl rfl rfl rfl rfl rfl ?_|refine o_storeW rfl rfl rfl rfl rfl rfl ?_)|refine o_skip rfl rfl ?_|refine o_skipN rfl rfl ?_|(refine o_splitP rfl ?_ ?_<;>intro h<;>fail_if_success exact Bool.noConfusion h))|refine o_head0 rfl ?_|refine o_end ?_|refine o_head1 rfl ?_|refine wp_seq ?_|refine o_region ?_|refine wp_block ?_|refine wp_skip ?_|refine wp_exit ?_|(refine w_condD rfl ?_ ?_<;>intro h)|(refine w_cond rfl ?_ ?_<;>intro h<;>try exact Bool.noConfusion h)|refine w_retA (vs:=[]) rfl Res.nil ?_|refine w_ret (S) (vs:=[]) rfl Res.nil ?_|(show WP _ _ _ _ (.region 4 _ true) _ _ _ _;refine o_drawnZ [Zf 0,Zf 1,Zf 2,Zf 3,Zf 4,Zf 5,Zf 6,Zf 7,Zf 8,Zf 9,Zf 10,Zf 11,Zf 12,Zt 13,Zf 14] [] mixed (by kernel_rfl) (List.nil_sublist _) ?_)|(show WP _ _ _ _ (.region 6 _ true) _ _ _ _;refine o_drawnZ [Zf 0,Zf 1,Zt 2,Zt 3,Zt 4,Zf 5,Zf 6,Zf 7,Zf 8,Zf 9,Zf 10,Zf 11,Zf 12,Zf 13,Zf 14,Zf 15,Zf 16,Zt 17] [] mixed (by kernel_rfl) (List.nil_sublist _) ?_)
  · refine wp_loop (fun m t ds S' => ∃ (j : Nat) (t0 : Tm) (ys : List Int) (Δ : Ents), m = j - lo ∧ lo ≤ j ∧ j ≤ i ∧ [] = ds ∧ Δ ++ S0 = S' ∧ t = den [(7, iv j), (6, iv i), (0, .slice a len cap), (1, iv lo), (2, iv hi)] t0 ∧ Own (.slice a len cap) ys Δ ∧ Seg lo hi xs ys ∧ Alm lo i j ys)
      _ ⟨i, _, ys, Δ, rfl, by omega, Nat.le_refl _, rfl, rfl, keep ⟨rfl, rfl, rfl, rfl, rfl, trivial⟩, ho, hsg, Alm.start hst⟩ ?_
    clear ho hsg hst
    rintro m t ds S' ⟨j, t0, ys, Δ, rfl, hj1, hj2, rfl, rfl, rfl, ho, hsg, hst⟩
    obtain ⟨_, hrt⟩ := ho.sla
    have i6 := SlI.mk hrt
    have hyl := hsg.len
    repeat' first|(refine gX ?_;first|refine o_v rfl rfl ?_|(refine o_splitD rfl rfl rfl ?_ ?_<;>intro h)|(refine o_split rfl rfl rfl ?_ ?_<;>intro h<;>fail_if_success exact Bool.noConfusion h)|(refine gL ?_;first|refine o_load rfl rfl rfl rfl ?_|refine o_loadR rfl rfl rfl (by omega) rfl rfl ?_|refine o_loadW rfl rfl rfl rfl ?_|refine o_loadK rfl rfl rfl ?_)|(refine gB ?_;first|refine o_add rfl rfl rfl rfl (by omega) ?_|refine o_sub rfl rfl rfl rfl (by omega) ?_)|(refine gC ?_;first|refine o_callF rfl rfl rfl (c201 _ _ _ _) ?_)|(refine gI ?_;first|refine o_indexZ (j - 1) rfl rfl rfl rfl rfl (hlen.trans hyl.symm) (by omega) (by omega) ?_|refine o_indexS rfl rfl rfl rfl rfl (hlen.trans hyl.symm) (by omega) ?_|refine o_indexZ (j - 1) rfl rfl rfl rfl rfl ((hlen.trans hyl.symm).trans List.length_set.symm) (by omega) (by rw [List.length_set]; omega) ?_|refine o_indexS rfl rfl rfl rfl rfl rfl (by omega) ?_|refine o_index rfl rfl rfl rfl rfl (by omega) ?_)|(refine gS ?_;first|(refine o_storeO (ys[j - 1]'(by first|done|omega)) rfl rfl rfl ho (by omega) rfl rfl rfl rfl ?_;intro Δ2 ho2;refine ⟨_, inferInstance, ?_⟩;obtain ⟨_, hrt2⟩ := ho2.sla;have i7 := SlI.mk hrt2)|(refine o_storeO (ys[j]'(by first|done|omega)) rfl rfl rfl ho2 (by rw [List.length_set]; omega) rfl rfl rfl rfl ?_;intro Δ3 ho3;refine ⟨_, inferInstance, ?_⟩)|refine o_store rfl rfl rfl rfl rfl rfl ?_|refine o_storeW rfl rfl rfl rfl rfl rfl ?_)|refine o_skip rfl rfl ?_|refine o_skipN rfl rfl ?_|(refine o_splitP rfl ?_ ?_<;>intro h<;>fail_if_success exact Bool.noConfusion h))|refine o_head0 rfl ?_|refine o_end ?_|refine o_head1 rfl ?_|refine wp_seq ?_|refine o_region ?_|refine wp_block ?_|refine wp_skip ?_|refine wp_exit ?_|(refine w_condD rfl ?_ ?_<;>intro h)|(refine w_cond rfl ?_ ?_<;>intro h<;>try exact Bool.noConfusion h)|refine w_ret (S) (vs:=[]) rfl Res.nil ?_|(show WP _ _ _ _ (.region 4 _ true) _ _ _ _;refine o_drawnZ [Zf 0,Zf 1,Zf 2,Zf 3,Zf 4,Zf 5,Zf 6,Zf 7,Zf 8,Zf 9,Zf 10,Zf 11,Zf 12,Zt 13,Zf 14] [] mixed (by kernel_rfl) (List.nil_sublist _) ?_)|(show WP _ _ _ _ (.region 6 _ true) _ _ _ _;refine o_drawnZ [Zf 0,Zf 1,Zt 2,Zt 3,Zt 4,Zf 5,Zf 6,Zf 7,Zf 8,Zf 9,Zf 10,Zf 11,Zf 12,Zf 13,Zf 14,Zf 15,Zf 16,Zt 17] [] mixed (by kernel_rfl) (List.nil_sublist _) ?_)
    · simp only [at0_get] at ho3 h
      exact ⟨j - 1 - lo, by omega, _, List.Sublist.refl _, j - 1, _, _, Δ3, rfl, by omega, by omega, rfl, rfl, keep ⟨congrArg (fun q : Int => some (iv q)) (show (j : Int) - 1 = ((j - 1 : Nat) : Int) by omega), rfl, rfl, rfl, rfl, trivial⟩, ho3, hsg.trans (Seg.sw (by omega) (by omega) (by omega) (by omega) (by omega)), hst.step (by omega) hj2 (by omega) h⟩
    · simp only [at0_get] at h
      exact ⟨hi + 1 - (i + 1), by omega, _, List.Sublist.refl _, i + 1, _, _, Δ, rfl, by omega, .inl (by omega), rfl, rfl, keep ⟨rfl, rfl, rfl, rfl, trivial⟩, ho, hsg, hst.done hj1 hj2 (.inr (by omega))⟩
    · exact ⟨hi + 1 - (i + 1), by omega, _, List.Sublist.refl _, i + 1, _, _, Δ, rfl, by omega, .inl (by omega), rfl, rfl, keep ⟨rfl, rfl, rfl, rfl, trivial⟩, ho, hsg, hst.done hj1 hj2 (.inl (by omega))⟩
  · refine w_fall (res_sem Res.nil ?_)
    exact ⟨ys, Δ, ho, hsg, fun p q h1 h2 h3 => hst p q h1 h2 (by omega), rfl⟩
theorem c188s (E : Env) (S0 Δ : Ents) (xs : List Int) (a : Option Addr) (len cap lo hi lim : Nat) (ho : Own (.slice a len cap) xs Δ) (hlh : lo ≤ hi) (hh : hi ≤ xs.length) (hm : xs.length ≤ 4000000) (h12 : hi ≤ lo + 12) :
    CallW Tryz.prog E 188 #[.slice a len cap, iv lo, iv hi, iv lim] (Δ ++ S0) fun r S' => ∃ ys Δ', Own (.slice a len cap) ys Δ' ∧ Seg lo hi xs ys ∧ SrtOn lo hi ys ∧ S' = Δ' ++ S0 := by
  refine call_in (args := [.slice a len cap, iv lo, iv hi, iv lim]) Tryz.func188 (by decide) rfl rfl ?_
  repeat' first|(refine gX ?_;first|refine o_v rfl rfl ?_|(refine o_splitD rfl rfl rfl ?_ ?_<;>intro h)|(refine o_split rfl rfl rfl ?_ ?_<;>intro h<;>fail_if_success exact Bool.noConfusion h)|(refine gL ?_;first|refine o_load rfl rfl rfl rfl ?_|refine o_loadR rfl rfl rfl (by omega) rfl rfl ?_|refine o_loadW rfl rfl rfl rfl ?_|refine o_loadK rfl rfl rfl ?_)|(refine gB ?_;first|refine o_add rfl rfl rfl rfl (by omega) ?_|refine o_sub rfl rfl rfl rfl (by omega) ?_|refine o_eqNil rfl rfl rfl rfl rfl ?_)|(refine gI ?_;first|refine o_indexS rfl rfl rfl rfl rfl rfl (by omega) ?_|refine o_index rfl rfl rfl rfl rfl (by omega) ?_)|refine o_skip rfl rfl ?_|refine o_skipN rfl rfl ?_|(refine o_splitP rfl ?_ ?_<;>intro h<;>fail_if_success exact Bool.noConfusion h))|refine o_head0 rfl ?_|refine o_end ?_|refine o_head1 rfl ?_|refine wp_seq ?_|refine o_region ?_|refine wp_block ?_|refine wp_skip ?_|refine wp_exit ?_|(refine w_condD rfl ?_ ?_<;>intro h)|(refine w_cond rfl ?_ ?_<;>intro h<;>try exact Bool.noConfusion h)|refine w_ret (S) (vs:=[]) rfl Res.nil ?_|(show WP _ _ _ _ (.region 17 _ true) _ _ _ _;refine o_drawnZ [Zf 0,Zf 1,Zf 2,Zf 3,Zf 4,Zf 5,Zf 6,Zf 7,Zf 8,Zf 9,Zf 10,Zf 11,Zt 12,Zf 13,Zf 14] [] mixed (by kernel_rfl) (List.nil_sublist _) ?_)
  refine wp_loop (fun m t ds S' => ∃ (t0 : Tm), m = 0 ∧ [] = ds ∧ Δ ++ S0 = S' ∧ t = den [(0, .slice a len cap), (1, iv lo), (2, iv hi), (3, iv lim)] t0) _ ⟨_, rfl, rfl, rfl, keep ⟨rfl, rfl, rfl, rfl, trivial⟩⟩ ?_
  rintro m t ds S' ⟨t0, rfl, rfl, rfl, rfl⟩
  repeat' first|(refine gX ?_;first|refine o_v rfl rfl ?_|(refine o_splitD rfl rfl rfl ?_ ?_<;>intro h)|(refine o_split rfl rfl rfl ?_ ?_<;>intro h<;>fail_if_success exact Bool.noConfusion h)|(refine gL ?_;first|refine o_load rfl rfl rfl rfl ?_|refine o_loadR rfl rfl rfl (by omega) rfl rfl ?_|refine o_loadW rfl rfl rfl rfl ?_|refine o_loadK rfl rfl rfl ?_)|(refine gB ?_;first|refine o_add rfl rfl rfl rfl (by omega) ?_|refine o_sub rfl rfl rfl rfl (by omega) ?_|refine o_eqNil rfl rfl rfl rfl rfl ?_)|(refine gC ?_;first|(refine o_callZ rfl rfl rfl (c195 _ S0 Δ xs a len cap lo hi ho hlh hh hm) ?_;rintro r _ ⟨ys, Δ', ho', hsg, hst, rfl⟩;refine ⟨inferInstance, ?_⟩))|(refine gI ?_;first|refine o_indexS rfl rfl rfl rfl rfl rfl (by omega) ?_|refine o_index rfl rfl rfl rfl rfl (by omega) ?_)|refine o_skip rfl rfl ?_|refine o_skipN rfl rfl ?_|(refine o_splitP rfl ?_ ?_<;>intro h<;>fail_if_success exact Bool.noConfusion h))|refine o_head0 rfl ?_|refine o_end ?_|refine o_head1 rfl ?_|(refine w_condD rfl ?_ ?_<;>intro h<;>try (exact absurd (by omega) h))|refine wp_seq ?_|refine o_region ?_|refine wp_block ?_|refine wp_skip ?_|refine wp_exit ?_|(refine w_condD rfl ?_ ?_<;>intro h)|(refine w_cond rfl ?_ ?_<;>intro h<;>try exact Bool.noConfusion h)|refine w_retA (vs:=[]) rfl Res.nil ?_|refine w_ret (S) (vs:=[]) rfl Res.nil ?_|(show WP _ _ _ _ (.region 17 _ true) _ _ _ _;refine o_drawnZ [Zf 0,Zf 1,Zf 2,Zf 3,Zf 4,Zf 5,Zf 6,Zf 7,Zf 8,Zf 9,Zf 10,Zf 11,Zt 12,Zf 13,Zf 14] [] mixed (by kernel_rfl) (List.nil_sublist _) ?_)
  exact ⟨ys, Δ', ho', hsg, hst, rfl⟩
def SortOk (xs : List Int) : Prop := ∀ (E : Env) (S0 Δ : Ents) (a : Option Addr) (cap lim : Nat), Own (.slice a xs.length cap) xs Δ → lim ≤ 400 →
    CallW Tryz.prog E 188 #[.slice a xs.length cap, iv (0 : Nat), iv xs.length, iv lim] (Δ ++ S0) fun r S' => ∃ ys Δ', Own (.slice a xs.length cap) ys Δ' ∧ Seg 0 xs.length xs ys ∧ SrtOn 0 xs.length ys ∧ S' = Δ' ++ S0
theorem sortOk_short {xs : List Int} (h : xs.length ≤ 12) : SortOk xs := fun E S0 Δ a cap lim ho hl => c188s E S0 Δ xs a _ cap 0 xs.length lim ho (Nat.zero_le _) (Nat.le_refl _) (by omega) (by omega)
def srtL (xs : List Int) : List Int := xs.mergeSort
theorem srtL_perm (xs : List Int) : (srtL xs).Perm xs := List.mergeSort_perm xs _
theorem srtL_len (xs : List Int) : (srtL xs).length = xs.length := (srtL_perm xs).length_eq
theorem srtL_pair (xs : List Int) : (srtL xs).Pairwise (fun a b => a ≤ b) := by
  have := List.pairwise_mergeSort (le := fun a b : Int => decide (a ≤ b)) (fun a b c h1 h2 => by simp at *; omega) (fun a b => by simp; omega) xs
  exact this.imp fun h => by simpa using h
theorem srtOn_pair {l : List Int} (h : SrtOn 0 l.length l) : l.Pairwise (fun a b => a ≤ b) := by
  rw [List.pairwise_iff_getElem]
  intro i j hi hj hij
  have := h i j (Nat.zero_le _) hij hj
  rwa [← at0_get hi, ← at0_get hj] at this
theorem srtL_eq {xs ys : List Int} (h1 : ys.Perm xs) (h2 : SrtOn 0 ys.length ys) : ys = srtL xs :=
  List.Perm.eq_of_pairwise (le := fun a b : Int => a ≤ b) (fun a b _ _ h1 h2 => by omega) (srtOn_pair h2) (srtL_pair xs) (h1.trans (srtL_perm xs).symm)
theorem c167 (E : Env) (S0 Δ : Ents) (xs : List Int) (a : Option Addr) (cap : Nat) (ho : Own (.slice a xs.length cap) xs Δ) (hs : SortOk xs) (hm : xs.length ≤ 4000000) :
    CallW Tryz.prog E 167 #[.slice a xs.length cap] (Δ ++ S0) fun r S' => ∃ Δ', Own (.slice a xs.length cap) (srtL xs) Δ' ∧ S' = Δ' ++ S0 := by
  refine call_in (args := [.slice a xs.length cap]) Tryz.func167 (by decide) rfl rfl ?_
  have hwr : IntKind.u64.wrap (xs.length : Int) = (xs.length : Int) := by
    unfold IntKind.wrap
    simp [IntKind.signed, IntKind.bits]
    omega
  repeat' first|(refine gX ?_;first|refine o_v rfl rfl ?_|(refine gC ?_;first|(refine o_callZ rfl rfl rfl (c189 _ _ _) ?_;rintro r S1 ⟨⟨k, hk, rfl⟩, rfl⟩;refine ⟨inferInstance, ?_⟩)|(refine o_callZ rfl rfl rfl (hs _ S0 Δ a cap k ho hk) ?_;rintro r _ ⟨ys, Δ', ho', hsg, hst, rfl⟩;refine ⟨inferInstance, ?_⟩))|refine o_conv rfl rfl rfl rfl rfl hwr ?_)|refine o_head0 rfl ?_|refine o_end ?_|refine o_head1 rfl ?_|refine wp_seq ?_|refine o_region ?_|refine w_retA (vs:=[]) rfl Res.nil ?_|refine w_ret (S) (vs:=[]) rfl Res.nil ?_
  refine w_fall (res_sem Res.nil ?_)
  rw [← srtL_eq hsg.perm (by rw [hsg.len]; exact hst)]
  exact ⟨Δ', ho', rfl⟩
end Go.Proofs.YtpnnmklacialgaaGreat
