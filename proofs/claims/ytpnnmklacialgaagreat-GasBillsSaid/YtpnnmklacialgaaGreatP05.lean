/- What is known of a period, as a tree of mains: what each feeds, what it lets through.
   What lamps burnt, and what leaked, at a main.
   The entries of a period that count, yielded one by one.
   What is known of a period, in plain terms, and its bounds.
   The tree of a period. -/
import Derived.Test.YtpnnmklacialgaaGreatP04
set_option linter.unusedVariables false
set_option linter.unusedSimpArgs false
namespace Go.Proofs.YtpnnmklacialgaaGreat
open Go.Conc
attribute [local irreducible] WP OpF OpX CallW SemH retQ AnyF
theorem wp_cut {P : Program} {E : Env} {fn n : Nat} {x y : Code} {Q : Post} {t : Tm} {ds : List Deferred} {S : Ents} (M : Tm → List Deferred → Ents → Prop) (h1 : WP P E fn n x (seqQ (fun t ds S' => ∃ S'', List.Sublist S'' S' ∧ M t ds S'') Q) t ds S)
    (h2 : ∀ t ds S, M t ds S → WP P E fn n y Q t ds S) : WP P E fn n (.seq x y) Q t ds S := by
  refine wp_seq (h1.mono fun e t' ds' S' hq => ?_)
  cases e with
  | normal => obtain ⟨S'', hs, hm⟩ := hq; exact (h2 _ _ _ hm).sub hs
  | exit id => exact hq
  | ret => exact hq
  | goto l => exact hq
  | panic c => exact hq
  | outgrown => exact hq
structure TreeP (c : Array Value) (a : Value) (u p h : List RangeG) (ev : Bool) : Prop where
  size : c.size = 78
  mains : c[0]? = some a
  used : IsRow c 5 u
  up : IsRow c 29 p
  through : IsRow c 53 h
  even : c[77]? = some (.bool ev)
  lu : u.length = 12
  lp : p.length = 12
  lh : h.length = 12
theorem setO_range {x y : RangeG} : setO 0 (rangeC y).toList (encRange.enc x).toList = some (encRange.enc y).toList := rfl
theorem range_len {x : RangeG} : (rangeC x).toList.length = 2 := rfl
theorem TreeP.setU {c c' : Array Value} {a : Value} {u p h : List RangeG} {ev : Bool} (t : TreeP c a u p h ev) {j : Nat} (hj : j < 12) {x : RangeG} (hc : c' = setCells c (5 + j * 2 + 0) (rangeC x).toList) : TreeP c' a (u.set j x) p h ev := by
  subst hc
  refine ⟨by rw [setCells_size 0]; exact t.size, ?_, t.used.setIn (by rw [t.lu]; exact hj) setO_range, t.up.setOut (.inl (by rw [range_len]; omega)), t.through.setOut (.inl (by rw [range_len]; omega)), ?_, by rw [List.length_set]; exact t.lu, t.lp, t.lh⟩
  · rw [setCells_get, if_neg (by omega)]; exact t.mains
  · rw [setCells_get, if_neg (by rw [range_len]; omega)]; exact t.even
theorem TreeP.setP {c c' : Array Value} {a : Value} {u p h : List RangeG} {ev : Bool} (t : TreeP c a u p h ev) {j : Nat} (hj : j < 12) {x : RangeG} (hc : c' = setCells c (29 + j * 2 + 0) (rangeC x).toList) : TreeP c' a u (p.set j x) h ev := by
  subst hc
  refine ⟨by rw [setCells_size 0]; exact t.size, ?_, t.used.setOut (.inr (by rw [t.lu]; show 5 + 12 * 2 ≤ _; omega)), t.up.setIn (by rw [t.lp]; exact hj) setO_range, t.through.setOut (.inl (by rw [range_len]; omega)), ?_, t.lu, by rw [List.length_set]; exact t.lp, t.lh⟩
  · rw [setCells_get, if_neg (by omega)]; exact t.mains
  · rw [setCells_get, if_neg (by rw [range_len]; omega)]; exact t.even
theorem TreeP.setH {c c' : Array Value} {a : Value} {u p h : List RangeG} {ev : Bool} (t : TreeP c a u p h ev) {j : Nat} (hj : j < 12) {x : RangeG} (hc : c' = setCells c (53 + j * 2 + 0) (rangeC x).toList) : TreeP c' a u p (h.set j x) ev := by
  subst hc
  refine ⟨by rw [setCells_size 0]; exact t.size, ?_, t.used.setOut (.inr (by rw [t.lu]; show 5 + 12 * 2 ≤ _; omega)), t.up.setOut (.inr (by rw [t.lp]; show 29 + 12 * 2 ≤ _; omega)), t.through.setIn (by rw [t.lh]; exact hj) setO_range, ?_, t.lu, t.lp, by rw [List.length_set]; exact t.lh⟩
  · rw [setCells_get, if_neg (by omega)]; exact t.mains
  · rw [setCells_get, if_neg (by rw [range_len]; omega)]; exact t.even
theorem TreeP.setE {c c' : Array Value} {a : Value} {u p h : List RangeG} {ev ev' : Bool} (t : TreeP c a u p h ev) (hc : c' = setCells c 77 [.bool ev']) : TreeP c' a u p h ev' := by
  subst hc
  refine ⟨by rw [setCells_size 0]; exact t.size, ?_, t.used.setOut (.inr (by rw [t.lu]; show 5 + 12 * 2 ≤ _; omega)), t.up.setOut (.inr (by rw [t.lp]; show 29 + 12 * 2 ≤ _; omega)), t.through.setOut (.inr (by rw [t.lh]; show 53 + 12 * 2 ≤ _; omega)), ?_, t.lu, t.lp, t.lh⟩
  · rw [setCells_get, if_neg (by omega)]; exact t.mains
  · rw [setCells_get, if_pos ⟨by omega, by simp, by rw [t.size]; omega⟩]; rfl
def belowT (ms : List MainG) (id : Int) (j : Nat) : List Nat := (List.range j).filter fun i => match ms[i]? with | some m => decide (m.up = id) | none => false
def belowN (ms : List MainG) (id : Int) : List Nat := belowT ms id ms.length
def natI (l : List Nat) : List Int := l.map fun (i : Nat) => (i : Int)
theorem belowT_succ {ms : List MainG} {id : Int} {j : Nat} (h : j < ms.length) : belowT ms id (j + 1) = belowT ms id j ++ (if ms[j].up = id then [j] else []) := by
  unfold belowT
  rw [List.range_succ, List.filter_append]
  congr 1
  simp only [List.filter_cons, List.filter_nil, List.getElem?_eq_getElem h]
  by_cases hu : ms[j].up = id <;> simp [hu]
theorem natI_app {l m : List Nat} : natI (l ++ m) = natI l ++ natI m := by simp [natI]
theorem belowT_len {ms : List MainG} {id : Int} {j : Nat} : (belowT ms id j).length ≤ j := by
  have := List.length_filter_le (fun i => match ms[i]? with | some m => decide (m.up = id) | none => false) (List.range j)
  simpa [belowT] using this
theorem natI_len {l : List Nat} : (natI l).length = l.length := by simp [natI]
theorem c105 (E : Env) (S : Ents) (b : Nat) (mn : Bool) (c : Array Value) (fz : Nat × Nat) (ms : List MainG) (v : Value) (id : Int) (hin : (⟨b, mn, .cells c 140 fz⟩ : Ent) ∈ S) (hc : c[0]? = some v) (hv : SlV S v ms) (hm : ms.length ≤ 12) :
    CallW Tryz.prog E 105 #[.pointer (some ⟨b, 0, none⟩), iv id] S fun r S' => ∃ Δ, Own r (natI (belowN ms id)) Δ ∧ S' = Δ ++ S := by
  obtain ⟨q, cp, rfl, _, hr⟩ := hv
  have := SlI.mk hr
  have : InS b S mn (.cells c 140 fz) := ⟨hin⟩
  have : CellI c (0 + 0 + 0) (.slice q ms.length cp) := ⟨hc⟩
  refine call_in (args := [.pointer (some ⟨b, 0, none⟩), iv id]) Tryz.func105 (by decide) rfl rfl ?_
  repeat' first|(refine gX ?_;first|refine o_v rfl rfl ?_|(refine gL ?_;first|refine o_load rfl rfl rfl rfl ?_|refine o_loadR rfl rfl rfl (by omega) rfl rfl ?_|refine o_loadW rfl rfl rfl rfl ?_|refine o_loadK rfl rfl rfl ?_)|(refine gF ?_;first|refine o_fieldI rfl rfl rfl rfl ?_|refine o_field rfl rfl rfl rfl ?_)|(refine gB ?_;first|refine o_add rfl rfl rfl rfl (by omega) ?_|refine o_eqNil rfl rfl rfl rfl rfl ?_)|(refine gI ?_;first|refine o_indexS rfl rfl rfl rfl rfl rfl (by omega) ?_|refine o_index rfl rfl rfl rfl rfl (by omega) ?_)|(refine gS ?_;first|refine o_store rfl rfl rfl rfl rfl rfl ?_|refine o_storeW rfl rfl rfl rfl rfl rfl ?_)|(refine o_allocZ rfl rfl ?_;intro _)|(refine o_bslice rfl rfl rfl rfl rfl rfl rfl ?_;intro _))|refine o_head0 rfl ?_|refine o_end ?_|refine o_head1 rfl ?_|refine wp_seq ?_|refine o_region ?_|refine wp_block ?_|refine wp_skip ?_|refine wp_exit ?_|(refine w_condD rfl ?_ ?_<;>intro h)|(refine w_cond rfl ?_ ?_<;>intro h<;>try exact Bool.noConfusion h)|refine w_ret (S) (vs:=[_]) rfl (Res.tmp rfl Res.nil) ?_
  refine wp_loop (fun i t ds S' => ∃ (j : Nat) (t0 : Tm) (w : Value) (Δ : Ents), i = ms.length - j ∧ j ≤ ms.length ∧ [] = ds ∧ Δ ++ S = S' ∧ t = den [(14, .int .i64 j), (13, .int .i64 ms.length), (12, .slice q ms.length cp), (5, w), (1, iv id)] t0 ∧ Own w (natI (belowT ms id j)) Δ)
    ms.length ⟨0, _, _, [], rfl, Nat.zero_le _, rfl, rfl, keep ⟨rfl, rfl, rfl, rfl, rfl, trivial⟩, .nil⟩ ?_
  rintro i t ds S' ⟨j, t0, w, Δ, rfl, hj, rfl, rfl, rfl, ho⟩
  repeat' first|(refine gX ?_;first|refine o_v rfl rfl ?_|(refine gL ?_;first|refine o_load rfl rfl rfl rfl ?_|refine o_loadR rfl rfl rfl (by omega) rfl rfl ?_|refine o_loadW rfl rfl rfl rfl ?_|refine o_loadK rfl rfl rfl ?_)|(refine gF ?_;first|refine o_fieldI rfl rfl rfl rfl ?_|refine o_field rfl rfl rfl rfl ?_)|(refine gB ?_;first|refine o_add rfl rfl rfl rfl (by omega) ?_|refine o_eqNil rfl rfl rfl rfl rfl ?_)|(refine gC ?_;first|(refine o_append1 (j : Int) rfl rfl rfl rfl ho rfl (by rw [natI_len]; exact Nat.le_trans belowT_len (by omega)) rfl rfl rfl rfl ?_;intro w2 Δ2 ho2;refine ⟨inferInstance, ?_⟩))|(refine gI ?_;first|refine o_indexS rfl rfl rfl rfl rfl rfl (by omega) ?_|refine o_index rfl rfl rfl rfl rfl (by omega) ?_)|(refine gS ?_;first|refine o_store rfl rfl rfl rfl rfl rfl ?_|refine o_storeW rfl rfl rfl rfl rfl rfl ?_)|(refine o_allocZ rfl rfl ?_;intro _)|(refine o_bslice rfl rfl rfl rfl rfl rfl rfl ?_;intro _))|refine o_head0 rfl ?_|refine o_end ?_|refine o_head1 rfl ?_|refine wp_seq ?_|refine o_region ?_|refine wp_block ?_|refine wp_skip ?_|refine wp_exit ?_|(refine w_condD rfl ?_ ?_<;>intro h)|(refine w_cond rfl ?_ ?_<;>intro h<;>try exact Bool.noConfusion h)|refine w_ret (Δ ++ S) (vs:=[_]) rfl (Res.tmp rfl Res.nil) ?_|refine w_ret (S) (vs:=[_]) rfl (Res.tmp rfl Res.nil) ?_
  · rename_i Δ2 ho2
    refine ⟨ms.length - (j + 1), by omega, _, Sb.h, j + 1, _, _, Δ2, rfl, by omega, rfl, rfl, keep ⟨rfl, rfl, rfl, rfl, rfl, trivial⟩, ?_⟩
    rw [belowT_succ (by omega), if_pos (by assumption), natI_app]
    exact ho2
  · refine ⟨ms.length - (j + 1), by omega, _, Sb.h, j + 1, _, _, Δ, rfl, by omega, rfl, rfl, keep ⟨rfl, rfl, rfl, rfl, rfl, trivial⟩, ?_⟩
    rw [belowT_succ (by omega), if_neg (by assumption), List.append_nil]
    exact ho
  · have : j = ms.length := by omega
    subst this
    exact ⟨Δ, ho, rfl⟩
def zR : RangeG := ⟨0, 0⟩
def leakOf (ms : List MainG) (i : Nat) : RangeG := match ms[i]? with | some m => m.leak | none => zR
def idOf (ms : List MainG) (i : Nat) : Int := match ms[i]? with | some m => m.id | none => 0
def partOf (p : List RangeG) (i : Nat) : RangeG := p.getD i zR
def restL (ms : List MainG) (u p : List RangeG) (i : Nat) (but : Int) : List RangeG :=
  ((if but ≠ -1 then [partOf u i] else []) ++ (if but ≠ -2 then [leakOf ms i] else [])) ++ ((belowN ms (idOf ms i)).filter fun (k : Nat) => decide ((k : Int) ≠ but)).map (partOf p)
def restR (ms : List MainG) (u p : List RangeG) (i : Nat) (but : Int) : RangeG := sumR (restL ms u p i but)
theorem partOf_get {p : List RangeG} {i : Nat} (h : i < p.length) : partOf p i = p[i] := by
  unfold partOf; simp [List.getD, h]
theorem mem_below {ms : List MainG} {id : Int} {k : Nat} (h : k ∈ belowN ms id) : k < ms.length := by
  unfold belowN belowT at h
  rw [List.mem_filter] at h
  exact List.mem_range.1 h.1
theorem restL_len {ms : List MainG} {u p : List RangeG} {i : Nat} {but : Int} : (restL ms u p i but).length ≤ ms.length + 2 := by
  unfold restL
  have h1 : ((belowN ms (idOf ms i)).filter fun (k : Nat) => decide ((k : Int) ≠ but)).length ≤ ms.length := Nat.le_trans (List.length_filter_le _ _) belowT_len
  simp only [List.length_append, List.length_map]
  generalize ((belowN ms (idOf ms i)).filter fun (k : Nat) => decide ((k : Int) ≠ but)).length = q at h1 ⊢
  split <;> split <;> simp only [List.length_cons, List.length_nil] <;> omega
theorem restL_bd {ms : List MainG} {u p : List RangeG} {i : Nat} {but M : Int} (h0 : 0 ≤ M) (hu : ∀ x ∈ u, Bd M x) (hp : ∀ x ∈ p, Bd M x) (hm : ∀ m ∈ ms, Bd M m.leak) : ∀ x ∈ restL ms u p i but, Bd M x := by
  have hz : Bd M zR := by unfold Bd zR; simp only; omega
  have hpo : ∀ (q : List RangeG) k, (∀ x ∈ q, Bd M x) → Bd M (partOf q k) := fun q k hq => by
    unfold partOf
    rcases Nat.lt_or_ge k q.length with h | h
    · simp [List.getD, h]; exact hq _ (List.getElem_mem h)
    · simp [List.getD, h]; exact hz
  have hlk : Bd M (leakOf ms i) := by
    unfold leakOf
    cases h : ms[i]? with
    | none => exact hz
    | some m => exact hm m (List.mem_of_getElem? h)
  intro x hx
  unfold restL at hx
  simp only [List.mem_append, List.mem_map] at hx
  rcases hx with (hx | hx) | ⟨k, _, rfl⟩
  · split at hx
    · rw [List.mem_singleton.1 hx]; exact hpo u i hu
    · cases hx
  · split at hx
    · rw [List.mem_singleton.1 hx]; exact hlk
    · cases hx
  · exact hpo p k hp
theorem c111 (E : Env) (S : Ents) (b : Nat) (mn : Bool) (c : Array Value) (fz : Nat × Nat) (ms : List MainG) (v : Value) (u p hh : List RangeG) (ev : Bool) (i : Nat) (but : Int) (hin : (⟨b, mn, .cells c 140 fz⟩ : Ent) ∈ S) (ht : TreeP c v u p hh ev) (hv : SlV S v ms) (hm : ms.length ≤ 12) (hi : i < ms.length)
    (hu : ∀ x ∈ u, Bd 1000000000000000 x) (hp : ∀ x ∈ p, Bd 1000000000000000 x) (hk : ∀ m ∈ ms, Bd 1000000000000000 m.leak) :
    CallW Tryz.prog E 111 #[.pointer (some ⟨b, 0, none⟩), iv i, iv but] S fun r S' => r = .agg (rangeC (restR ms u p i but)) ∧ S' = S := by
  have hv0 := hv
  have hbd := restL_bd (i := i) (but := but) (by omega) hu hp hk
  obtain ⟨q, cp, rfl, _, hr⟩ := hv
  have := SlI.mk hr
  have : InS b S mn (.cells c 140 fz) := ⟨hin⟩
  have : CellI c (0 + 0 + 0) (.slice q ms.length cp) := ⟨ht.mains⟩
  have : RowC c (0 + 5) RangeG encRange u := ⟨ht.used⟩
  have : RowC c (0 + 29) RangeG encRange p := ⟨ht.up⟩
  have e0 : leakOf ms i = ms[i].leak := by unfold leakOf; rw [List.getElem?_eq_getElem hi]
  have e1 : idOf ms i = ms[i].id := by unfold idOf; rw [List.getElem?_eq_getElem hi]
  have e2 : partOf u i = u[i]'(by rw [ht.lu]; omega) := partOf_get _
  have hlu := ht.lu
  have hlp := ht.lp
  refine call_in (args := [.pointer (some ⟨b, 0, none⟩), iv i, iv but]) Tryz.func111 (by decide) rfl rfl ?_
  repeat' first|(refine gX ?_;first|refine o_v rfl rfl ?_|(refine gL ?_;first|refine o_load rfl rfl rfl rfl ?_|refine o_loadR rfl rfl rfl (by omega) rfl rfl ?_|refine o_loadW rfl rfl rfl rfl ?_|refine o_loadK rfl rfl rfl ?_)|(refine gF ?_;first|refine o_fieldI rfl rfl rfl rfl ?_|refine o_field rfl rfl rfl rfl ?_)|(refine gB ?_;first|refine o_add rfl rfl rfl rfl (by omega) ?_)|(refine gC ?_;first|(refine o_append1 (xs := ([] : List RangeG)) (u[i]'(by first|done|omega)) rfl rfl rfl rfl .nil rfl (by simp) rfl rfl rfl rfl ?_;intro w2 Δ2 ho2;refine ⟨inferInstance, ?_⟩))|(refine gI ?_;first|refine o_indexA rfl rfl rfl rfl rfl (by omega) ?_|refine o_indexS rfl rfl rfl rfl rfl rfl (by omega) ?_|refine o_index rfl rfl rfl rfl rfl (by omega) ?_)|(refine gS ?_;first|refine o_store rfl rfl rfl rfl rfl rfl ?_|refine o_storeW rfl rfl rfl rfl rfl rfl ?_)|(refine o_allocZ rfl rfl ?_;intro _)|(refine o_bslice rfl rfl rfl rfl rfl rfl rfl ?_;intro _))|refine o_head0 rfl ?_|refine o_end ?_|refine o_head1 rfl ?_|(show WP _ _ _ _ (.seq (.seq (.region 2 _ _) _) _) _ _ _ _;refine wp_cut (fun t ds S' => ∃ (t0 : Tm) (w : Value) (Δ : Ents) (b6 : Nat), [] = ds ∧ Δ ++ ⟨b6, true, .cells #[.int .i64 0, .int .i64 0] 70 (0, 0)⟩ :: S = S' ∧ t = den [(7, w), (0, .pointer (some ⟨b, 0, none⟩)), (1, iv i), (2, iv but), (6, .pointer (some ⟨b6, 0, none⟩))] t0 ∧ Own w (if but ≠ -1 then [partOf u i] else []) Δ) ?_ ?_)|refine wp_seq ?_|refine o_region ?_|refine wp_block ?_|refine wp_skip ?_|refine wp_exit ?_|(refine w_condD rfl ?_ ?_<;>intro h)|(refine w_cond rfl ?_ ?_<;>intro h<;>try exact Bool.noConfusion h)|refine w_ret (S) (vs:=[_]) rfl (Res.cell rfl rfl Res.nil) ?_
  · rename_i b6 b7
    refine ⟨_, Sb.h, _, _, Δ2, b6, rfl, rfl, keep ⟨rfl, rfl, rfl, rfl, rfl, trivial⟩, ?_⟩
    rw [if_pos h, e2]
    exact ho2
  · rename_i b6
    refine ⟨_, List.Sublist.refl _, _, _, [], b6, rfl, rfl, keep ⟨rfl, rfl, rfl, rfl, rfl, trivial⟩, ?_⟩
    rw [if_neg h]
    exact .nil
  rintro _ _ _ ⟨t0, w, Δ, b6, rfl, rfl, rfl, ho⟩
  repeat' first|(refine gX ?_;first|refine o_v rfl rfl ?_|(refine gL ?_;first|refine o_load rfl rfl rfl rfl ?_|refine o_loadR rfl rfl rfl (by omega) rfl rfl ?_|refine o_loadW rfl rfl rfl rfl ?_|refine o_loadK rfl rfl rfl ?_)|(refine gF ?_;first|refine o_fieldI rfl rfl rfl rfl ?_|refine o_field rfl rfl rfl rfl ?_)|(refine gB ?_;first|refine o_add rfl rfl rfl rfl (by omega) ?_)|(refine gC ?_;first|(refine o_append1 (ms[i]'(by first|done|omega)).leak rfl rfl rfl rfl ho rfl (by split <;> simp) rfl rfl rfl rfl ?_;intro w2 Δ2 ho2;refine ⟨inferInstance, ?_⟩))|(refine gI ?_;first|refine o_indexS rfl rfl rfl rfl rfl rfl (by omega) ?_|refine o_index rfl rfl rfl rfl rfl (by omega) ?_)|(refine gS ?_;first|refine o_store rfl rfl rfl rfl rfl rfl ?_|refine o_storeW rfl rfl rfl rfl rfl rfl ?_)|(refine o_allocZ rfl rfl ?_;intro _)|(refine o_bslice rfl rfl rfl rfl rfl rfl rfl ?_;intro _))|refine o_head0 rfl ?_|refine o_end ?_|refine o_head1 rfl ?_|(show WP _ _ _ _ (.seq (.seq (.region 4 _ _) _) _) _ _ _ _;refine wp_cut (fun t ds S' => ∃ (t0 : Tm) (w : Value) (Δ : Ents), [] = ds ∧ Δ ++ ⟨b6, true, .cells #[.int .i64 0, .int .i64 0] 70 (0, 0)⟩ :: S = S' ∧ t = den [(7, w), (0, .pointer (some ⟨b, 0, none⟩)), (1, iv i), (2, iv but), (6, .pointer (some ⟨b6, 0, none⟩))] t0 ∧ Own w ((if but ≠ -1 then [partOf u i] else []) ++ (if but ≠ -2 then [leakOf ms i] else [])) Δ) ?_ ?_)|refine wp_seq ?_|refine o_region ?_|refine wp_block ?_|refine wp_skip ?_|refine wp_exit ?_|(refine w_condD rfl ?_ ?_<;>intro h)|(refine w_cond rfl ?_ ?_<;>intro h<;>try exact Bool.noConfusion h)|refine w_ret (S) (vs:=[_]) rfl (Res.cell rfl rfl Res.nil) ?_
  · skip
    refine ⟨_, Sb.h, _, _, Δ2, rfl, rfl, keep ⟨rfl, rfl, rfl, rfl, rfl, trivial⟩, ?_⟩
    rw [if_pos h, e0]
    exact ho2
  · skip
    refine ⟨_, Sb.h, _, _, Δ, rfl, rfl, keep ⟨rfl, rfl, rfl, rfl, rfl, trivial⟩, ?_⟩
    rw [if_neg h, List.append_nil]
    exact ho
  generalize hL : (if but ≠ -1 then [partOf u i] else []) ++ (if but ≠ -2 then [leakOf ms i] else []) = L
  rintro _ _ _ ⟨t0, w, Δ, rfl, rfl, rfl, ho⟩
  repeat' first|(refine gX ?_;first|refine o_v rfl rfl ?_|(refine gL ?_;first|refine o_load rfl rfl rfl rfl ?_|refine o_loadR rfl rfl rfl (by omega) rfl rfl ?_|refine o_loadW rfl rfl rfl rfl ?_|refine o_loadK rfl rfl rfl ?_)|(refine gF ?_;first|refine o_fieldI rfl rfl rfl rfl ?_|refine o_field rfl rfl rfl rfl ?_)|(refine gB ?_;first|refine o_add rfl rfl rfl rfl (by omega) ?_)|(refine gC ?_;first|(refine o_callZ (R:=fun r S' => ∃ Δ, Own r (natI (belowN ms (ms[i]'(by first|done|omega)).id)) Δ ∧ S' = Δ ++ _) rfl rfl rfl (c105 _ _ b mn c fz ms _ _ (Sb.h.subset hin) ht.mains (hv0.sub Sb.h) hm) ?_;rintro r _ ⟨Δb, hob, rfl⟩;obtain ⟨ra, rc, rfl, _, hra⟩ := hob.slv;have := SlI.mk hra;refine ⟨inferInstance, ?_⟩))|(refine gI ?_;first|refine o_indexS rfl rfl rfl rfl rfl rfl (by omega) ?_|refine o_index rfl rfl rfl rfl rfl (by omega) ?_)|(refine gS ?_;first|refine o_store rfl rfl rfl rfl rfl rfl ?_|refine o_storeW rfl rfl rfl rfl rfl rfl ?_)|(refine o_allocZ rfl rfl ?_;intro _)|(refine o_bslice rfl rfl rfl rfl rfl rfl rfl ?_;intro _))|refine o_head0 rfl ?_|refine o_end ?_|refine o_head1 rfl ?_|refine wp_seq ?_|refine o_region ?_|refine wp_block ?_|refine wp_skip ?_|refine wp_exit ?_|(refine w_condD rfl ?_ ?_<;>intro h)|(refine w_cond rfl ?_ ?_<;>intro h<;>try exact Bool.noConfusion h)|refine w_ret (S) (vs:=[_]) rfl (Res.cell rfl rfl Res.nil) ?_
  generalize hBN : belowN ms (ms[i]'hi).id = BN at hob hra ‹SlI Δb ra Int _ _› ⊢
  have hlen : (natI BN).length = BN.length := natI_len
  have hBl : ∀ k ∈ BN, k < ms.length := fun k hk' => mem_below (hBN ▸ hk')
  have hL2 : restL ms u p i but = L ++ (BN.filter fun (k : Nat) => decide ((k : Int) ≠ but)).map (partOf p) := by unfold restL; rw [hL, e1, hBN]
  have hLl : L.length ≤ 2 := by rw [← hL]; split <;> split <;> simp
  have hBc : BN.length ≤ 12 := by rw [← hBN]; exact Nat.le_trans belowT_len hm
  refine WP.perm ?_ (FrS.h (Δ := Δ))
  refine wp_loop (fun i t ds S' => ∃ (j : Nat) (t0 : Tm) (w : Value) (Δ : Ents), i = BN.length - j ∧ j ≤ BN.length ∧ [] = ds ∧ Δ ++ (Δb ++ ⟨b6, true, .cells #[.int .i64 0, .int .i64 0] 70 (0, 0)⟩ :: S) = S' ∧ t = den [(47, .int .i64 j), (46, .int .i64 (natI BN).length), (45, .slice ra (natI BN).length rc), (7, w), (0, .pointer (some ⟨b, 0, none⟩)), (2, iv but), (6, .pointer (some ⟨b6, 0, none⟩))] t0 ∧ Own w (L ++ ((BN.take j).filter fun (k : Nat) => decide ((k : Int) ≠ but)).map (partOf p)) Δ)
    BN.length ⟨0, _, _, Δ, rfl, Nat.zero_le _, rfl, rfl, keep ⟨rfl, rfl, rfl, rfl, rfl, rfl, rfl, trivial⟩, by simpa using ho⟩ ?_
  rintro i' t ds S' ⟨j, t1, w, Δ, rfl, hj, rfl, rfl, rfl, ho⟩
  have hget : ∀ (hj : j < BN.length), (natI BN)[j]'(by rw [hlen]; exact hj) = (BN[j] : Int) := fun hj => by simp [natI]
  repeat' first|(refine gX ?_;first|refine o_v rfl rfl ?_|(refine gL ?_;first|refine o_loadR rfl rfl rfl (by have := hBl (BN[j]'(by first|done|omega)) (List.getElem_mem _); omega) rfl rfl ?_|refine o_load rfl rfl rfl rfl ?_|refine o_loadR rfl rfl rfl (by omega) rfl rfl ?_|refine o_loadW rfl rfl rfl rfl ?_|refine o_loadK rfl rfl rfl ?_)|(refine gF ?_;first|refine o_fieldI rfl rfl rfl rfl ?_|refine o_field rfl rfl rfl rfl ?_)|(refine gB ?_;first|refine o_add rfl rfl rfl rfl (by omega) ?_)|(refine gC ?_;first|(refine o_append1 (p[BN[j]'(by first|done|omega)]'(by first|done|(have := hBl (BN[j]'(by first|done|omega)) (List.getElem_mem _); omega))) rfl rfl rfl rfl ho rfl (by simp only [List.length_append, List.length_map]; have := filter_len (l := BN) (q := fun (k : Nat) => decide ((k : Int) ≠ but)) (j := j); omega) rfl rfl rfl rfl ?_;intro w2 Δ2 ho2;refine ⟨inferInstance, ?_⟩))|(refine gI ?_;first|refine o_indexAZ (BN[j]'(by first|done|omega)) rfl rfl rfl rfl rfl (hget (by omega)) (by have := hBl (BN[j]'(by first|done|omega)) (List.getElem_mem _); omega) ?_|refine o_indexS rfl rfl rfl rfl rfl rfl (by omega) ?_|refine o_index rfl rfl rfl rfl rfl (by omega) ?_)|(refine gS ?_;first|refine o_store rfl rfl rfl rfl rfl rfl ?_|refine o_storeW rfl rfl rfl rfl rfl rfl ?_)|(refine o_allocZ rfl rfl ?_;intro _)|(refine o_bslice rfl rfl rfl rfl rfl rfl rfl ?_;intro _))|refine o_head0 rfl ?_|refine o_end ?_|refine o_head1 rfl ?_|refine wp_seq ?_|refine o_region ?_|refine wp_block ?_|refine wp_skip ?_|refine wp_exit ?_|(refine w_condD rfl ?_ ?_<;>intro h)|(refine w_cond rfl ?_ ?_<;>intro h<;>try exact Bool.noConfusion h)|refine w_ret (S) (vs:=[_]) rfl (Res.cell rfl rfl Res.nil) ?_
  · rename_i hlt Δ2 ho2
    have hjl : j < BN.length := by omega
    have hbl := hBl BN[j] (List.getElem_mem _)
    refine ⟨BN.length - (j + 1), by omega, _, Sb.h, j + 1, _, _, Δ2, rfl, by omega, rfl, rfl, keep ⟨rfl, rfl, rfl, rfl, rfl, rfl, rfl, trivial⟩, ?_⟩
    rw [filter_snoc hjl, if_pos (by rw [hget hjl] at h; simpa using h), List.map_append, ← List.append_assoc, List.map_singleton, partOf_get (by omega)]
    exact ho2
  · rename_i hlt
    have hjl : j < BN.length := by omega
    refine ⟨BN.length - (j + 1), by omega, _, Sb.h, j + 1, _, _, Δ, rfl, by omega, rfl, rfl, keep ⟨rfl, rfl, rfl, rfl, rfl, rfl, rfl, trivial⟩, ?_⟩
    rw [filter_snoc hjl, if_neg (by rw [hget hjl] at h; simpa using h), List.append_nil]
    exact ho
  · have : j = BN.length := by omega
    subst this
    rw [List.take_length, ← hL2] at ho
    repeat' first|(refine gX ?_;first|refine o_v rfl rfl ?_|(refine gL ?_;first|refine o_load rfl rfl rfl rfl ?_|refine o_loadR rfl rfl rfl (by omega) rfl rfl ?_|refine o_loadW rfl rfl rfl rfl ?_|refine o_loadK rfl rfl rfl ?_)|(refine gF ?_;first|refine o_fieldI rfl rfl rfl rfl ?_|refine o_field rfl rfl rfl rfl ?_)|(refine gB ?_;first|refine o_add rfl rfl rfl rfl (by omega) ?_)|(refine gC ?_;first|refine o_callF rfl rfl rfl (c102 _ _ _ _ (ho.slv.sub Sb.h) (by have := restL_len (ms := ms) (u := u) (p := p) (i := i) (but := but); omega) hbd) ?_)|(refine gI ?_;first|refine o_indexS rfl rfl rfl rfl rfl rfl (by omega) ?_|refine o_index rfl rfl rfl rfl rfl (by omega) ?_)|(refine gS ?_;first|refine o_store rfl rfl rfl rfl rfl rfl ?_|refine o_storeW rfl rfl rfl rfl rfl rfl ?_)|(refine o_allocZ rfl rfl ?_;intro _)|(refine o_bslice rfl rfl rfl rfl rfl rfl rfl ?_;intro _))|refine o_head0 rfl ?_|refine o_end ?_|refine o_head1 rfl ?_|refine wp_seq ?_|refine o_region ?_|refine wp_block ?_|refine wp_skip ?_|refine wp_exit ?_|(refine w_condD rfl ?_ ?_<;>intro h)|(refine w_cond rfl ?_ ?_<;>intro h<;>try exact Bool.noConfusion h)|refine w_ret (S) (vs:=[_]) rfl (Res.cell rfl rfl Res.nil) ?_
    exact ⟨rfl, rfl⟩
end Go.Proofs.YtpnnmklacialgaaGreat
namespace Go.Proofs.YtpnnmklacialgaaGreat
open Go.Conc
attribute [local irreducible] WP OpF OpX CallW SemH retQ AnyF
theorem sumR_bd {M : Int} (h0 : 0 ≤ M) : ∀ {l : List RangeG}, (∀ x ∈ l, Bd M x) → Bd (M * l.length) (sumR l)
  | [], _ => by unfold Bd sumR; simp
  | x :: l, h => by
    have h1 := h x (.head _)
    have h2 := sumR_bd h0 (l := l) fun y hy => h y (.tail _ hy)
    unfold Bd at h1 h2 ⊢
    simp only [sumR, List.length_cons]
    have e : M * ((l.length + 1 : Nat) : Int) = M * l.length + M := by rw [Int.natCast_add, Int.mul_add]; simp
    rw [e]
    omega
theorem Bd.mono {M M' : Int} {x : RangeG} (h : Bd M x) (hm : M ≤ M') : Bd M' x := by
  unfold Bd at *; omega
theorem restR_bd {ms : List MainG} {u p : List RangeG} {i : Nat} {but : Int} (hm : ms.length ≤ 12) (hu : ∀ x ∈ u, Bd 1000000000000000 x) (hp : ∀ x ∈ p, Bd 1000000000000000 x) (hk : ∀ m ∈ ms, Bd 1000000000000000 m.leak) : Bd 14000000000000000 (restR ms u p i but) := by
  have h1 := sumR_bd (by omega) (restL_bd (i := i) (but := but) (by omega) hu hp hk)
  refine h1.mono ?_
  have := restL_len (ms := ms) (u := u) (p := p) (i := i) (but := but)
  omega
def burntR (ms : List MainG) (u p h : List RangeG) (i : Nat) : RangeG := meetR (partOf u i) (lessR (partOf h i) (restR ms u p i (-1)))
def leakedR (ms : List MainG) (u p h : List RangeG) (i : Nat) : RangeG := meetR (leakOf ms i) (lessR (partOf h i) (restR ms u p i (-2)))
theorem c100 (E : Env) (S : Ents) (b : Nat) (mn : Bool) (c : Array Value) (fz : Nat × Nat) (ms : List MainG) (v : Value) (u p hh : List RangeG) (ev : Bool) (i : Nat) (hin : (⟨b, mn, .cells c 140 fz⟩ : Ent) ∈ S) (ht : TreeP c v u p hh ev) (hv : SlV S v ms) (hm : ms.length ≤ 12) (hi : i < ms.length)
    (hu : ∀ x ∈ u, Bd 1000000000000000 x) (hp : ∀ x ∈ p, Bd 1000000000000000 x) (hk : ∀ m ∈ ms, Bd 1000000000000000 m.leak) (hb : ∀ x ∈ hh, Bd 1000000000000000 x) :
    CallW Tryz.prog E 100 #[.pointer (some ⟨b, 0, none⟩), iv i] S fun r S' => r = .agg (rangeC (burntR ms u p hh i)) ∧ S' = S := by
  have : InS b S mn (.cells c 140 fz) := ⟨hin⟩
  have : RowC c (0 + 5) RangeG encRange u := ⟨ht.used⟩
  have : RowC c (0 + 53) RangeG encRange hh := ⟨ht.through⟩
  have hlu := ht.lu
  have hlh := ht.lh
  have e1 : partOf u i = u[i]'(by omega) := partOf_get _
  have e2 : partOf hh i = hh[i]'(by omega) := partOf_get _
  have hrb := restR_bd (i := i) (but := -1) hm hu hp hk
  have hb2 := hb (hh[i]'(by omega)) (List.getElem_mem _)
  refine call_in (args := [.pointer (some ⟨b, 0, none⟩), iv i]) Tryz.func100 (by decide) rfl rfl ?_
  repeat' first|(refine gX ?_;first|refine o_v rfl rfl ?_|(refine gL ?_;first|refine o_load rfl rfl rfl rfl ?_|refine o_loadR rfl rfl rfl (by omega) rfl rfl ?_|refine o_loadW rfl rfl rfl rfl ?_|refine o_loadK rfl rfl rfl ?_)|(refine gF ?_;first|refine o_fieldI rfl rfl rfl rfl ?_|refine o_field rfl rfl rfl rfl ?_)|(refine gC ?_;first|refine o_callF rfl rfl rfl (c111 _ _ b mn c fz ms v u p hh ev i (-1) (Sb.h.subset hin) ht (hv.sub Sb.h) hm hi hu hp hk) ?_|refine o_callF rfl rfl rfl (c149 _ _ (hh[i]'(by first|done|omega)) _ (hb2.mono (by omega)) (hrb.mono (by omega))) ?_|refine o_callF rfl rfl rfl (c110 _ _ (u[i]'(by first|done|omega)) _) ?_)|(refine gI ?_;first|refine o_indexA rfl rfl rfl rfl rfl (by omega) ?_|refine o_indexS rfl rfl rfl rfl rfl rfl (by omega) ?_|refine o_index rfl rfl rfl rfl rfl (by omega) ?_)|(refine gS ?_;first|refine o_store rfl rfl rfl rfl rfl rfl ?_|refine o_storeW rfl rfl rfl rfl rfl rfl ?_)|(refine o_allocZ rfl rfl ?_;intro _))|refine o_head0 rfl ?_|refine o_end ?_|refine o_head1 rfl ?_|refine wp_seq ?_|refine o_region ?_|refine w_ret (S) (vs:=[_]) rfl (Res.cell rfl rfl Res.nil) ?_|(show WP _ _ _ _ (.region 1 _ true) _ _ _ _;refine o_drawn [Zt 0,Zt 1,Zt 2,Zt 3,Zt 4,Zt 5,Zt 6,Zt 7,Zt 8,Zt 9,Zt 10,Zt 11,Zf 12,Zf 13,Zf 14,Zf 15,Zt 16,Zt 17] mixed (by kernel_rfl) ?_)
  refine ⟨?_, rfl⟩
  unfold burntR
  rw [e1, e2]
  rfl
theorem c101 (E : Env) (S : Ents) (b : Nat) (mn : Bool) (c : Array Value) (fz : Nat × Nat) (ms : List MainG) (v : Value) (u p hh : List RangeG) (ev : Bool) (i : Nat) (hin : (⟨b, mn, .cells c 140 fz⟩ : Ent) ∈ S) (ht : TreeP c v u p hh ev) (hv : SlV S v ms) (hm : ms.length ≤ 12) (hi : i < ms.length)
    (hu : ∀ x ∈ u, Bd 1000000000000000 x) (hp : ∀ x ∈ p, Bd 1000000000000000 x) (hk : ∀ m ∈ ms, Bd 1000000000000000 m.leak) (hb : ∀ x ∈ hh, Bd 1000000000000000 x) :
    CallW Tryz.prog E 101 #[.pointer (some ⟨b, 0, none⟩), iv i] S fun r S' => r = .agg (rangeC (leakedR ms u p hh i)) ∧ S' = S := by
  have hv0 := hv
  obtain ⟨q, cp, rfl, _, hr⟩ := hv
  have := SlI.mk hr
  have : InS b S mn (.cells c 140 fz) := ⟨hin⟩
  have : CellI c (0 + 0 + 0) (.slice q ms.length cp) := ⟨ht.mains⟩
  have : RowC c (0 + 53) RangeG encRange hh := ⟨ht.through⟩
  have hlh := ht.lh
  have e1 : leakOf ms i = ms[i].leak := by unfold leakOf; rw [List.getElem?_eq_getElem hi]
  have e2 : partOf hh i = hh[i]'(by omega) := partOf_get _
  have hrb := restR_bd (i := i) (but := -2) hm hu hp hk
  have hb2 := hb (hh[i]'(by omega)) (List.getElem_mem _)
  refine call_in (args := [.pointer (some ⟨b, 0, none⟩), iv i]) Tryz.func101 (by decide) rfl rfl ?_
  repeat' first|(refine gX ?_;first|refine o_v rfl rfl ?_|(refine gL ?_;first|refine o_load rfl rfl rfl rfl ?_|refine o_loadR rfl rfl rfl (by omega) rfl rfl ?_|refine o_loadW rfl rfl rfl rfl ?_|refine o_loadK rfl rfl rfl ?_)|(refine gF ?_;first|refine o_fieldI rfl rfl rfl rfl ?_|refine o_field rfl rfl rfl rfl ?_)|(refine gC ?_;first|refine o_callF rfl rfl rfl (c111 _ _ b mn c fz ms _ u p hh ev i (-2) (Sb.h.subset hin) ht (hv0.sub Sb.h) hm hi hu hp hk) ?_|refine o_callF rfl rfl rfl (c149 _ _ (hh[i]'(by first|done|omega)) _ (hb2.mono (by omega)) (hrb.mono (by omega))) ?_|refine o_callF rfl rfl rfl (c110 _ _ (ms[i]'(by first|done|omega)).leak _) ?_)|(refine gI ?_;first|refine o_indexA rfl rfl rfl rfl rfl (by omega) ?_|refine o_indexS rfl rfl rfl rfl rfl rfl (by omega) ?_|refine o_index rfl rfl rfl rfl rfl (by omega) ?_)|(refine gS ?_;first|refine o_store rfl rfl rfl rfl rfl rfl ?_|refine o_storeW rfl rfl rfl rfl rfl rfl ?_)|(refine o_allocZ rfl rfl ?_;intro _))|refine o_head0 rfl ?_|refine o_end ?_|refine o_head1 rfl ?_|refine wp_seq ?_|refine o_region ?_|refine w_ret (S) (vs:=[_]) rfl (Res.cell rfl rfl Res.nil) ?_|(show WP _ _ _ _ (.region 1 _ true) _ _ _ _;refine o_drawn [Zt 0,Zt 1,Zt 2,Zt 3,Zt 4,Zt 5,Zt 6,Zt 7,Zt 8,Zt 9,Zt 10,Zt 11,Zt 12,Zt 13,Zt 14,Zf 15,Zf 16,Zf 17,Zf 18,Zt 19,Zt 20] mixed (by kernel_rfl) ?_)
  refine ⟨?_, rfl⟩
  unfold leakedR
  rw [e1, e2]
  rfl
end Go.Proofs.YtpnnmklacialgaaGreat
namespace Go.Proofs.YtpnnmklacialgaaGreat
open Go.Conc
attribute [local irreducible] WP OpF OpX CallW SemH retQ AnyF RoundW
def countsU (p k : Int) (x : UseG) : Bool := decide (x.period = p) && countsB x.known x.til k
def countsF (p k : Int) (x : FaultG) : Bool := decide (x.period = p) && countsB x.known x.til k
theorem c160 (E : Env) (S : Ents) (I : Nat → Ents → Prop) (J : Ents → Prop) (lp b1 b2 b3 : Nat) (L : Loop) (xs : List ReadG) (a : Option Addr) (cp : Nat) (p k : Int) (hm : xs.length ≤ 17592186044416) (h0 : I 0 S)
    (hin : ∀ j S', I j S' → (⟨b1, true, .cells #[.slice a xs.length cp] 160 (0, 0)⟩ : Ent) ∈ S' ∧ (⟨b2, true, .cells #[.int .i64 p] 3 (0, 0)⟩ : Ent) ∈ S' ∧ (⟨b3, true, .cells #[.int .i64 k] 3 (0, 0)⟩ : Ent) ∈ S' ∧ SlA S' a xs ∧ loopE lp L ∈ S') (hL : L.params.size = 1)
    (hr : ∀ j (h : j < xs.length) S', I j S' → countsR p k xs[j] = true → RoundW Tryz.prog E lp L.fn (rndT L [.agg (readC xs[j])]) L.assign L.body S' fun v S'' => (v = .bool true ∧ I (j + 1) S'') ∨ (v = .bool false ∧ J S''))
    (hs : ∀ j (h : j < xs.length) S', I j S' → countsR p k xs[j] = false → I (j + 1) S') :
    CallW Tryz.prog E 160 #[.func (.yield lp) #[] #[], .pointer (some ⟨b1, 0, none⟩), .pointer (some ⟨b2, 0, none⟩), .pointer (some ⟨b3, 0, none⟩)] S fun _ S' => I xs.length S' ∨ J S' := by
  have i1 : InS b1 S true (.cells #[.slice a xs.length cp] 160 (0, 0)) := ⟨(hin 0 S h0).1⟩
  refine call_in (args := [.func (.yield lp) #[] #[], .pointer (some ⟨b1, 0, none⟩), .pointer (some ⟨b2, 0, none⟩), .pointer (some ⟨b3, 0, none⟩)]) Tryz.func160 (by decide) rfl rfl ?_
  repeat' first|(refine gX ?_;first|refine o_v rfl rfl ?_|(refine o_splitD rfl rfl rfl ?_ ?_<;>intro h)|(refine o_split rfl rfl rfl ?_ ?_<;>intro h<;>fail_if_success exact Bool.noConfusion h)|(refine gL ?_;first|refine o_load rfl rfl rfl rfl ?_|refine o_loadR rfl rfl rfl (by omega) rfl rfl ?_|refine o_loadW rfl rfl rfl rfl ?_|refine o_loadK rfl rfl rfl ?_)|(refine gB ?_;first|refine o_add rfl rfl rfl rfl (by omega) ?_|refine o_eqNil rfl rfl rfl rfl rfl ?_)|(refine gI ?_;first|refine o_indexS rfl rfl rfl rfl rfl rfl (by omega) ?_|refine o_index rfl rfl rfl rfl rfl (by omega) ?_)|(refine gS ?_;first|refine o_store rfl rfl rfl rfl rfl rfl ?_|refine o_storeW rfl rfl rfl rfl rfl rfl ?_)|(refine o_allocZ rfl rfl ?_;intro _)|refine o_skip rfl rfl ?_|refine o_skipN rfl rfl ?_|refine o_iface rfl rfl rfl ?_|(refine o_splitP rfl ?_ ?_<;>intro h<;>fail_if_success exact Bool.noConfusion h))|refine o_head0 rfl ?_|refine o_end ?_|refine o_head1 rfl ?_|refine wp_seq ?_|refine o_region ?_|refine wp_block ?_|refine wp_skip ?_|refine wp_exit ?_|(refine w_condD rfl ?_ ?_<;>intro h)|(refine w_cond rfl ?_ ?_<;>intro h<;>try exact Bool.noConfusion h)|refine w_ret (S) (vs:=[]) rfl Res.nil ?_
  refine wp_loop (fun i t ds S' => ∃ (j : Nat) (t0 : Tm), i = xs.length - j ∧ j ≤ xs.length ∧ [] = ds ∧ t = den [(14, .int .i64 j), (13, .int .i64 xs.length), (12, .slice a xs.length cp), (0, .func (.yield lp) #[] #[]), (2, .pointer (some ⟨b2, 0, none⟩)), (3, .pointer (some ⟨b3, 0, none⟩))] t0 ∧ I j S')
    xs.length ⟨0, _, rfl, Nat.zero_le _, rfl, keep ⟨rfl, rfl, rfl, rfl, rfl, rfl, trivial⟩, h0⟩ ?_
  rintro i t ds S' ⟨j, t0, rfl, hj, rfl, rfl, hI⟩
  obtain ⟨_, m2, m3, m4, m5⟩ := hin j S' hI
  have i2 : InS b2 S' true (.cells #[.int .i64 p] 3 (0, 0)) := ⟨m2⟩
  have i3 : InS b3 S' true (.cells #[.int .i64 k] 3 (0, 0)) := ⟨m3⟩
  have i4 := SlI.mk m4
  have hc1 : ∀ h : j < xs.length, xs[j].period = p → xs[j].known ≤ k → (xs[j].til = 0 ∨ xs[j].til > k) → countsR p k xs[j] = true := fun h h1 h2 h3 => by
    unfold countsR countsB
    simp only [Bool.and_eq_true, decide_eq_true_eq]
    exact ⟨h1, h2, h3.imp id id⟩
  have hc2 : ∀ h : j < xs.length, ¬ (xs[j].period = p ∧ xs[j].known ≤ k ∧ (xs[j].til = 0 ∨ xs[j].til > k)) → I (j + 1) S' := fun h h1 => hs j h S' hI (by
    unfold countsR countsB
    rw [Bool.eq_false_iff]
    simp only [ne_eq, Bool.and_eq_true, decide_eq_true_eq]
    exact fun ⟨h2, h3, h4⟩ => h1 ⟨h2, h3, h4.imp id id⟩)
  repeat' first|(refine gX ?_;first|refine o_v rfl rfl ?_|(refine o_splitD rfl rfl rfl ?_ ?_<;>intro h)|(refine o_split rfl rfl rfl ?_ ?_<;>intro h<;>fail_if_success exact Bool.noConfusion h)|(refine gL ?_;first|refine o_load rfl rfl rfl rfl ?_|refine o_loadR rfl rfl rfl (by omega) rfl rfl ?_|refine o_loadW rfl rfl rfl rfl ?_|refine o_loadK rfl rfl rfl ?_)|(refine gB ?_;first|refine o_add rfl rfl rfl rfl (by omega) ?_|refine o_eqNil rfl rfl rfl rfl rfl ?_)|(refine gC ?_;first|refine o_inv rfl rfl rfl rfl (c227 _ _ xs[j]) ?_|(refine o_yield (L:=L) (vs:=[_]) (S1:=S') rfl rfl rfl rfl (Sb.h.subset m5) hL.symm Sb.h (hr j (by first|done|omega) S' hI (hc1 (by omega) (by assumption) (by assumption) (by first|(left;assumption)|(right;assumption)))) ?_;rintro v S2 hv;refine ⟨inferInstance, ?_⟩;rcases hv with ⟨rfl, hv⟩|⟨rfl, hv⟩))|(refine gI ?_;first|refine o_indexS rfl rfl rfl rfl rfl rfl (by omega) ?_|refine o_index rfl rfl rfl rfl rfl (by omega) ?_)|(refine gS ?_;first|refine o_store rfl rfl rfl rfl rfl rfl ?_|refine o_storeW rfl rfl rfl rfl rfl rfl ?_)|(refine o_allocZ rfl rfl ?_;intro _)|refine o_skip rfl rfl ?_|refine o_skipN rfl rfl ?_|refine o_iface rfl rfl rfl ?_|(refine o_splitP rfl ?_ ?_<;>intro h<;>fail_if_success exact Bool.noConfusion h))|refine o_head0 rfl ?_|refine o_end ?_|refine o_head1 rfl ?_|refine wp_seq ?_|refine o_region ?_|refine wp_block ?_|refine wp_skip ?_|refine wp_exit ?_|(refine w_condD rfl ?_ ?_<;>intro h)|(refine w_cond rfl ?_ ?_<;>intro h<;>try exact Bool.noConfusion h)|refine w_ret (S2) (vs:=[]) rfl Res.nil ?_|refine w_ret (S) (vs:=[]) rfl Res.nil ?_
  all_goals first
    | exact .inr hv
    | exact ⟨xs.length - (j + 1), by omega, _, List.Sublist.refl _, j + 1, _, rfl, by omega, rfl, keep ⟨rfl, rfl, rfl, rfl, rfl, rfl, trivial⟩, hv⟩
    | exact ⟨xs.length - (j + 1), by omega, _, Sb.h, j + 1, _, rfl, by omega, rfl, keep ⟨rfl, rfl, rfl, rfl, rfl, rfl, trivial⟩, hc2 (by omega) fun ⟨q1, q2, q3⟩ => by first | contradiction | (rcases q3 with q3 | q3 <;> contradiction)⟩
    | (have e : j = xs.length := by omega
       exact w_fall (res_sem Res.nil (.inl (e ▸ hI))))
theorem c106 (E : Env) (S : Ents) (xs : List ReadG) (a : Option Addr) (cp : Nat) (p k : Int) : CallW Tryz.prog E 106 #[.slice a xs.length cp, iv p, iv k] S fun r S' => ∃ b1 b2 b3, r = .func (.func 160) #[] #[.pointer (some ⟨b1, 0, none⟩), .pointer (some ⟨b2, 0, none⟩), .pointer (some ⟨b3, 0, none⟩)] ∧
    S' = ⟨b3, true, .cells #[.int .i64 k] 3 (0, 0)⟩ :: ⟨b2, true, .cells #[.int .i64 p] 3 (0, 0)⟩ :: ⟨b1, true, .cells #[.slice a xs.length cp] 160 (0, 0)⟩ :: S := by
  refine call_in (args := [.slice a xs.length cp, iv p, iv k]) Tryz.func106 (by decide) rfl rfl ?_
  repeat' first|(refine gX ?_;first|refine o_v rfl rfl ?_|(refine o_box rfl rfl rfl ?_;intro _))|refine o_head0 rfl ?_|refine o_end ?_|refine o_head1 rfl ?_|refine wp_seq ?_|refine o_region ?_|refine w_retA (vs:=[_]) rfl (Res.tmp rfl Res.nil) ?_|refine w_ret (S) (vs:=[_]) rfl (Res.tmp rfl Res.nil) ?_
  exact ⟨_, _, _, rfl, rfl⟩
theorem c181 (E : Env) (S : Ents) (I : Nat → Ents → Prop) (J : Ents → Prop) (lp b1 b2 b3 : Nat) (L : Loop) (xs : List UseG) (a : Option Addr) (cp : Nat) (p k : Int) (hm : xs.length ≤ 17592186044416) (h0 : I 0 S)
    (hin : ∀ j S', I j S' → (⟨b1, true, .cells #[.slice a xs.length cp] 193 (0, 0)⟩ : Ent) ∈ S' ∧ (⟨b2, true, .cells #[.int .i64 p] 3 (0, 0)⟩ : Ent) ∈ S' ∧ (⟨b3, true, .cells #[.int .i64 k] 3 (0, 0)⟩ : Ent) ∈ S' ∧ SlA S' a xs ∧ loopE lp L ∈ S') (hL : L.params.size = 1)
    (hr : ∀ j (h : j < xs.length) S', I j S' → countsU p k xs[j] = true → RoundW Tryz.prog E lp L.fn (rndT L [.agg (useC xs[j])]) L.assign L.body S' fun v S'' => (v = .bool true ∧ I (j + 1) S'') ∨ (v = .bool false ∧ J S''))
    (hs : ∀ j (h : j < xs.length) S', I j S' → countsU p k xs[j] = false → I (j + 1) S') :
    CallW Tryz.prog E 181 #[.func (.yield lp) #[] #[], .pointer (some ⟨b1, 0, none⟩), .pointer (some ⟨b2, 0, none⟩), .pointer (some ⟨b3, 0, none⟩)] S fun _ S' => I xs.length S' ∨ J S' := by
  have i1 : InS b1 S true (.cells #[.slice a xs.length cp] 193 (0, 0)) := ⟨(hin 0 S h0).1⟩
  refine call_in (args := [.func (.yield lp) #[] #[], .pointer (some ⟨b1, 0, none⟩), .pointer (some ⟨b2, 0, none⟩), .pointer (some ⟨b3, 0, none⟩)]) Tryz.func181 (by decide) rfl rfl ?_
  repeat' first|(refine gX ?_;first|refine o_v rfl rfl ?_|(refine o_splitD rfl rfl rfl ?_ ?_<;>intro h)|(refine o_split rfl rfl rfl ?_ ?_<;>intro h<;>fail_if_success exact Bool.noConfusion h)|(refine gL ?_;first|refine o_load rfl rfl rfl rfl ?_|refine o_loadR rfl rfl rfl (by omega) rfl rfl ?_|refine o_loadW rfl rfl rfl rfl ?_|refine o_loadK rfl rfl rfl ?_)|(refine gB ?_;first|refine o_add rfl rfl rfl rfl (by omega) ?_|refine o_eqNil rfl rfl rfl rfl rfl ?_)|(refine gI ?_;first|refine o_indexS rfl rfl rfl rfl rfl rfl (by omega) ?_|refine o_index rfl rfl rfl rfl rfl (by omega) ?_)|(refine gS ?_;first|refine o_store rfl rfl rfl rfl rfl rfl ?_|refine o_storeW rfl rfl rfl rfl rfl rfl ?_)|(refine o_allocZ rfl rfl ?_;intro _)|refine o_skip rfl rfl ?_|refine o_skipN rfl rfl ?_|refine o_iface rfl rfl rfl ?_|(refine o_splitP rfl ?_ ?_<;>intro h<;>fail_if_success exact Bool.noConfusion h))|refine o_head0 rfl ?_|refine o_end ?_|refine o_head1 rfl ?_|refine wp_seq ?_|refine o_region ?_|refine wp_block ?_|refine wp_skip ?_|refine wp_exit ?_|(refine w_condD rfl ?_ ?_<;>intro h)|(refine w_cond rfl ?_ ?_<;>intro h<;>try exact Bool.noConfusion h)|refine w_ret (S) (vs:=[]) rfl Res.nil ?_
  refine wp_loop (fun i t ds S' => ∃ (j : Nat) (t0 : Tm), i = xs.length - j ∧ j ≤ xs.length ∧ [] = ds ∧ t = den [(14, .int .i64 j), (13, .int .i64 xs.length), (12, .slice a xs.length cp), (0, .func (.yield lp) #[] #[]), (2, .pointer (some ⟨b2, 0, none⟩)), (3, .pointer (some ⟨b3, 0, none⟩))] t0 ∧ I j S')
    xs.length ⟨0, _, rfl, Nat.zero_le _, rfl, keep ⟨rfl, rfl, rfl, rfl, rfl, rfl, trivial⟩, h0⟩ ?_
  rintro i t ds S' ⟨j, t0, rfl, hj, rfl, rfl, hI⟩
  obtain ⟨_, m2, m3, m4, m5⟩ := hin j S' hI
  have i2 : InS b2 S' true (.cells #[.int .i64 p] 3 (0, 0)) := ⟨m2⟩
  have i3 : InS b3 S' true (.cells #[.int .i64 k] 3 (0, 0)) := ⟨m3⟩
  have i4 := SlI.mk m4
  have hc1 : ∀ h : j < xs.length, xs[j].period = p → xs[j].known ≤ k → (xs[j].til = 0 ∨ xs[j].til > k) → countsU p k xs[j] = true := fun h h1 h2 h3 => by
    unfold countsU countsB
    simp only [Bool.and_eq_true, decide_eq_true_eq]
    exact ⟨h1, h2, h3.imp id id⟩
  have hc2 : ∀ h : j < xs.length, ¬ (xs[j].period = p ∧ xs[j].known ≤ k ∧ (xs[j].til = 0 ∨ xs[j].til > k)) → I (j + 1) S' := fun h h1 => hs j h S' hI (by
    unfold countsU countsB
    rw [Bool.eq_false_iff]
    simp only [ne_eq, Bool.and_eq_true, decide_eq_true_eq]
    exact fun ⟨h2, h3, h4⟩ => h1 ⟨h2, h3, h4.imp id id⟩)
  repeat' first|(refine gX ?_;first|refine o_v rfl rfl ?_|(refine o_splitD rfl rfl rfl ?_ ?_<;>intro h)|(refine o_split rfl rfl rfl ?_ ?_<;>intro h<;>fail_if_success exact Bool.noConfusion h)|(refine gL ?_;first|refine o_load rfl rfl rfl rfl ?_|refine o_loadR rfl rfl rfl (by omega) rfl rfl ?_|refine o_loadW rfl rfl rfl rfl ?_|refine o_loadK rfl rfl rfl ?_)|(refine gB ?_;first|refine o_add rfl rfl rfl rfl (by omega) ?_|refine o_eqNil rfl rfl rfl rfl rfl ?_)|(refine gC ?_;first|refine o_inv rfl rfl rfl rfl (c228 _ _ xs[j]) ?_|(refine o_yield (L:=L) (vs:=[_]) (S1:=S') rfl rfl rfl rfl (Sb.h.subset m5) hL.symm Sb.h (hr j (by first|done|omega) S' hI (hc1 (by omega) (by assumption) (by assumption) (by first|(left;assumption)|(right;assumption)))) ?_;rintro v S2 hv;refine ⟨inferInstance, ?_⟩;rcases hv with ⟨rfl, hv⟩|⟨rfl, hv⟩))|(refine gI ?_;first|refine o_indexS rfl rfl rfl rfl rfl rfl (by omega) ?_|refine o_index rfl rfl rfl rfl rfl (by omega) ?_)|(refine gS ?_;first|refine o_store rfl rfl rfl rfl rfl rfl ?_|refine o_storeW rfl rfl rfl rfl rfl rfl ?_)|(refine o_allocZ rfl rfl ?_;intro _)|refine o_skip rfl rfl ?_|refine o_skipN rfl rfl ?_|refine o_iface rfl rfl rfl ?_|(refine o_splitP rfl ?_ ?_<;>intro h<;>fail_if_success exact Bool.noConfusion h))|refine o_head0 rfl ?_|refine o_end ?_|refine o_head1 rfl ?_|refine wp_seq ?_|refine o_region ?_|refine wp_block ?_|refine wp_skip ?_|refine wp_exit ?_|(refine w_condD rfl ?_ ?_<;>intro h)|(refine w_cond rfl ?_ ?_<;>intro h<;>try exact Bool.noConfusion h)|refine w_ret (S2) (vs:=[]) rfl Res.nil ?_|refine w_ret (S) (vs:=[]) rfl Res.nil ?_
  all_goals first
    | exact .inr hv
    | exact ⟨xs.length - (j + 1), by omega, _, List.Sublist.refl _, j + 1, _, rfl, by omega, rfl, keep ⟨rfl, rfl, rfl, rfl, rfl, rfl, trivial⟩, hv⟩
    | exact ⟨xs.length - (j + 1), by omega, _, Sb.h, j + 1, _, rfl, by omega, rfl, keep ⟨rfl, rfl, rfl, rfl, rfl, rfl, trivial⟩, hc2 (by omega) fun ⟨q1, q2, q3⟩ => by first | contradiction | (rcases q3 with q3 | q3 <;> contradiction)⟩
    | (have e : j = xs.length := by omega
       exact w_fall (res_sem Res.nil (.inl (e ▸ hI))))
theorem c148 (E : Env) (S : Ents) (xs : List UseG) (a : Option Addr) (cp : Nat) (p k : Int) : CallW Tryz.prog E 148 #[.slice a xs.length cp, iv p, iv k] S fun r S' => ∃ b1 b2 b3, r = .func (.func 181) #[] #[.pointer (some ⟨b1, 0, none⟩), .pointer (some ⟨b2, 0, none⟩), .pointer (some ⟨b3, 0, none⟩)] ∧
    S' = ⟨b3, true, .cells #[.int .i64 k] 3 (0, 0)⟩ :: ⟨b2, true, .cells #[.int .i64 p] 3 (0, 0)⟩ :: ⟨b1, true, .cells #[.slice a xs.length cp] 193 (0, 0)⟩ :: S := by
  refine call_in (args := [.slice a xs.length cp, iv p, iv k]) Tryz.func148 (by decide) rfl rfl ?_
  repeat' first|(refine gX ?_;first|refine o_v rfl rfl ?_|(refine o_box rfl rfl rfl ?_;intro _))|refine o_head0 rfl ?_|refine o_end ?_|refine o_head1 rfl ?_|refine wp_seq ?_|refine o_region ?_|refine w_retA (vs:=[_]) rfl (Res.tmp rfl Res.nil) ?_|refine w_ret (S) (vs:=[_]) rfl (Res.tmp rfl Res.nil) ?_
  exact ⟨_, _, _, rfl, rfl⟩
theorem c182 (E : Env) (S : Ents) (I : Nat → Ents → Prop) (J : Ents → Prop) (lp b1 b2 b3 : Nat) (L : Loop) (xs : List FaultG) (a : Option Addr) (cp : Nat) (p k : Int) (hm : xs.length ≤ 17592186044416) (h0 : I 0 S)
    (hin : ∀ j S', I j S' → (⟨b1, true, .cells #[.slice a xs.length cp] 197 (0, 0)⟩ : Ent) ∈ S' ∧ (⟨b2, true, .cells #[.int .i64 p] 3 (0, 0)⟩ : Ent) ∈ S' ∧ (⟨b3, true, .cells #[.int .i64 k] 3 (0, 0)⟩ : Ent) ∈ S' ∧ SlA S' a xs ∧ loopE lp L ∈ S') (hL : L.params.size = 1)
    (hr : ∀ j (h : j < xs.length) S', I j S' → countsF p k xs[j] = true → RoundW Tryz.prog E lp L.fn (rndT L [.agg (faultC xs[j])]) L.assign L.body S' fun v S'' => (v = .bool true ∧ I (j + 1) S'') ∨ (v = .bool false ∧ J S''))
    (hs : ∀ j (h : j < xs.length) S', I j S' → countsF p k xs[j] = false → I (j + 1) S') :
    CallW Tryz.prog E 182 #[.func (.yield lp) #[] #[], .pointer (some ⟨b1, 0, none⟩), .pointer (some ⟨b2, 0, none⟩), .pointer (some ⟨b3, 0, none⟩)] S fun _ S' => I xs.length S' ∨ J S' := by
  have i1 : InS b1 S true (.cells #[.slice a xs.length cp] 197 (0, 0)) := ⟨(hin 0 S h0).1⟩
  refine call_in (args := [.func (.yield lp) #[] #[], .pointer (some ⟨b1, 0, none⟩), .pointer (some ⟨b2, 0, none⟩), .pointer (some ⟨b3, 0, none⟩)]) Tryz.func182 (by decide) rfl rfl ?_
  repeat' first|(refine gX ?_;first|refine o_v rfl rfl ?_|(refine o_splitD rfl rfl rfl ?_ ?_<;>intro h)|(refine o_split rfl rfl rfl ?_ ?_<;>intro h<;>fail_if_success exact Bool.noConfusion h)|(refine gL ?_;first|refine o_load rfl rfl rfl rfl ?_|refine o_loadR rfl rfl rfl (by omega) rfl rfl ?_|refine o_loadW rfl rfl rfl rfl ?_|refine o_loadK rfl rfl rfl ?_)|(refine gB ?_;first|refine o_add rfl rfl rfl rfl (by omega) ?_|refine o_eqNil rfl rfl rfl rfl rfl ?_)|(refine gI ?_;first|refine o_indexS rfl rfl rfl rfl rfl rfl (by omega) ?_|refine o_index rfl rfl rfl rfl rfl (by omega) ?_)|(refine gS ?_;first|refine o_store rfl rfl rfl rfl rfl rfl ?_|refine o_storeW rfl rfl rfl rfl rfl rfl ?_)|(refine o_allocZ rfl rfl ?_;intro _)|refine o_skip rfl rfl ?_|refine o_skipN rfl rfl ?_|refine o_iface rfl rfl rfl ?_|(refine o_splitP rfl ?_ ?_<;>intro h<;>fail_if_success exact Bool.noConfusion h))|refine o_head0 rfl ?_|refine o_end ?_|refine o_head1 rfl ?_|refine wp_seq ?_|refine o_region ?_|refine wp_block ?_|refine wp_skip ?_|refine wp_exit ?_|(refine w_condD rfl ?_ ?_<;>intro h)|(refine w_cond rfl ?_ ?_<;>intro h<;>try exact Bool.noConfusion h)|refine w_ret (S) (vs:=[]) rfl Res.nil ?_
  refine wp_loop (fun i t ds S' => ∃ (j : Nat) (t0 : Tm), i = xs.length - j ∧ j ≤ xs.length ∧ [] = ds ∧ t = den [(14, .int .i64 j), (13, .int .i64 xs.length), (12, .slice a xs.length cp), (0, .func (.yield lp) #[] #[]), (2, .pointer (some ⟨b2, 0, none⟩)), (3, .pointer (some ⟨b3, 0, none⟩))] t0 ∧ I j S')
    xs.length ⟨0, _, rfl, Nat.zero_le _, rfl, keep ⟨rfl, rfl, rfl, rfl, rfl, rfl, trivial⟩, h0⟩ ?_
  rintro i t ds S' ⟨j, t0, rfl, hj, rfl, rfl, hI⟩
  obtain ⟨_, m2, m3, m4, m5⟩ := hin j S' hI
  have i2 : InS b2 S' true (.cells #[.int .i64 p] 3 (0, 0)) := ⟨m2⟩
  have i3 : InS b3 S' true (.cells #[.int .i64 k] 3 (0, 0)) := ⟨m3⟩
  have i4 := SlI.mk m4
  have hc1 : ∀ h : j < xs.length, xs[j].period = p → xs[j].known ≤ k → (xs[j].til = 0 ∨ xs[j].til > k) → countsF p k xs[j] = true := fun h h1 h2 h3 => by
    unfold countsF countsB
    simp only [Bool.and_eq_true, decide_eq_true_eq]
    exact ⟨h1, h2, h3.imp id id⟩
  have hc2 : ∀ h : j < xs.length, ¬ (xs[j].period = p ∧ xs[j].known ≤ k ∧ (xs[j].til = 0 ∨ xs[j].til > k)) → I (j + 1) S' := fun h h1 => hs j h S' hI (by
    unfold countsF countsB
    rw [Bool.eq_false_iff]
    simp only [ne_eq, Bool.and_eq_true, decide_eq_true_eq]
    exact fun ⟨h2, h3, h4⟩ => h1 ⟨h2, h3, h4.imp id id⟩)
  repeat' first|(refine gX ?_;first|refine o_v rfl rfl ?_|(refine o_splitD rfl rfl rfl ?_ ?_<;>intro h)|(refine o_split rfl rfl rfl ?_ ?_<;>intro h<;>fail_if_success exact Bool.noConfusion h)|(refine gL ?_;first|refine o_load rfl rfl rfl rfl ?_|refine o_loadR rfl rfl rfl (by omega) rfl rfl ?_|refine o_loadW rfl rfl rfl rfl ?_|refine o_loadK rfl rfl rfl ?_)|(refine gB ?_;first|refine o_add rfl rfl rfl rfl (by omega) ?_|refine o_eqNil rfl rfl rfl rfl rfl ?_)|(refine gC ?_;first|refine o_inv rfl rfl rfl rfl (c229 _ _ xs[j]) ?_|(refine o_yield (L:=L) (vs:=[_]) (S1:=S') rfl rfl rfl rfl (Sb.h.subset m5) hL.symm Sb.h (hr j (by first|done|omega) S' hI (hc1 (by omega) (by assumption) (by assumption) (by first|(left;assumption)|(right;assumption)))) ?_;rintro v S2 hv;refine ⟨inferInstance, ?_⟩;rcases hv with ⟨rfl, hv⟩|⟨rfl, hv⟩))|(refine gI ?_;first|refine o_indexS rfl rfl rfl rfl rfl rfl (by omega) ?_|refine o_index rfl rfl rfl rfl rfl (by omega) ?_)|(refine gS ?_;first|refine o_store rfl rfl rfl rfl rfl rfl ?_|refine o_storeW rfl rfl rfl rfl rfl rfl ?_)|(refine o_allocZ rfl rfl ?_;intro _)|refine o_skip rfl rfl ?_|refine o_skipN rfl rfl ?_|refine o_iface rfl rfl rfl ?_|(refine o_splitP rfl ?_ ?_<;>intro h<;>fail_if_success exact Bool.noConfusion h))|refine o_head0 rfl ?_|refine o_end ?_|refine o_head1 rfl ?_|refine wp_seq ?_|refine o_region ?_|refine wp_block ?_|refine wp_skip ?_|refine wp_exit ?_|(refine w_condD rfl ?_ ?_<;>intro h)|(refine w_cond rfl ?_ ?_<;>intro h<;>try exact Bool.noConfusion h)|refine w_ret (S2) (vs:=[]) rfl Res.nil ?_|refine w_ret (S) (vs:=[]) rfl Res.nil ?_
  all_goals first
    | exact .inr hv
    | exact ⟨xs.length - (j + 1), by omega, _, List.Sublist.refl _, j + 1, _, rfl, by omega, rfl, keep ⟨rfl, rfl, rfl, rfl, rfl, rfl, trivial⟩, hv⟩
    | exact ⟨xs.length - (j + 1), by omega, _, Sb.h, j + 1, _, rfl, by omega, rfl, keep ⟨rfl, rfl, rfl, rfl, rfl, rfl, trivial⟩, hc2 (by omega) fun ⟨q1, q2, q3⟩ => by first | contradiction | (rcases q3 with q3 | q3 <;> contradiction)⟩
    | (have e : j = xs.length := by omega
       exact w_fall (res_sem Res.nil (.inl (e ▸ hI))))
theorem c154 (E : Env) (S : Ents) (xs : List FaultG) (a : Option Addr) (cp : Nat) (p k : Int) : CallW Tryz.prog E 154 #[.slice a xs.length cp, iv p, iv k] S fun r S' => ∃ b1 b2 b3, r = .func (.func 182) #[] #[.pointer (some ⟨b1, 0, none⟩), .pointer (some ⟨b2, 0, none⟩), .pointer (some ⟨b3, 0, none⟩)] ∧
    S' = ⟨b3, true, .cells #[.int .i64 k] 3 (0, 0)⟩ :: ⟨b2, true, .cells #[.int .i64 p] 3 (0, 0)⟩ :: ⟨b1, true, .cells #[.slice a xs.length cp] 197 (0, 0)⟩ :: S := by
  refine call_in (args := [.slice a xs.length cp, iv p, iv k]) Tryz.func154 (by decide) rfl rfl ?_
  repeat' first|(refine gX ?_;first|refine o_v rfl rfl ?_|(refine o_box rfl rfl rfl ?_;intro _))|refine o_head0 rfl ?_|refine o_end ?_|refine o_head1 rfl ?_|refine wp_seq ?_|refine o_region ?_|refine w_retA (vs:=[_]) rfl (Res.tmp rfl Res.nil) ?_|refine w_ret (S) (vs:=[_]) rfl (Res.tmp rfl Res.nil) ?_
  exact ⟨_, _, _, rfl, rfl⟩
end Go.Proofs.YtpnnmklacialgaaGreat
namespace Go.Proofs.YtpnnmklacialgaaGreat
open Go.Conc
structure Valid (n : NetG) : Prop where
  m12 : n.mains.length ≤ 12
  mains : ∀ m ∈ n.mains, mainOk m = true ∧ upOk n m = true
  rise : riseN (·.id) (upOk n) n.mains = true
  u60 : n.uses.length ≤ 60
  uses : ∀ u ∈ n.uses, useOk u = true ∧ 0 ≤ placeF n u.main
  r60 : n.readings.length ≤ 60
  reads : ∀ r ∈ n.readings, readOk r = true ∧ 0 ≤ placeF n r.main
  f60 : n.faults.length ≤ 60
  faults : ∀ f ∈ n.faults, faultOk f = true ∧ 0 ≤ placeF n f.main
  p10 : n.prices.length ≤ 10
  prices : ∀ p ∈ n.prices, priceOk p = true
theorem riseF_ok {α : Type} {key : α → Int} {ok : α → Bool} : ∀ {l : List α} {was : Int}, riseF key ok was l = true → ∀ x ∈ l, ok x = true
  | [], _, _, x, hx => by cases hx
  | y :: l, was, h, x, hx => by
    simp only [riseF, Bool.and_eq_true] at h
    rcases List.mem_cons.1 hx with rfl | hx
    · exact h.1.2
    · exact riseF_ok h.2 x hx
theorem riseN_ok {α : Type} {key : α → Int} {ok : α → Bool} {l : List α} (h : riseN key ok l = true) : ∀ x ∈ l, ok x = true := by
  cases l with
  | nil => intro x hx; cases hx
  | cons y l =>
    simp only [riseN, Bool.and_eq_true] at h
    intro x hx
    rcases List.mem_cons.1 hx with rfl | hx
    · exact h.1
    · exact riseF_ok h.2 x hx
theorem valid_of {n : NetG} (h : validB n = true) : Valid n := by
  unfold validB at h
  simp only [Bool.and_eq_true, lenAll_iff] at h
  obtain ⟨⟨⟨⟨⟨⟨⟨⟨⟨⟨h1, h2⟩, h3, h4⟩, h5, h6⟩, h7, h8⟩, h9, h10⟩, h11⟩, h12⟩, h13⟩, h14⟩, h15⟩ := h
  exact ⟨h1, fun m hm => ⟨h2 m hm, riseN_ok h11 m hm⟩, h11, h3, fun u hu => ⟨h4 u hu, of_decide_eq_true (riseF_ok h13 u hu)⟩, h5, fun r hr => ⟨h6 r hr, of_decide_eq_true (riseF_ok h14 r hr)⟩, h7, fun f hf => ⟨h8 f hf, of_decide_eq_true (riseF_ok h15 f hf)⟩, h9, h10⟩
theorem idxF_spec {α : Type} {p : α → Bool} : ∀ {l : List α} {i : Nat}, (0 ≤ idxF p l i → ∃ j, idxF p l i = ((i + j : Nat) : Int) ∧ ∃ h : j < l.length, p l[j] = true) ∧ (idxF p l i < 0 → idxF p l i = -1)
  | [], i => ⟨fun h => by simp [idxF] at h, fun _ => rfl⟩
  | x :: l, i => by
    simp only [idxF]
    by_cases hp : p x = true
    · rw [if_pos hp]
      exact ⟨fun _ => ⟨0, by simp, by simp, hp⟩, fun h => by omega⟩
    · rw [if_neg hp]
      have ih := idxF_spec (p := p) (l := l) (i := i + 1)
      refine ⟨fun h => ?_, ih.2⟩
      obtain ⟨j, h1, h2, h3⟩ := ih.1 h
      exact ⟨j + 1, by rw [h1]; congr 1; omega, by simp; omega, by simpa using h3⟩
def idx (n : NetG) (id : Int) : Nat := (placeF n id).toNat
theorem idx_spec {n : NetG} {id : Int} (h : 0 ≤ placeF n id) : placeF n id = (idx n id : Int) ∧ ∃ h : idx n id < n.mains.length, n.mains[idx n id].id = id := by
  obtain ⟨j, h1, h2, h3⟩ := (idxF_spec (p := fun x : MainG => x.id == id) (l := n.mains) (i := 0)).1 h
  have e : placeF n id = (j : Int) := by unfold placeF; rw [h1]; simp
  have e2 : idx n id = j := by unfold idx; rw [e]; simp
  rw [e2]
  exact ⟨e, h2, by simpa using h3⟩
def Nn (M : Int) (x : RangeG) : Prop := 0 ≤ x.lo ∧ x.lo ≤ M ∧ 0 ≤ x.hi ∧ x.hi ≤ M
theorem Nn.bd {M : Int} {x : RangeG} (h : Nn M x) : Bd M x := by unfold Nn at h; unfold Bd; omega
theorem Nn.mono {M M' : Int} {x : RangeG} (h : Nn M x) (hm : M ≤ M') : Nn M' x := by unfold Nn at *; omega
theorem nn_zero {M : Int} (h : 0 ≤ M) : Nn M zR := by unfold Nn zR; simp only; omega
theorem vol_nn {u : UseG} (h : useOk u = true) : Nn 1000000 (volR u) := by
  obtain ⟨⟨h1, h2⟩, h3, h4⟩ := vol_bd h
  unfold Nn volR
  simp only
  have a1 := Int.ediv_nonneg h1 (show (0 : Int) ≤ 60 by omega)
  omega
def Ge (x : RangeG) : Prop := 0 ≤ x.lo ∧ 0 ≤ x.hi
theorem sum_sub {l l' : List RangeG} (hs : List.Sublist l l') (h : ∀ x ∈ l', Ge x) : (sumR l).lo ≤ (sumR l').lo ∧ (sumR l).hi ≤ (sumR l').hi ∧ Ge (sumR l) := by
  induction hs with
  | slnil => simp [sumR, Ge]
  | @cons l l' x _ ih =>
    have := ih fun y hy => h y (.tail _ hy)
    have hx := h x (.head _)
    unfold Ge at *
    simp only [sumR]
    omega
  | @cons_cons l l' x _ ih =>
    have := ih fun y hy => h y (.tail _ hy)
    have hx := h x (.head _)
    unfold Ge at *
    simp only [sumR]
    omega
theorem sumR_app {l m : List RangeG} : sumR (l ++ m) = ⟨(sumR l).lo + (sumR m).lo, (sumR l).hi + (sumR m).hi⟩ := by
  induction l with
  | nil => simp [sumR]
  | cons x l ih => simp only [List.cons_append, sumR, ih, Int.add_assoc]
theorem sum_set {l : List RangeG} {i : Nat} {x : RangeG} (h : ∀ y ∈ l, Ge y) (hx : Ge x) : (sumR (l.set i x)).lo ≤ (sumR l).lo + x.lo ∧ (sumR (l.set i x)).hi ≤ (sumR l).hi + x.hi := by
  induction l generalizing i with
  | nil => unfold Ge at hx; simp [sumR]; omega
  | cons y l ih =>
    have hy := h y (.head _)
    have hl := (sum_sub (List.Sublist.refl l) fun z hz => h z (.tail _ hz)).2.2
    unfold Ge at *
    cases i with
    | zero => simp only [List.set_cons_zero, sumR]; omega
    | succ i =>
      have := ih (i := i) fun z hz => h z (.tail _ hz)
      simp only [List.set_cons_succ, sumR]; omega
theorem mem_set {α : Type} {l : List α} {i : Nat} {x y : α} (h : y ∈ l.set i x) : y = x ∨ y ∈ l := by
  rcases List.mem_or_eq_of_mem_set h with h | h
  · exact .inr h
  · exact .inl h
theorem bd_part {M : Int} (h0 : 0 ≤ M) {p : List RangeG} {i : Nat} (h : ∀ x ∈ p, Bd M x) : Bd M (partOf p i) := by
  unfold partOf
  rcases Nat.lt_or_ge i p.length with h1 | h1
  · simp [List.getD, h1]; exact h _ (List.getElem_mem h1)
  · simp [List.getD, h1]; unfold Bd zR; simp only; omega
theorem nn_part {M : Int} (h0 : 0 ≤ M) {p : List RangeG} {i : Nat} (h : ∀ x ∈ p, Nn M x) : Nn M (partOf p i) := by
  unfold partOf
  rcases Nat.lt_or_ge i p.length with h1 | h1
  · simp [List.getD, h1]; exact h _ (List.getElem_mem h1)
  · simp [List.getD, h1]; exact nn_zero h0
def z12 : List RangeG := List.replicate 12 zR
def stepU (n : NetG) (acc : List RangeG) (u : UseG) : List RangeG := acc.set (idx n u.main) (sumR [partOf acc (idx n u.main), volR u])
def usedT (n : NetG) (p k : Int) (j : Nat) : List RangeG := ((n.uses.take j).filter (countsU p k)).foldl (stepU n) z12
def usedN (n : NetG) (p k : Int) : List RangeG := usedT n p k n.uses.length
theorem foldU_nn {n : NetG} : ∀ {l : List UseG} {acc : List RangeG} {B : Int}, 0 ≤ B → (∀ x ∈ acc, Nn B x) → (∀ u ∈ l, useOk u = true) → ∀ x ∈ l.foldl (stepU n) acc, Nn (B + 1000000 * l.length) x
  | [], acc, B, hB, ha, _ => by simpa using ha
  | u :: l, acc, B, hB, ha, hl => by
    have hv := vol_nn (hl u (.head _))
    have hp := nn_part (i := idx n u.main) hB ha
    have hstep : ∀ x ∈ stepU n acc u, Nn (B + 1000000) x := by
      intro x hx
      rcases mem_set hx with rfl | hx
      · unfold Nn at hv hp ⊢
        simp only [sumR]; omega
      · exact (ha x hx).mono (by omega)
    have := foldU_nn (n := n) (l := l) (by omega) hstep fun v hv => hl v (.tail _ hv)
    intro x hx
    refine (this x hx).mono ?_
    simp only [List.length_cons, Int.natCast_add]
    omega
theorem usedT_nn {n : NetG} (h : Valid n) {p k : Int} {j : Nat} : ∀ x ∈ usedT n p k j, Nn 60000000 x := by
  intro x hx
  have := foldU_nn (n := n) (l := (n.uses.take j).filter (countsU p k)) (acc := z12) (B := 0) (by omega) (fun x hx => by rw [List.eq_of_mem_replicate hx]; exact nn_zero (by omega)) (fun u hu => (h.uses u (List.mem_of_mem_take (List.mem_filter.1 hu).1)).1) x hx
  refine this.mono ?_
  have h1 := filter_len (l := n.uses) (q := countsU p k) (j := j)
  have := h.u60
  omega
theorem foldU_len {n : NetG} : ∀ {l : List UseG} {acc : List RangeG}, (l.foldl (stepU n) acc).length = acc.length
  | [], _ => rfl
  | u :: l, acc => by rw [List.foldl_cons, foldU_len]; simp [stepU]
theorem usedT_len {n : NetG} {p k : Int} {j : Nat} : (usedT n p k j).length = 12 := by unfold usedT; rw [foldU_len]; simp [z12]
theorem usedT_succ {n : NetG} {p k : Int} {j : Nat} (h : j < n.uses.length) : usedT n p k (j + 1) = if countsU p k n.uses[j] = true then stepU n (usedT n p k j) n.uses[j] else usedT n p k j := by
  unfold usedT
  rw [filter_snoc h, List.foldl_append]
  split <;> simp
def readT (n : NetG) (by' : ReadG → Bool) (p k : Int) (i : Nat) (x : RangeG) (j : Nat) : RangeG := ((n.readings.take j).filter (countsR p k)).foldl (fun acc r => if r.main = idOf n.mains i ∧ by' r = true then meetR acc r.volume else acc) x
def readN (n : NetG) (by' : ReadG → Bool) (p k : Int) (i : Nat) (x : RangeG) : RangeG := readT n by' p k i x n.readings.length
theorem readT_succ {n : NetG} {by' : ReadG → Bool} {p k : Int} {i : Nat} {x : RangeG} {j : Nat} (h : j < n.readings.length) :
    readT n by' p k i x (j + 1) = if countsR p k n.readings[j] = true then (if n.readings[j].main = idOf n.mains i ∧ by' n.readings[j] = true then meetR (readT n by' p k i x j) n.readings[j].volume else readT n by' p k i x j) else readT n by' p k i x j := by
  unfold readT
  rw [filter_snoc h, List.foldl_append]
  split <;> simp
def upStep (n : NetG) (by' : ReadG → Bool) (p k : Int) (P : List RangeG) (i : Nat) : List RangeG := P.set i (readN n by' p k i (restR n.mains (usedN n p k) P i (-3)))
def upsD (n : NetG) (by' : ReadG → Bool) (p k : Int) : Nat → List RangeG
  | 0 => z12
  | d + 1 => upStep n by' p k (upsD n by' p k d) (n.mains.length - 1 - d)
def evD (n : NetG) (by' : ReadG → Bool) (p k : Int) : Nat → Bool
  | 0 => true
  | d + 1 => evD n by' p k d && decide ((partOf (upsD n by' p k (d + 1)) (n.mains.length - 1 - d)).lo ≤ (partOf (upsD n by' p k (d + 1)) (n.mains.length - 1 - d)).hi)
def upsN (n : NetG) (by' : ReadG → Bool) (p k : Int) : List RangeG := upsD n by' p k n.mains.length
def evenN (n : NetG) (by' : ReadG → Bool) (p k : Int) : Bool := evD n by' p k n.mains.length
theorem upsD_len {n : NetG} {by' : ReadG → Bool} {p k : Int} : ∀ {d : Nat}, (upsD n by' p k d).length = 12
  | 0 => by simp [upsD, z12]
  | d + 1 => by simp [upsD, upStep, upsD_len]
theorem foldR_nn {n : NetG} {by' : ReadG → Bool} {i : Nat} {M : Int} (hM : 100000000 ≤ M) : ∀ {l : List ReadG} {x : RangeG}, Nn M x → (∀ r ∈ l, readOk r = true) → Nn M (l.foldl (fun acc r => if r.main = idOf n.mains i ∧ by' r = true then meetR acc r.volume else acc) x)
  | [], x, hx, _ => hx
  | r :: l, x, hx, hl => by
    refine foldR_nn hM (l := l) ?_ fun r hr => hl r (.tail _ hr)
    dsimp only
    split
    · have := hl r (.head _)
      simp only [readOk, rangeOk, Bool.and_eq_true, decide_eq_true_eq] at this
      unfold Nn meetR at *
      simp only
      omega
    · exact hx
theorem readT_nn {n : NetG} (h : Valid n) {by' : ReadG → Bool} {p k : Int} {i : Nat} {M : Int} {x : RangeG} {j : Nat} (hM : 100000000 ≤ M) (hx : Nn M x) : Nn M (readT n by' p k i x j) :=
  foldR_nn hM hx fun r hr => (h.reads r (List.mem_of_mem_take (List.mem_filter.1 hr).1)).1
theorem leak_nn {n : NetG} (h : Valid n) {i : Nat} : Nn 100000000 (leakOf n.mains i) := by
  unfold leakOf
  cases hm : n.mains[i]? with
  | none => exact nn_zero (by omega)
  | some m =>
    have := (h.mains m (List.mem_of_getElem? hm)).1
    simp only [mainOk, rangeOk, Bool.and_eq_true, decide_eq_true_eq] at this
    unfold Nn
    simp only
    omega
theorem belowN_sub {ms : List MainG} {id but : Int} {P : List RangeG} (hl : ms.length ≤ P.length) : List.Sublist (((belowN ms id).filter fun (k : Nat) => decide ((k : Int) ≠ but)).map (partOf P)) P := by
  have h1 : List.Sublist ((belowN ms id).filter fun (k : Nat) => decide ((k : Int) ≠ but)) (List.range ms.length) := (List.filter_sublist).trans (by unfold belowN belowT; exact List.filter_sublist)
  refine (h1.map (partOf P)).trans ?_
  have h2 : (List.range ms.length).map (partOf P) = P.take ms.length := by
    apply List.ext_getElem?
    intro i
    rw [List.getElem?_map, List.getElem?_take]
    by_cases hi : i < ms.length
    · rw [List.getElem?_range hi, if_pos hi]
      simp [partOf_get (show i < P.length by omega), List.getElem?_eq_getElem (show i < P.length by omega)]
    · rw [if_neg hi, List.getElem?_eq_none (by simp; omega)]; rfl
  rw [h2]
  exact List.take_sublist _ _
theorem restR_nn {n : NetG} (h : Valid n) {p k : Int} {P : List RangeG} (hl : P.length = 12) (hP : ∀ x ∈ P, Ge x) {i : Nat} {but : Int} :
    0 ≤ (restR n.mains (usedN n p k) P i but).lo ∧ (restR n.mains (usedN n p k) P i but).lo ≤ 160000000 + (sumR P).lo ∧ 0 ≤ (restR n.mains (usedN n p k) P i but).hi ∧ (restR n.mains (usedN n p k) P i but).hi ≤ 160000000 + (sumR P).hi := by
  unfold restR restL
  rw [sumR_app, sumR_app]
  have h1 := sum_sub (belowN_sub (ms := n.mains) (id := idOf n.mains i) (but := but) (P := P) (by have := h.m12; omega)) hP
  have h2 := nn_part (i := i) (by omega) (usedT_nn h (p := p) (k := k) (j := n.uses.length))
  have h3 := leak_nn h (i := i)
  change Nn 60000000 (partOf (usedN n p k) i) at h2
  unfold Nn Ge at *
  split <;> split <;> simp only [sumR] <;> omega
theorem upsD_nn {n : NetG} (h : Valid n) {by' : ReadG → Bool} {p k : Int} : ∀ {d : Nat}, (∀ x ∈ upsD n by' p k d, Ge x) ∧ (sumR (upsD n by' p k d)).lo ≤ 200000000 * (2 ^ d - 1) ∧ (sumR (upsD n by' p k d)).hi ≤ 200000000 * (2 ^ d - 1)
  | 0 => by
    refine ⟨fun x hx => ?_, by simp [upsD, z12, sumR, zR, List.replicate], by simp [upsD, z12, sumR, zR, List.replicate]⟩
    rw [List.eq_of_mem_replicate hx]; unfold Ge zR; simp
  | d + 1 => by
    obtain ⟨h1, h2, h3⟩ := upsD_nn h (by' := by') (p := p) (k := k) (d := d)
    have hr := restR_nn h (p := p) (k := k) upsD_len h1 (i := n.mains.length - 1 - d) (but := -3)
    have hpow : (1 : Int) ≤ 2 ^ d := by
      have : 0 < (2 : Int) ^ d := Int.pow_pos (by omega)
      omega
    generalize hM : (200000000 * 2 ^ d : Int) = M at *
    have hM2 : (200000000 * (2 ^ (d + 1) - 1) : Int) = 2 * M - 200000000 := by rw [Int.pow_succ, ← hM]; omega
    have hM3 : (200000000 * (2 ^ d - 1) : Int) = M - 200000000 := by rw [← hM]; omega
    have hM4 : 200000000 ≤ M := by rw [← hM]; omega
    rw [hM3] at h2 h3
    rw [hM2]
    have hx : Nn (M - 40000000) (restR n.mains (usedN n p k) (upsD n by' p k d) (n.mains.length - 1 - d) (-3)) := by unfold Nn; omega
    have hx2 := readT_nn h (by' := by') (p := p) (k := k) (i := n.mains.length - 1 - d) (j := n.readings.length) (by omega) hx
    change Nn (M - 40000000) (readN n by' p k (n.mains.length - 1 - d) _) at hx2
    have hge : Ge (readN n by' p k (n.mains.length - 1 - d) (restR n.mains (usedN n p k) (upsD n by' p k d) (n.mains.length - 1 - d) (-3))) := ⟨hx2.1, hx2.2.2.1⟩
    have hs := sum_set (i := n.mains.length - 1 - d) h1 hge
    refine ⟨fun x hx' => ?_, ?_, ?_⟩
    · rcases mem_set hx' with rfl | hx'
      · exact hge
      · exact h1 x hx'
    · unfold Nn at hx2
      simp only [upsD, upStep]; omega
    · unfold Nn at hx2
      simp only [upsD, upStep]; omega
theorem ge_sum_mem {l : List RangeG} (h : ∀ x ∈ l, Ge x) : ∀ x ∈ l, x.lo ≤ (sumR l).lo ∧ x.hi ≤ (sumR l).hi := by
  intro x hx
  have := sum_sub (List.singleton_sublist.2 hx) h
  simp only [sumR] at this
  omega
theorem pow_le12 : ∀ {d : Nat}, d ≤ 12 → (200000000 * (2 ^ d - 1) : Int) ≤ 900000000000 := by
  intro d hd
  have : (2 : Int) ^ d ≤ 2 ^ 12 := by
    have := Nat.pow_le_pow_right (n := 2) (by omega) hd
    exact_mod_cast this
  have e : (2 : Int) ^ 12 = 4096 := by decide
  omega
theorem upsD_bd {n : NetG} (h : Valid n) {by' : ReadG → Bool} {p k : Int} {d : Nat} (hd : d ≤ 12) : (∀ x ∈ upsD n by' p k d, Nn 900000000000 x) ∧ (sumR (upsD n by' p k d)).lo ≤ 900000000000 ∧ (sumR (upsD n by' p k d)).hi ≤ 900000000000 := by
  obtain ⟨h1, h2, h3⟩ := upsD_nn h (by' := by') (p := p) (k := k) (d := d)
  have hp := pow_le12 hd
  refine ⟨fun x hx => ?_, by omega, by omega⟩
  have := ge_sum_mem h1 x hx
  have := h1 x hx
  unfold Ge at this
  unfold Nn; omega
def upOf (n : NetG) (i : Nat) : Int := match n.mains[i]? with | some m => m.up | none => 0
def stepH (n : NetG) (by' : ReadG → Bool) (p k : Int) (H : List RangeG) (i : Nat) : List RangeG :=
  let P := upsN n by' p k
  let H1 := H.set i (partOf P i)
  if 0 ≤ placeF n (upOf n i) then H1.set i (meetR (partOf P i) (lessR (partOf H1 (idx n (upOf n i))) (restR n.mains (usedN n p k) P (idx n (upOf n i)) (i : Int)))) else H1
def thrT (n : NetG) (by' : ReadG → Bool) (p k : Int) : Nat → List RangeG
  | 0 => z12
  | i + 1 => stepH n by' p k (thrT n by' p k i) i
def thrN (n : NetG) (by' : ReadG → Bool) (p k : Int) : List RangeG := thrT n by' p k n.mains.length
theorem thrT_len {n : NetG} {by' : ReadG → Bool} {p k : Int} : ∀ {i : Nat}, (thrT n by' p k i).length = 12
  | 0 => by simp [thrT, z12]
  | i + 1 => by
    have := thrT_len (n := n) (by' := by') (p := p) (k := k) (i := i)
    simp only [thrT, stepH]
    split <;> simp [this]
theorem thrT_bd {n : NetG} (h : Valid n) {by' : ReadG → Bool} {p k : Int} : ∀ {i : Nat}, ∀ x ∈ thrT n by' p k i, Bd (1000000000000 * (i + 1)) x
  | 0 => by
    intro x hx
    rw [List.eq_of_mem_replicate hx]
    unfold Bd zR; simp
  | i + 1 => by
    have ih := thrT_bd h (by' := by') (p := p) (k := k) (i := i)
    have hu := upsD_bd h (by' := by') (p := p) (k := k) h.m12
    change (∀ x ∈ upsN n by' p k, _) ∧ (sumR (upsN n by' p k)).lo ≤ _ ∧ (sumR (upsN n by' p k)).hi ≤ _ at hu
    have hp := nn_part (i := i) (by omega) hu.1
    have hr := restR_nn h (p := p) (k := k) (P := upsN n by' p k) upsD_len (fun x hx => ⟨(hu.1 x hx).1, (hu.1 x hx).2.2.1⟩) (i := idx n (upOf n i)) (but := (i : Int))
    have e : (1000000000000 * (((i + 1 : Nat) : Int) + 1)) = 1000000000000 * ((i : Int) + 1) + 1000000000000 := by rw [Int.natCast_add]; omega
    rw [e]
    generalize hB : (1000000000000 * ((i : Int) + 1) : Int) = B at *
    have hB2 : 1000000000000 ≤ B := by rw [← hB]; omega
    have h1 : ∀ x ∈ (thrT n by' p k i).set i (partOf (upsN n by' p k) i), Bd B x := fun x hx => by
      rcases mem_set hx with rfl | hx
      · exact hp.bd.mono (by omega)
      · exact ih x hx
    intro x hx
    simp only [thrT, stepH] at hx
    split at hx
    · rcases mem_set hx with rfl | hx
      · have hk := bd_part (i := idx n (upOf n i)) (by omega) h1
        unfold Nn at hp
        unfold Bd at hk
        unfold Bd meetR lessR
        simp only
        omega
      · exact (h1 x hx).mono (by omega)
    · exact (h1 x hx).mono (by omega)
theorem thrN_bd {n : NetG} (h : Valid n) {by' : ReadG → Bool} {p k : Int} : ∀ x ∈ thrN n by' p k, Bd 13000000000000 x := fun x hx => by
  refine (thrT_bd h x hx).mono ?_
  have := h.m12
  omega
end Go.Proofs.YtpnnmklacialgaaGreat
namespace Go.Proofs.YtpnnmklacialgaaGreat
open Go.Conc
attribute [local irreducible] WP OpF OpX CallW SemH retQ AnyF RoundW
instance : Zo 140 #[.slice none 0 0, .slice none 0 0, .slice none 0 0, .slice none 0 0, .slice none 0 0, .int .i64 0, .int .i64 0, .int .i64 0, .int .i64 0, .int .i64 0, .int .i64 0, .int .i64 0, .int .i64 0, .int .i64 0, .int .i64 0, .int .i64 0, .int .i64 0, .int .i64 0, .int .i64 0, .int .i64 0, .int .i64 0, .int .i64 0, .int .i64 0, .int .i64 0, .int .i64 0, .int .i64 0, .int .i64 0, .int .i64 0, .int .i64 0, .int .i64 0, .int .i64 0, .int .i64 0, .int .i64 0, .int .i64 0, .int .i64 0, .int .i64 0, .int .i64 0, .int .i64 0, .int .i64 0, .int .i64 0, .int .i64 0, .int .i64 0, .int .i64 0, .int .i64 0, .int .i64 0, .int .i64 0, .int .i64 0, .int .i64 0, .int .i64 0, .int .i64 0, .int .i64 0, .int .i64 0, .int .i64 0, .int .i64 0, .int .i64 0, .int .i64 0, .int .i64 0, .int .i64 0, .int .i64 0, .int .i64 0, .int .i64 0, .int .i64 0, .int .i64 0, .int .i64 0, .int .i64 0, .int .i64 0, .int .i64 0, .int .i64 0, .int .i64 0, .int .i64 0, .int .i64 0, .int .i64 0, .int .i64 0, .int .i64 0, .int .i64 0, .int .i64 0, .int .i64 0, .bool false] := ⟨by kernel_rfl⟩
def newC (a b c d e : Value) : Array Value := #[a, b, c, d, e, .int .i64 0, .int .i64 0, .int .i64 0, .int .i64 0, .int .i64 0, .int .i64 0, .int .i64 0, .int .i64 0, .int .i64 0, .int .i64 0, .int .i64 0, .int .i64 0, .int .i64 0, .int .i64 0, .int .i64 0, .int .i64 0, .int .i64 0, .int .i64 0, .int .i64 0, .int .i64 0, .int .i64 0, .int .i64 0, .int .i64 0, .int .i64 0, .int .i64 0, .int .i64 0, .int .i64 0, .int .i64 0, .int .i64 0, .int .i64 0, .int .i64 0, .int .i64 0, .int .i64 0, .int .i64 0, .int .i64 0, .int .i64 0, .int .i64 0, .int .i64 0, .int .i64 0, .int .i64 0, .int .i64 0, .int .i64 0, .int .i64 0, .int .i64 0, .int .i64 0, .int .i64 0, .int .i64 0, .int .i64 0, .int .i64 0, .int .i64 0, .int .i64 0, .int .i64 0, .int .i64 0, .int .i64 0, .int .i64 0, .int .i64 0, .int .i64 0, .int .i64 0, .int .i64 0, .int .i64 0, .int .i64 0, .int .i64 0, .int .i64 0, .int .i64 0, .int .i64 0, .int .i64 0, .int .i64 0, .int .i64 0, .int .i64 0, .int .i64 0, .int .i64 0, .int .i64 0, .bool true]
theorem newC_tree (a b c d e : Value) : TreeP (newC a b c d e) a z12 z12 z12 true := by
  have hr : ∀ o, (o = 5 ∨ o = 29 ∨ o = 53) → IsRow (newC a b c d e) o z12 := fun o ho i hi q hq => by
    have hi' : i < 12 := by simpa [z12] using hi
    have hq' : q < 2 := hq
    have h1 : (encRange.enc z12[i])[q]? = some (.int .i64 0) := by
      have : z12[i] = zR := List.eq_of_mem_replicate (List.getElem_mem hi)
      rw [this]
      rcases (show q = 0 ∨ q = 1 by omega) with rfl | rfl <;> rfl
    refine Eq.trans ?_ h1.symm
    show (newC a b c d e)[o + i * 2 + q]? = _
    have h2 : ∀ j, 5 ≤ j → j < 77 → (newC a b c d e)[j]? = some (.int .i64 0) := by
      intro j h5 h77
      have hall : ∀ m ∈ List.range 72, ((newC a b c d e).toList[m + 5]?) = some (.int .i64 0) := by
        have : (newC a b c d e).toList = [a, b, c, d, e] ++ (List.replicate 72 (Value.int .i64 0) ++ [.bool true]) := rfl
        intro m hm
        have hm' := List.mem_range.1 hm
        rw [this, List.getElem?_append_right (by simp), List.getElem?_append_left (by simp; omega), List.getElem?_replicate, if_pos (by simp; omega)]
      have := hall (j - 5) (List.mem_range.2 (by omega))
      rw [show j - 5 + 5 = j by omega] at this
      simpa using this
    exact h2 _ (by omega) (by omega)
  exact ⟨rfl, rfl, hr 5 (by omega), hr 29 (by omega), hr 53 (by omega), rfl, by simp [z12], by simp [z12], by simp [z12]⟩
theorem c82 (E : Env) (S : Ents) (n : NetG) (a b c d e : Value) (p k : Int) (F : Nat) (fs cs : Array Value) (by' : ReadG → Bool) (hn : NetV S a b c d e n) (hV : Valid n)
    (hby : ∀ (E : Env) (S' : Ents) (x : ReadG), List.Sublist S S' → CallW Tryz.prog E F (fs ++ #[.agg (readC x)] ++ cs) S' fun r S'' => r = .bool (by' x) ∧ S'' = S') :
    CallW Tryz.prog E 82 #[.agg #[a, b, c, d, e], iv p, iv k, .func (.func F) fs cs] S fun r S' => ∃ bt c', r = .pointer (some ⟨bt, 0, none⟩) ∧ S' = ⟨bt, true, .cells c' 140 (0, 0)⟩ :: S ∧ TreeP c' a (usedN n p k) (upsN n by' p k) (thrN n by' p k) (evenN n by' p k) := by
  have hn0 := hn.mains
  obtain ⟨qm, cm, rfl, _, hrm⟩ := hn0
  refine call_inM (args := [.agg #[.slice qm n.mains.length cm, b, c, d, e], iv p, iv k, .func (.func F) fs cs]) Tryz.func82 (by decide) rfl rfl ?_
  repeat' first|(refine gX ?_;first|refine o_v rfl rfl ?_|(refine o_splitD rfl rfl rfl ?_ ?_<;>intro h)|(refine o_split rfl rfl rfl ?_ ?_<;>intro h<;>fail_if_success exact Bool.noConfusion h)|(refine gL ?_;first|refine o_load rfl rfl rfl rfl ?_|refine o_loadR rfl rfl rfl (by omega) rfl rfl ?_|refine o_loadW rfl rfl rfl rfl ?_|refine o_loadK rfl rfl rfl ?_)|(refine gF ?_;first|refine o_fieldI rfl rfl rfl rfl ?_|refine o_field rfl rfl rfl rfl ?_)|(refine gB ?_;first|refine o_add rfl rfl rfl rfl (by omega) ?_|refine o_sub rfl rfl rfl rfl (by omega) ?_|refine o_eqNil rfl rfl rfl rfl rfl ?_)|(refine gC ?_;first|(refine o_callZ (R:=fun r S' => ∃ Δ, Own r n.uses Δ ∧ S' = Δ ++ _) rfl rfl rfl (c139 _ _ n _ _ _ _ _ (hn.sub Sb.h) (by have := hV.u60; omega)) ?_;rintro r _ ⟨Δu, hou, rfl⟩;obtain ⟨ua, uc, rfl, _, hua⟩ := hou.slv;have := SlI.mk hua;refine ⟨inferInstance, ?_⟩)|(refine o_callZ rfl rfl rfl (c148 _ _ n.uses _ _ _ _) ?_;rintro r _ ⟨b1, b2, b3, rfl, rfl⟩;refine ⟨inferInstance, ?_⟩))|(refine gI ?_;first|refine o_indexS rfl rfl rfl rfl rfl rfl (by omega) ?_|refine o_index rfl rfl rfl rfl rfl (by omega) ?_)|(refine gS ?_;first|refine o_store rfl rfl rfl rfl rfl rfl ?_|refine o_storeW rfl rfl rfl rfl rfl rfl ?_)|(refine o_allocZ rfl rfl ?_;intro _)|(refine o_box rfl rfl rfl ?_;intro _)|refine o_skip rfl rfl ?_|refine o_skipN rfl rfl ?_|refine o_build rfl rfl rfl rfl rfl ?_|(refine o_bslice rfl rfl rfl rfl rfl rfl rfl ?_;intro _)|(refine o_splitP rfl ?_ ?_<;>intro h<;>fail_if_success exact Bool.noConfusion h))|refine o_head0 rfl ?_|refine o_end ?_|refine o_head1 rfl ?_|(show WP _ _ _ _ (.seq (.seq (.region 2 _ _) _) _) _ _ _ _;refine wp_cut (fun t ds S' => ∃ (t0 : Tm) (b4 b7 b9 bt r : Nat) (c' : Array Value), dsOf [r] = ds ∧ mks [r] ++ ⟨b9, true, .cells #[.pointer (some ⟨bt, 0, none⟩)] 133 (0, 0)⟩ :: ⟨bt, true, .cells c' 140 (0, 0)⟩ :: ⟨b7, true, .cells #[.func (.func F) fs cs] 137 (0, 0)⟩ :: ⟨b4, true, .cells #[.slice qm n.mains.length cm, b, c, d, e] 28 (0, 0)⟩ :: S = S' ∧ t = den [(1, iv p), (2, iv k), (4, .pointer (some ⟨b4, 0, none⟩)), (7, .pointer (some ⟨b7, 0, none⟩)), (9, .pointer (some ⟨b9, 0, none⟩))] t0 ∧ TreeP c' (.slice qm n.mains.length cm) (usedN n p k) z12 z12 true) ?_ ?_)|refine wp_seq ?_|refine o_region ?_|refine wp_block ?_|refine wp_skip ?_|refine wp_exit ?_|(refine w_condD rfl ?_ ?_<;>intro h)|(refine w_cond rfl ?_ ?_<;>intro h<;>try exact Bool.noConfusion h)|refine w_ret (S) (vs:=[_]) rfl (Res.tmp rfl Res.nil) ?_|(show WP _ _ _ _ (.region 5 _ true) _ _ _ _;refine o_drawn [Zt 0,Zt 1,Zt 2,Zt 3,Zt 4,Zt 5,Zt 6,Zt 7,Zf 8,Zt 12,Zt 13,Zf 9,Zf 10,Zf 11,Zf 14,Zt 15] mixed (by kernel_rfl) ?_)|(show WP _ _ _ _ (.region 6 _ true) _ _ _ _;refine o_drawn [Zt 0,Zt 1,Zt 2,Zt 3,Zt 4,Zt 5,Zt 6,Zf 7,Zt 8] mixed (by kernel_rfl) ?_)|(show WP _ _ _ _ (.region 10 _ true) _ _ _ _;refine o_drawn [Zt 0,Zt 1,Zf 2,Zf 3,Zf 4,Zf 5,Zt 6] mixed (by kernel_rfl) ?_)|(show WP _ _ _ _ (.region 13 _ true) _ _ _ _;refine o_drawnZ [Zf 0,Zf 1,Zf 2,Zf 3,Zf 4,Zf 5,Zf 6,Zf 7,Zf 8,Zf 9,Zf 10,Zf 11,Zt 12,Zf 13] [] mixed (by kernel_rfl) (List.nil_sublist _) ?_)|(show WP _ _ _ _ (.region 14 _ true) _ _ _ _;refine o_drawn [Zt 0,Zt 1,Zf 2,Zf 3,Zf 4,Zf 5,Zf 6,Zf 7,Zf 8,Zf 9,Zt 10] mixed (by kernel_rfl) ?_)|(show WP _ _ _ _ (.region 15 _ true) _ _ _ _;refine o_drawnZ [Zf 0,Zf 1,Zf 2,Zf 3,Zf 4,Zf 5,Zf 6,Zf 7,Zf 8,Zf 9,Zf 10,Zf 11,Zf 12,Zf 13,Zf 14,Zf 15,Zf 16,Zf 17,Zf 18,Zf 19,Zt 20] [] mixed (by kernel_rfl) (List.nil_sublist _) ?_)|(show WP _ _ _ _ (.region 21 _ true) _ _ _ _;refine o_drawnZ [Zf 0,Zf 1,Zf 2,Zf 3,Zf 4,Zf 5,Zf 6,Zf 7,Zf 8,Zf 9,Zf 10,Zt 11] [] mixed (by kernel_rfl) (List.nil_sublist _) ?_)|(show WP _ _ _ _ (.region 24 _ true) _ _ _ _;refine o_drawn [Zt 0,Zt 1,Zt 2,Zt 3,Zt 4,Zt 5,Zt 6,Zt 7,Zt 8,Zt 9,Zt 10,Zt 11,Zt 12,Zt 13,Zf 14,Zf 15,Zf 16,Zt 20,Zt 21,Zf 17,Zf 18,Zf 19,Zf 22,Zt 23] mixed (by kernel_rfl) ?_)
  · rename_i b4 b7 bt b9 hle
    refine w_drop (⟨b3, true, .cells #[.int .i64 k] 3 (0, 0)⟩ :: ⟨b2, true, .cells #[.int .i64 p] 3 (0, 0)⟩ :: ⟨b1, true, .cells #[.slice ua n.uses.length uc] 193 (0, 0)⟩ :: (Δu ++ ⟨b9, true, .cells #[.pointer (some ⟨bt, 0, none⟩)] 133 (0, 0)⟩ :: ⟨bt, true, .cells (newC (.slice qm n.mains.length cm) b c d e) 140 (0, 0)⟩ :: ⟨b7, true, .cells #[.func (.func F) fs cs] 137 (0, 0)⟩ :: ⟨b4, true, .cells #[.slice qm n.mains.length cm, b, c, d, e] 28 (0, 0)⟩ :: S))
      (.cons_cons _ (.cons_cons _ (.cons_cons _ (List.Sublist.append_left (.cons_cons _ (.cons_cons _ (.cons_cons _ (.cons_cons _ (List.Sublist.refl _))))) _)))) ?_
    refine wp_rangeFunc (F := 181) (first := #[]) (captured := #[.pointer (some ⟨b1, 0, none⟩), .pointer (some ⟨b2, 0, none⟩), .pointer (some ⟨b3, 0, none⟩)])
      (R := fun r lp arr v S' => ∃ (L : Loop) (c' : Array Value), L.state = .ready ∧ L.pending = none ∧ S' = loopE lp L :: markE r :: ⟨b9, true, .cells #[.pointer (some ⟨bt, 0, none⟩)] 133 (0, 0)⟩ :: ⟨bt, true, .cells c' 140 (0, 0)⟩ :: ⟨b7, true, .cells #[.func (.func F) fs cs] 137 (0, 0)⟩ :: ⟨b4, true, .cells #[.slice qm n.mains.length cm, b, c, d, e] 28 (0, 0)⟩ :: S ∧ TreeP c' (.slice qm n.mains.length cm) (usedN n p k) z12 z12 true) (evL_eq rfl) rfl ?_ ?_
    · intro r lp arr hag
      generalize hL : newL _ _ _ _ _ _ = L
      rw [show (#[] ++ #[Value.func (.yield lp) #[] #[]] ++ #[.pointer (some ⟨b1, 0, none⟩), .pointer (some ⟨b2, 0, none⟩), .pointer (some ⟨b3, 0, none⟩)] : Array Value) = #[.func (.yield lp) #[] #[], .pointer (some ⟨b1, 0, none⟩), .pointer (some ⟨b2, 0, none⟩), .pointer (some ⟨b3, 0, none⟩)] from by simp]
      refine CallW.weaken (c181 _ _ (fun j S' => ∃ c', List.Sublist (loopE lp L :: markE r :: ⟨b3, true, .cells #[.int .i64 k] 3 (0, 0)⟩ :: ⟨b2, true, .cells #[.int .i64 p] 3 (0, 0)⟩ :: ⟨b1, true, .cells #[.slice ua n.uses.length uc] 193 (0, 0)⟩ :: (Δu ++ ⟨b9, true, .cells #[.pointer (some ⟨bt, 0, none⟩)] 133 (0, 0)⟩ :: ⟨bt, true, .cells c' 140 (0, 0)⟩ :: ⟨b7, true, .cells #[.func (.func F) fs cs] 137 (0, 0)⟩ :: ⟨b4, true, .cells #[.slice qm n.mains.length cm, b, c, d, e] 28 (0, 0)⟩ :: S)) S' ∧ TreeP c' (.slice qm n.mains.length cm) (usedT n p k j) z12 z12 true)
        (fun _ => False) lp b1 b2 b3 L n.uses ua uc p k (by have := hV.u60; omega) ⟨_, List.Sublist.refl _, by have := newC_tree (.slice qm n.mains.length cm) b c d e; simpa [usedT] using this⟩ ?_ (by subst hL; rfl) ?_ ?_) ?_
      · rintro j S' ⟨c', hs, hT⟩
        exact ⟨hs.subset (by simp), hs.subset (by simp), hs.subset (by simp), hua.sub (Sb.h.trans hs), hs.subset (by simp)⟩
      · rintro j hj S' ⟨c', hs, hT⟩ hc
        refine RoundW.sub ?_ hs
        subst hL
        refine round1 (q := 26) rfl (by decide) hag ?_
        change WP _ _ 82 _ (.region 3 _ _) (midQ _ _ 82 _ _ (.block 1 _) _) _ _ _
        obtain ⟨huo, hpl⟩ := hV.uses _ (List.getElem_mem hj)
        obtain ⟨hpe, hpl, hpi⟩ := idx_spec hpl
        have hm12 := hV.m12
        have i1 : RowC c' (0 + 5) RangeG encRange (usedT n p k j) := ⟨hT.used⟩
        have hlen : (usedT n p k j).length = 12 := usedT_len
        have hsz := hT.size
        have hgp : partOf (usedT n p k j) (idx n n.uses[j].main) = (usedT n p k j)[idx n n.uses[j].main]'(by omega) := partOf_get _
        have hbd : ∀ x ∈ [(usedT n p k j)[idx n n.uses[j].main]'(by omega), volR n.uses[j]], Bd 1000000000000000 x := fun x hx => by
          rcases List.mem_cons.1 hx with rfl | hx
          · exact (usedT_nn hV _ (List.getElem_mem _)).bd.mono (by omega)
          · rw [List.mem_singleton.1 hx]; exact (vol_nn huo).bd.mono (by omega)
        repeat' first|(refine gX ?_;first|refine o_v rfl rfl ?_|(refine o_splitD rfl rfl rfl ?_ ?_<;>intro h)|(refine o_split rfl rfl rfl ?_ ?_<;>intro h<;>fail_if_success exact Bool.noConfusion h)|(refine gL ?_;first|refine o_load rfl rfl rfl rfl ?_|refine o_loadR rfl rfl rfl (by omega) rfl rfl ?_|refine o_loadW rfl rfl rfl rfl ?_|refine o_loadK rfl rfl rfl ?_)|(refine gF ?_;first|refine o_fieldI rfl rfl rfl rfl ?_|refine o_field rfl rfl rfl rfl ?_)|(refine gB ?_;first|refine o_add rfl rfl rfl rfl (by omega) ?_|refine o_sub rfl rfl rfl rfl (by omega) ?_|refine o_eqNil rfl rfl rfl rfl rfl ?_)|(refine gC ?_;first|refine o_callF rfl rfl rfl (c87 _ _ n _ _ _ _ _ _ (hn.sub Sb.h)) ?_|refine o_callF rfl rfl rfl (c123 _ _ n.uses[j] huo) ?_|refine o_callF rfl rfl rfl (c102 _ _ [(usedT n p k j)[idx n n.uses[j].main]'(by first|done|omega), volR n.uses[j]] _ (slv_one (xs := [_, _]) (.head _) rfl (Nat.le_refl _)) (by simp) hbd) ?_)|(refine gI ?_;first|refine o_indexAZ (idx n n.uses[j].main) rfl rfl rfl rfl rfl hpe (by omega) ?_|refine o_indexS rfl rfl rfl rfl rfl rfl (by omega) ?_|refine o_index rfl rfl rfl rfl rfl (by omega) ?_)|(refine gS ?_;first|(refine o_storeC rfl rfl rfl rfl rfl (by omega) ?_;intro c2 hc2;have hT2 := hT.setU (j := idx n n.uses[j].main) (by omega) hc2;refine ⟨_, inferInstance, ?_⟩)|refine o_store rfl rfl rfl rfl rfl rfl ?_|refine o_storeW rfl rfl rfl rfl rfl rfl ?_)|(refine o_allocZ rfl rfl ?_;intro _)|(refine o_box rfl rfl rfl ?_;intro _)|refine o_skip rfl rfl ?_|refine o_skipN rfl rfl ?_|refine o_build rfl rfl rfl rfl rfl ?_|(refine o_bslice rfl rfl rfl rfl rfl rfl rfl ?_;intro _)|(refine o_splitP rfl ?_ ?_<;>intro h<;>fail_if_success exact Bool.noConfusion h))|refine o_head0 rfl ?_|refine o_end ?_|refine o_head1 rfl ?_|refine mid_of rfl ?_|refine fin_ofB ?_|refine wp_seq ?_|refine o_region ?_|refine wp_block ?_|refine wp_skip ?_|refine wp_exit ?_|(refine w_condD rfl ?_ ?_<;>intro h)|(refine w_cond rfl ?_ ?_<;>intro h<;>try exact Bool.noConfusion h)|refine w_ret (S) (vs:=[_]) rfl (Res.tmp rfl Res.nil) ?_|(show WP _ _ _ _ (.region 5 _ true) _ _ _ _;refine o_drawn [Zt 0,Zt 1,Zt 2,Zt 3,Zt 4,Zt 5,Zt 6,Zt 7,Zf 8,Zt 12,Zt 13,Zf 9,Zf 10,Zf 11,Zf 14,Zt 15] mixed (by kernel_rfl) ?_)|(show WP _ _ _ _ (.region 6 _ true) _ _ _ _;refine o_drawn [Zt 0,Zt 1,Zt 2,Zt 3,Zt 4,Zt 5,Zt 6,Zf 7,Zt 8] mixed (by kernel_rfl) ?_)|(show WP _ _ _ _ (.region 10 _ true) _ _ _ _;refine o_drawn [Zt 0,Zt 1,Zf 2,Zf 3,Zf 4,Zf 5,Zt 6] mixed (by kernel_rfl) ?_)|(show WP _ _ _ _ (.region 13 _ true) _ _ _ _;refine o_drawnZ [Zf 0,Zf 1,Zf 2,Zf 3,Zf 4,Zf 5,Zf 6,Zf 7,Zf 8,Zf 9,Zf 10,Zf 11,Zt 12,Zf 13] [] mixed (by kernel_rfl) (List.nil_sublist _) ?_)|(show WP _ _ _ _ (.region 14 _ true) _ _ _ _;refine o_drawn [Zt 0,Zt 1,Zf 2,Zf 3,Zf 4,Zf 5,Zf 6,Zf 7,Zf 8,Zf 9,Zt 10] mixed (by kernel_rfl) ?_)|(show WP _ _ _ _ (.region 15 _ true) _ _ _ _;refine o_drawnZ [Zf 0,Zf 1,Zf 2,Zf 3,Zf 4,Zf 5,Zf 6,Zf 7,Zf 8,Zf 9,Zf 10,Zf 11,Zf 12,Zf 13,Zf 14,Zf 15,Zf 16,Zf 17,Zf 18,Zf 19,Zt 20] [] mixed (by kernel_rfl) (List.nil_sublist _) ?_)|(show WP _ _ _ _ (.region 21 _ true) _ _ _ _;refine o_drawnZ [Zf 0,Zf 1,Zf 2,Zf 3,Zf 4,Zf 5,Zf 6,Zf 7,Zf 8,Zf 9,Zf 10,Zt 11] [] mixed (by kernel_rfl) (List.nil_sublist _) ?_)|(show WP _ _ _ _ (.region 24 _ true) _ _ _ _;refine o_drawn [Zt 0,Zt 1,Zt 2,Zt 3,Zt 4,Zt 5,Zt 6,Zt 7,Zt 8,Zt 9,Zt 10,Zt 11,Zt 12,Zt 13,Zf 14,Zf 15,Zf 16,Zt 20,Zt 21,Zf 17,Zf 18,Zf 19,Zf 22,Zt 23] mixed (by kernel_rfl) ?_)
        refine .inl ⟨rfl, c2, .cons _ (.cons _ (List.Sublist.refl _)), ?_⟩
        rw [usedT_succ hj, if_pos hc]
        unfold stepU
        rw [hgp]
        exact hT2
      · rintro j hj S' ⟨c', hs, hT⟩ hc
        exact ⟨c', hs, by rw [usedT_succ hj, if_neg (by simp [hc])]; exact hT⟩
      · rintro v S' (⟨c', hs, hT⟩ | h)
        · exact ⟨_, Sb.h.trans hs, L, c', by subst hL; rfl, by subst hL; rfl, rfl, hT⟩
        · exact h.elim
    · rintro r lp arr v S' ⟨L, c', h1, h2, rfl, hT⟩
      refine ⟨L, _, by rw [h1]; decide, .here, ?_⟩
      rw [h2]
      exact ⟨_, .cons _ (List.Sublist.refl _), _, b4, b7, b9, bt, r, c', rfl, rfl, keep ⟨rfl, rfl, rfl, rfl, rfl, trivial⟩, hT⟩
  have hm12 := hV.m12
  have imains := SlI.mk hrm
  rintro _ _ _ ⟨t0, b4, b7, b9, bt, r, c', rfl, rfl, rfl, hT⟩
  repeat' first|(refine gX ?_;first|refine o_v rfl rfl ?_|(refine o_splitD rfl rfl rfl ?_ ?_<;>intro h)|(refine o_split rfl rfl rfl ?_ ?_<;>intro h<;>fail_if_success exact Bool.noConfusion h)|(refine gL ?_;first|refine o_load rfl rfl rfl rfl ?_|refine o_loadR rfl rfl rfl (by omega) rfl rfl ?_|refine o_loadW rfl rfl rfl rfl ?_|refine o_loadK rfl rfl rfl ?_)|(refine gF ?_;first|refine o_fieldI rfl rfl rfl rfl ?_|refine o_field rfl rfl rfl rfl ?_)|(refine gB ?_;first|refine o_add rfl rfl rfl rfl (by omega) ?_|refine o_sub rfl rfl rfl rfl (by omega) ?_|refine o_eqNil rfl rfl rfl rfl rfl ?_)|(refine gI ?_;first|refine o_indexS rfl rfl rfl rfl rfl rfl (by omega) ?_|refine o_index rfl rfl rfl rfl rfl (by omega) ?_)|(refine gS ?_;first|refine o_store rfl rfl rfl rfl rfl rfl ?_|refine o_storeW rfl rfl rfl rfl rfl rfl ?_)|refine o_sliceA n.mains.length rfl rfl rfl rfl rfl rfl (by omega) ?_|(refine o_allocZ rfl rfl ?_;intro _)|(refine o_box rfl rfl rfl ?_;intro _)|refine o_skip rfl rfl ?_|refine o_skipN rfl rfl ?_|refine o_build rfl rfl rfl rfl rfl ?_|(refine o_bslice rfl rfl rfl rfl rfl rfl rfl ?_;intro _)|(refine o_splitP rfl ?_ ?_<;>intro h<;>fail_if_success exact Bool.noConfusion h))|refine o_head0 rfl ?_|refine o_end ?_|refine o_head1 rfl ?_|refine wp_seq ?_|refine o_region ?_|refine wp_block ?_|refine wp_skip ?_|refine wp_exit ?_|(refine w_condD rfl ?_ ?_<;>intro h)|(refine w_cond rfl ?_ ?_<;>intro h<;>try exact Bool.noConfusion h)|refine w_ret (S) (vs:=[_]) rfl (Res.tmp rfl Res.nil) ?_|(show WP _ _ _ _ (.region 5 _ true) _ _ _ _;refine o_drawn [Zt 0,Zt 1,Zt 2,Zt 3,Zt 4,Zt 5,Zt 6,Zt 7,Zf 8,Zt 12,Zt 13,Zf 9,Zf 10,Zf 11,Zf 14,Zt 15] mixed (by kernel_rfl) ?_)|(show WP _ _ _ _ (.region 6 _ true) _ _ _ _;refine o_drawn [Zt 0,Zt 1,Zt 2,Zt 3,Zt 4,Zt 5,Zt 6,Zf 7,Zt 8] mixed (by kernel_rfl) ?_)|(show WP _ _ _ _ (.region 10 _ true) _ _ _ _;refine o_drawn [Zt 0,Zt 1,Zf 2,Zf 3,Zf 4,Zf 5,Zt 6] mixed (by kernel_rfl) ?_)|(show WP _ _ _ _ (.region 13 _ true) _ _ _ _;refine o_drawnZ [Zf 0,Zf 1,Zf 2,Zf 3,Zf 4,Zf 5,Zf 6,Zf 7,Zf 8,Zf 9,Zf 10,Zf 11,Zt 12,Zf 13] [] mixed (by kernel_rfl) (List.nil_sublist _) ?_)|(show WP _ _ _ _ (.region 14 _ true) _ _ _ _;refine o_drawn [Zt 0,Zt 1,Zf 2,Zf 3,Zf 4,Zf 5,Zf 6,Zf 7,Zf 8,Zf 9,Zt 10] mixed (by kernel_rfl) ?_)|(show WP _ _ _ _ (.region 15 _ true) _ _ _ _;refine o_drawnZ [Zf 0,Zf 1,Zf 2,Zf 3,Zf 4,Zf 5,Zf 6,Zf 7,Zf 8,Zf 9,Zf 10,Zf 11,Zf 12,Zf 13,Zf 14,Zf 15,Zf 16,Zf 17,Zf 18,Zf 19,Zt 20] [] mixed (by kernel_rfl) (List.nil_sublist _) ?_)|(show WP _ _ _ _ (.region 21 _ true) _ _ _ _;refine o_drawnZ [Zf 0,Zf 1,Zf 2,Zf 3,Zf 4,Zf 5,Zf 6,Zf 7,Zf 8,Zf 9,Zf 10,Zt 11] [] mixed (by kernel_rfl) (List.nil_sublist _) ?_)|(show WP _ _ _ _ (.region 24 _ true) _ _ _ _;refine o_drawn [Zt 0,Zt 1,Zt 2,Zt 3,Zt 4,Zt 5,Zt 6,Zt 7,Zt 8,Zt 9,Zt 10,Zt 11,Zt 12,Zt 13,Zf 14,Zf 15,Zf 16,Zt 20,Zt 21,Zf 17,Zf 18,Zf 19,Zf 22,Zt 23] mixed (by kernel_rfl) ?_)
  rename_i b12 b13
  refine WP.perm ?_ (.cons _ (List.perm_middle (l₁ := mks [r])).symm)
  refine wp_loop (fun i t ds S' => ∃ (d' : Nat) (t0 : Tm) (b13 : Nat) (ms : List Nat) (c' : Array Value), i = n.mains.length - d' ∧ d' ≤ n.mains.length ∧ dsOf ms = ds ∧ ⟨b13, true, .cells #[.int .i64 ((n.mains.length : Int) - 1 - (d' : Int))] 3 (0, 0)⟩ :: (mks ms ++ ⟨b12, true, .cells #[.slice (some ⟨bt, 0 + 29, none⟩) n.mains.length 12] 128 (0, 0)⟩ :: ⟨b9, true, .cells #[.pointer (some ⟨bt, 0, none⟩)] 133 (0, 0)⟩ :: ⟨bt, true, .cells c' 140 (0, 0)⟩ :: ⟨b7, true, .cells #[.func (.func F) fs cs] 137 (0, 0)⟩ :: ⟨b4, true, .cells #[.slice qm n.mains.length cm, b, c, d, e] 28 (0, 0)⟩ :: S) = S' ∧
      t = den [(1, iv p), (2, iv k), (4, .pointer (some ⟨b4, 0, none⟩)), (7, .pointer (some ⟨b7, 0, none⟩)), (9, .pointer (some ⟨b9, 0, none⟩)), (12, .pointer (some ⟨b12, 0, none⟩)), (13, .pointer (some ⟨b13, 0, none⟩))] t0 ∧ TreeP c' (.slice qm n.mains.length cm) (usedN n p k) (upsD n by' p k d') z12 (evD n by' p k d'))
    n.mains.length ⟨0, _, b13, [r], c', rfl, Nat.zero_le _, rfl, by simp, keep ⟨rfl, rfl, rfl, rfl, rfl, rfl, rfl, trivial⟩, hT⟩ ?_
  rintro i' t ds S' ⟨d', t0, b13, ms, c', rfl, hd', rfl, rfl, rfl, hT⟩
  by_cases hdl : d' < n.mains.length
  · have e13 : ((n.mains.length : Int) - 1 - (d' : Int)) = ((n.mains.length - 1 - d' : Nat) : Int) := by omega
    rw [e13]
    have hii : n.mains.length - 1 - d' < n.mains.length := by omega
    have hii' : upStep n by' p k (upsD n by' p k d') (n.mains.length - 1 - d') = upsD n by' p k (d' + 1) := rfl
    have hev' : evD n by' p k (d' + 1) = (evD n by' p k d' && decide ((partOf (upsD n by' p k (d' + 1)) (n.mains.length - 1 - d')).lo ≤ (partOf (upsD n by' p k (d' + 1)) (n.mains.length - 1 - d')).hi)) := rfl
    have e14 : ((n.mains.length : Int) - 1 - ((d' + 1 : Nat) : Int)) = ((n.mains.length - 1 - d' : Nat) : Int) - 1 := by omega
    generalize n.mains.length - 1 - d' = ii at hii hii' hev' e14 ⊢
    have hub : ∀ x ∈ usedN n p k, Bd 1000000000000000 x := fun x hx => (usedT_nn hV x hx).bd.mono (by omega)
    have hpb : ∀ x ∈ upsD n by' p k d', Bd 1000000000000000 x := fun x hx => ((upsD_bd hV (by omega)).1 x hx).bd.mono (by omega)
    have hkb : ∀ m ∈ n.mains, Bd 1000000000000000 m.leak := fun m hm => by
      obtain ⟨q, hq, rfl⟩ := List.getElem_of_mem hm
      have := leak_nn hV (i := q)
      unfold leakOf at this
      rw [List.getElem?_eq_getElem hq] at this
      exact this.bd.mono (by omega)
    have hsz := hT.size
    repeat' first|(refine gX ?_;first|refine o_v rfl rfl ?_|(refine o_splitD rfl rfl rfl ?_ ?_<;>intro h)|(refine o_split rfl rfl rfl ?_ ?_<;>intro h<;>fail_if_success exact Bool.noConfusion h)|(refine gL ?_;first|refine o_load rfl rfl rfl rfl ?_|refine o_loadR rfl rfl rfl (by omega) rfl rfl ?_|refine o_loadW rfl rfl rfl rfl ?_|refine o_loadK rfl rfl rfl ?_)|(refine gF ?_;first|refine o_fieldI rfl rfl rfl rfl ?_|refine o_field rfl rfl rfl rfl ?_)|(refine gB ?_;first|refine o_add rfl rfl rfl rfl (by omega) ?_|refine o_sub rfl rfl rfl rfl (by omega) ?_|refine o_eqNil rfl rfl rfl rfl rfl ?_)|(refine gC ?_;first|refine o_callF rfl rfl rfl (c111 _ _ bt true c' (0, 0) n.mains _ _ _ _ _ ii (-3) InS.h hT (hn.mains.sub Sb.h) hm12 hii hub hpb hkb) ?_|(refine o_callZ (R:=fun r S' => ∃ Δ, Own r n.readings Δ ∧ S' = Δ ++ _) rfl rfl rfl (c107 _ _ n _ _ _ _ _ (hn.sub Sb.h) (by have := hV.r60; omega)) ?_;rintro r _ ⟨Δr, hor, rfl⟩;obtain ⟨ra, rc, rfl, _, hra⟩ := hor.slv;have := SlI.mk hra;refine ⟨inferInstance, ?_⟩)|(refine o_callZ rfl rfl rfl (c106 _ _ n.readings _ _ _ _) ?_;rintro r _ ⟨b1, b2, b3, rfl, rfl⟩;refine ⟨inferInstance, ?_⟩))|(refine gI ?_;first|refine o_indexS rfl rfl rfl rfl rfl rfl (by omega) ?_|refine o_index rfl rfl rfl rfl rfl (by omega) ?_)|(refine gS ?_;first|(refine o_storeC rfl rfl rfl rfl rfl (by omega) ?_;intro c2 hc2;have hT2 := hT.setP (j := ii) (by omega) hc2;refine ⟨_, inferInstance, ?_⟩)|refine o_store rfl rfl rfl rfl rfl rfl ?_|refine o_storeW rfl rfl rfl rfl rfl rfl ?_)|(refine o_allocZ rfl rfl ?_;intro _)|(refine o_box rfl rfl rfl ?_;intro _)|refine o_skip rfl rfl ?_|refine o_skipN rfl rfl ?_|refine o_build rfl rfl rfl rfl rfl ?_|(refine o_bslice rfl rfl rfl rfl rfl rfl rfl ?_;intro _)|(refine o_splitP rfl ?_ ?_<;>intro h<;>fail_if_success exact Bool.noConfusion h))|refine o_head0 rfl ?_|refine o_end ?_|refine o_head1 rfl ?_|(show WP _ _ _ _ (.seq (.seq (.region 11 _ _) _) _) _ _ _ _;refine wp_cut (fun t ds S' => ∃ (t0 : Tm) (r2 : Nat) (c3 : Array Value), dsOf (r2 :: ms) = ds ∧ markE r2 :: ⟨b13, true, .cells #[.int .i64 (ii : Int)] 3 (0, 0)⟩ :: (mks ms ++ ⟨b12, true, .cells #[.slice (some ⟨bt, 0 + 29, none⟩) n.mains.length 12] 128 (0, 0)⟩ :: ⟨b9, true, .cells #[.pointer (some ⟨bt, 0, none⟩)] 133 (0, 0)⟩ :: ⟨bt, true, .cells c3 140 (0, 0)⟩ :: ⟨b7, true, .cells #[.func (.func F) fs cs] 137 (0, 0)⟩ :: ⟨b4, true, .cells #[.slice qm n.mains.length cm, b, c, d, e] 28 (0, 0)⟩ :: S) = S' ∧ t = den [(1, iv p), (2, iv k), (4, .pointer (some ⟨b4, 0, none⟩)), (7, .pointer (some ⟨b7, 0, none⟩)), (9, .pointer (some ⟨b9, 0, none⟩)), (12, .pointer (some ⟨b12, 0, none⟩)), (13, .pointer (some ⟨b13, 0, none⟩))] t0 ∧ TreeP c3 (.slice qm n.mains.length cm) (usedN n p k) (upsD n by' p k (d' + 1)) z12 (evD n by' p k d')) ?_ ?_)|refine wp_seq ?_|refine o_region ?_|refine wp_block ?_|refine wp_skip ?_|refine wp_exit ?_|(refine w_condD rfl ?_ ?_<;>intro h)|(refine w_cond rfl ?_ ?_<;>intro h<;>try exact Bool.noConfusion h)|refine w_ret (S) (vs:=[_]) rfl (Res.tmp rfl Res.nil) ?_|(show WP _ _ _ _ (.region 5 _ true) _ _ _ _;refine o_drawn [Zt 0,Zt 1,Zt 2,Zt 3,Zt 4,Zt 5,Zt 6,Zt 7,Zf 8,Zt 12,Zt 13,Zf 9,Zf 10,Zf 11,Zf 14,Zt 15] mixed (by kernel_rfl) ?_)|(show WP _ _ _ _ (.region 6 _ true) _ _ _ _;refine o_drawn [Zt 0,Zt 1,Zt 2,Zt 3,Zt 4,Zt 5,Zt 6,Zf 7,Zt 8] mixed (by kernel_rfl) ?_)|(show WP _ _ _ _ (.region 10 _ true) _ _ _ _;refine o_drawn [Zt 0,Zt 1,Zf 2,Zf 3,Zf 4,Zf 5,Zt 6] mixed (by kernel_rfl) ?_)|(show WP _ _ _ _ (.region 13 _ true) _ _ _ _;refine o_drawnZ [Zf 0,Zf 1,Zf 2,Zf 3,Zf 4,Zf 5,Zf 6,Zf 7,Zf 8,Zf 9,Zf 10,Zf 11,Zt 12,Zf 13] [] mixed (by kernel_rfl) (List.nil_sublist _) ?_)|(show WP _ _ _ _ (.region 14 _ true) _ _ _ _;refine o_drawn [Zt 0,Zt 1,Zf 2,Zf 3,Zf 4,Zf 5,Zf 6,Zf 7,Zf 8,Zf 9,Zt 10] mixed (by kernel_rfl) ?_)|(show WP _ _ _ _ (.region 15 _ true) _ _ _ _;refine o_drawnZ [Zf 0,Zf 1,Zf 2,Zf 3,Zf 4,Zf 5,Zf 6,Zf 7,Zf 8,Zf 9,Zf 10,Zf 11,Zf 12,Zf 13,Zf 14,Zf 15,Zf 16,Zf 17,Zf 18,Zf 19,Zt 20] [] mixed (by kernel_rfl) (List.nil_sublist _) ?_)|(show WP _ _ _ _ (.region 21 _ true) _ _ _ _;refine o_drawnZ [Zf 0,Zf 1,Zf 2,Zf 3,Zf 4,Zf 5,Zf 6,Zf 7,Zf 8,Zf 9,Zf 10,Zt 11] [] mixed (by kernel_rfl) (List.nil_sublist _) ?_)|(show WP _ _ _ _ (.region 24 _ true) _ _ _ _;refine o_drawn [Zt 0,Zt 1,Zt 2,Zt 3,Zt 4,Zt 5,Zt 6,Zt 7,Zt 8,Zt 9,Zt 10,Zt 11,Zt 12,Zt 13,Zf 14,Zf 15,Zf 16,Zt 20,Zt 21,Zf 17,Zf 18,Zf 19,Zf 22,Zt 23] mixed (by kernel_rfl) ?_)
    · rename_i hle
      generalize hx0 : restR n.mains (usedN n p k) (upsD n by' p k d') ii (-3) = x0 at hT2
      refine wp_rangeFunc (F := 160) (first := #[]) (captured := #[.pointer (some ⟨b1, 0, none⟩), .pointer (some ⟨b2, 0, none⟩), .pointer (some ⟨b3, 0, none⟩)])
        (R := fun r lp arr v S' => ∃ (L : Loop) (c3 : Array Value), L.state = .ready ∧ L.pending = none ∧ S' = loopE lp L :: markE r :: ⟨b13, true, .cells #[.int .i64 (ii : Int)] 3 (0, 0)⟩ :: (mks ms ++ ⟨b12, true, .cells #[.slice (some ⟨bt, 0 + 29, none⟩) n.mains.length 12] 128 (0, 0)⟩ :: ⟨b9, true, .cells #[.pointer (some ⟨bt, 0, none⟩)] 133 (0, 0)⟩ :: ⟨bt, true, .cells c3 140 (0, 0)⟩ :: ⟨b7, true, .cells #[.func (.func F) fs cs] 137 (0, 0)⟩ :: ⟨b4, true, .cells #[.slice qm n.mains.length cm, b, c, d, e] 28 (0, 0)⟩ :: S) ∧ TreeP c3 (.slice qm n.mains.length cm) (usedN n p k) (upsD n by' p k (d' + 1)) z12 (evD n by' p k d')) (evL_eq rfl) rfl ?_ ?_
      · intro r lp arr hag
        generalize hL : newL _ _ _ _ _ _ = L
        rw [show (#[] ++ #[Value.func (.yield lp) #[] #[]] ++ #[.pointer (some ⟨b1, 0, none⟩), .pointer (some ⟨b2, 0, none⟩), .pointer (some ⟨b3, 0, none⟩)] : Array Value) = #[.func (.yield lp) #[] #[], .pointer (some ⟨b1, 0, none⟩), .pointer (some ⟨b2, 0, none⟩), .pointer (some ⟨b3, 0, none⟩)] from by simp]
        refine CallW.weaken (c160 _ _ (fun j S' => ∃ c3, List.Sublist (loopE lp L :: markE r :: ⟨b3, true, .cells #[.int .i64 k] 3 (0, 0)⟩ :: ⟨b2, true, .cells #[.int .i64 p] 3 (0, 0)⟩ :: ⟨b1, true, .cells #[.slice ra n.readings.length rc] 160 (0, 0)⟩ :: (Δr ++ ⟨b13, true, .cells #[.int .i64 (ii : Int)] 3 (0, 0)⟩ :: (mks ms ++ ⟨b12, true, .cells #[.slice (some ⟨bt, 0 + 29, none⟩) n.mains.length 12] 128 (0, 0)⟩ :: ⟨b9, true, .cells #[.pointer (some ⟨bt, 0, none⟩)] 133 (0, 0)⟩ :: ⟨bt, true, .cells c3 140 (0, 0)⟩ :: ⟨b7, true, .cells #[.func (.func F) fs cs] 137 (0, 0)⟩ :: ⟨b4, true, .cells #[.slice qm n.mains.length cm, b, c, d, e] 28 (0, 0)⟩ :: S))) S' ∧ TreeP c3 (.slice qm n.mains.length cm) (usedN n p k) ((upsD n by' p k d').set ii (readT n by' p k ii x0 j)) z12 (evD n by' p k d'))
          (fun _ => False) lp b1 b2 b3 L n.readings ra rc p k (by have := hV.r60; omega) ⟨_, List.Sublist.refl _, by simpa [readT] using hT2⟩ ?_ (by subst hL; rfl) ?_ ?_) ?_
        · rintro j S' ⟨c3, hs, hT3⟩
          exact ⟨hs.subset (by simp), hs.subset (by simp), hs.subset (by simp), hra.sub (Sb.h.trans hs), hs.subset (by simp)⟩
        · rintro j hj S' ⟨c3, hs, hT3⟩ hc
          refine RoundW.sub ?_ hs
          subst hL
          refine round1 (q := 71) rfl (by decide) hag ?_
          change WP _ _ 82 _ (.region 12 _ _) (midQ _ _ 82 _ _ (.block 5 _) _) _ _ _
          have hsz3 := hT3.size
          have hl3 := hT3.lp
          have hul : (upsD n by' p k d').length = 12 := upsD_len
          generalize hq3 : readT n by' p k ii x0 j = q3 at hT3 hl3
          generalize hw3 : (upsD n by' p k d').set ii q3 = w3 at hT3 hl3
          have hwi : w3[ii]'(by omega) = q3 := by subst hw3; simp
          have i2 : RowC c3 (0 + 29) RangeG encRange w3 := ⟨hT3.up⟩
          have hid : idOf n.mains ii = n.mains[ii].id := by unfold idOf; rw [List.getElem?_eq_getElem hii]
          repeat' first|(refine gX ?_;first|refine o_v rfl rfl ?_|(refine o_splitD rfl rfl rfl ?_ ?_<;>intro h)|(refine o_split rfl rfl rfl ?_ ?_<;>intro h<;>fail_if_success exact Bool.noConfusion h)|(refine gL ?_;first|refine o_load rfl rfl rfl rfl ?_|refine o_loadR rfl rfl rfl (by omega) rfl rfl ?_|refine o_loadW rfl rfl rfl rfl ?_|refine o_loadK rfl rfl rfl ?_)|(refine gF ?_;first|refine o_fieldI rfl rfl rfl rfl ?_|refine o_field rfl rfl rfl rfl ?_)|(refine gB ?_;first|refine o_add rfl rfl rfl rfl (by omega) ?_|refine o_sub rfl rfl rfl rfl (by omega) ?_|refine o_eqNil rfl rfl rfl rfl rfl ?_)|(refine gC ?_;first|refine o_callvF rfl rfl rfl rfl (hby _ _ n.readings[j] Sb.h) ?_|refine o_callF rfl rfl rfl (c110 _ _ (w3[ii]'(by first|done|omega)) n.readings[j].volume) ?_)|(refine gI ?_;first|refine o_indexS rfl rfl rfl rfl rfl rfl (by omega) ?_|refine o_index rfl rfl rfl rfl rfl (by omega) ?_)|(refine gS ?_;first|(refine o_storeC rfl rfl rfl rfl rfl (by omega) ?_;intro c4 hc4;have hT4 := hT3.setP (j := ii) (by omega) hc4;refine ⟨_, inferInstance, ?_⟩)|refine o_store rfl rfl rfl rfl rfl rfl ?_|refine o_storeW rfl rfl rfl rfl rfl rfl ?_)|(refine o_allocZ rfl rfl ?_;intro _)|(refine o_box rfl rfl rfl ?_;intro _)|refine o_skip rfl rfl ?_|refine o_skipN rfl rfl ?_|refine o_build rfl rfl rfl rfl rfl ?_|(refine o_bslice rfl rfl rfl rfl rfl rfl rfl ?_;intro _)|(refine o_splitP rfl ?_ ?_<;>intro h<;>fail_if_success exact Bool.noConfusion h))|refine o_head0 rfl ?_|refine o_end ?_|refine o_head1 rfl ?_|refine mid_of rfl ?_|refine fin_ofB ?_|refine wp_seq ?_|refine o_region ?_|refine wp_block ?_|refine wp_skip ?_|refine wp_exit ?_|(refine w_condD rfl ?_ ?_<;>intro h)|(refine w_cond rfl ?_ ?_<;>intro h<;>try exact Bool.noConfusion h)|refine w_ret (S) (vs:=[_]) rfl (Res.tmp rfl Res.nil) ?_|(show WP _ _ _ _ (.region 5 _ true) _ _ _ _;refine o_drawn [Zt 0,Zt 1,Zt 2,Zt 3,Zt 4,Zt 5,Zt 6,Zt 7,Zf 8,Zt 12,Zt 13,Zf 9,Zf 10,Zf 11,Zf 14,Zt 15] mixed (by kernel_rfl) ?_)|(show WP _ _ _ _ (.region 6 _ true) _ _ _ _;refine o_drawn [Zt 0,Zt 1,Zt 2,Zt 3,Zt 4,Zt 5,Zt 6,Zf 7,Zt 8] mixed (by kernel_rfl) ?_)|(show WP _ _ _ _ (.region 10 _ true) _ _ _ _;refine o_drawn [Zt 0,Zt 1,Zf 2,Zf 3,Zf 4,Zf 5,Zt 6] mixed (by kernel_rfl) ?_)|(show WP _ _ _ _ (.region 13 _ true) _ _ _ _;refine o_drawnZ [Zf 0,Zf 1,Zf 2,Zf 3,Zf 4,Zf 5,Zf 6,Zf 7,Zf 8,Zf 9,Zf 10,Zf 11,Zt 12,Zf 13] [] mixed (by kernel_rfl) (List.nil_sublist _) ?_)|(show WP _ _ _ _ (.region 14 _ true) _ _ _ _;refine o_drawn [Zt 0,Zt 1,Zf 2,Zf 3,Zf 4,Zf 5,Zf 6,Zf 7,Zf 8,Zf 9,Zt 10] mixed (by kernel_rfl) ?_)|(show WP _ _ _ _ (.region 15 _ true) _ _ _ _;refine o_drawnZ [Zf 0,Zf 1,Zf 2,Zf 3,Zf 4,Zf 5,Zf 6,Zf 7,Zf 8,Zf 9,Zf 10,Zf 11,Zf 12,Zf 13,Zf 14,Zf 15,Zf 16,Zf 17,Zf 18,Zf 19,Zt 20] [] mixed (by kernel_rfl) (List.nil_sublist _) ?_)|(show WP _ _ _ _ (.region 21 _ true) _ _ _ _;refine o_drawnZ [Zf 0,Zf 1,Zf 2,Zf 3,Zf 4,Zf 5,Zf 6,Zf 7,Zf 8,Zf 9,Zf 10,Zt 11] [] mixed (by kernel_rfl) (List.nil_sublist _) ?_)|(show WP _ _ _ _ (.region 24 _ true) _ _ _ _;refine o_drawn [Zt 0,Zt 1,Zt 2,Zt 3,Zt 4,Zt 5,Zt 6,Zt 7,Zt 8,Zt 9,Zt 10,Zt 11,Zt 12,Zt 13,Zf 14,Zf 15,Zf 16,Zt 20,Zt 21,Zf 17,Zf 18,Zf 19,Zf 22,Zt 23] mixed (by kernel_rfl) ?_)
          · refine .inl ⟨rfl, c4, .cons _ (List.Sublist.refl _), ?_⟩
            rw [readT_succ hj, if_pos hc, if_pos ⟨by rw [hid]; assumption, h⟩, hq3]
            rw [← hwi]
            have hss : ∀ z, (upsD n by' p k d').set ii z = w3.set ii z := fun z => by rw [← hw3, List.set_set]
            rw [hss]
            exact hT4
          · refine .inl ⟨rfl, c3, .cons _ (List.Sublist.refl _), ?_⟩
            rw [readT_succ hj, if_pos hc, if_neg (by rintro ⟨_, h2⟩; rw [h] at h2; exact Bool.noConfusion h2), hq3, hw3]
            exact hT3
          · refine .inl ⟨rfl, c3, .cons _ (List.Sublist.refl _), ?_⟩
            rw [readT_succ hj, if_pos hc, if_neg (by rintro ⟨h2, _⟩; rw [hid] at h2; contradiction), hq3, hw3]
            exact hT3
        · rintro j hj S' ⟨c3, hs, hT3⟩ hc
          exact ⟨c3, hs, by rw [readT_succ hj, if_neg (by simp [hc])]; exact hT3⟩
        · rintro v S' (⟨c3, hs, hT3⟩ | h)
          · refine ⟨_, Sb.h.trans hs, L, c3, by subst hL; rfl, by subst hL; rfl, rfl, ?_⟩
            rw [← hii']
            unfold upStep readN
            rw [hx0]
            exact hT3
          · exact h.elim
      · rintro r lp arr v S' ⟨L, c3, h1, h2, rfl, hT3⟩
        refine ⟨L, _, by rw [h1]; decide, .here, ?_⟩
        rw [h2]
        exact ⟨_, .cons _ (List.Sublist.refl _), _, r, c3, rfl, rfl, keep ⟨rfl, rfl, rfl, rfl, rfl, rfl, rfl, trivial⟩, hT3⟩
    · rintro _ _ _ ⟨t0, r2, c3, rfl, rfl, rfl, hT3⟩
      have hsz3 := hT3.size
      have hl3 := hT3.lp
      have hme := hT3.even
      have i2 : RowC c3 (0 + 29) RangeG encRange (upsD n by' p k (d' + 1)) := ⟨hT3.up⟩
      have i3 : CellI c3 (0 + 77) (.bool (evD n by' p k d')) := ⟨hT3.even⟩
      repeat' first|(refine gX ?_;first|refine o_v rfl rfl ?_|(refine o_splitD rfl rfl rfl ?_ ?_<;>intro h)|(refine o_split rfl rfl rfl ?_ ?_<;>intro h<;>fail_if_success exact Bool.noConfusion h)|(refine gL ?_;first|refine o_loadK rfl rfl rfl rfl ?_|refine o_load rfl rfl rfl rfl ?_|refine o_loadR rfl rfl rfl (by omega) rfl rfl ?_|refine o_loadW rfl rfl rfl rfl ?_|refine o_loadK rfl rfl rfl ?_)|(refine gF ?_;first|refine o_fieldI rfl rfl rfl rfl ?_|refine o_field rfl rfl rfl rfl ?_)|(refine gB ?_;first|refine o_add rfl rfl rfl rfl (by omega) ?_|refine o_sub rfl rfl rfl rfl (by omega) ?_|refine o_eqNil rfl rfl rfl rfl rfl ?_)|(refine gI ?_;first|refine o_indexS rfl rfl rfl rfl rfl rfl (by omega) ?_|refine o_index rfl rfl rfl rfl rfl (by omega) ?_)|(refine gS ?_;first|(refine o_storeD rfl rfl rfl rfl rfl (by omega) ?_;intro c4 hc4;have hT4 := hT3.setE hc4;refine ⟨_, inferInstance, ?_⟩)|refine o_store rfl rfl rfl rfl rfl rfl ?_|refine o_storeW rfl rfl rfl rfl rfl rfl ?_)|(refine o_allocZ rfl rfl ?_;intro _)|(refine o_box rfl rfl rfl ?_;intro _)|refine o_skip rfl rfl ?_|refine o_skipN rfl rfl ?_|refine o_build rfl rfl rfl rfl rfl ?_|(refine o_bslice rfl rfl rfl rfl rfl rfl rfl ?_;intro _)|(refine o_splitP rfl ?_ ?_<;>intro h<;>fail_if_success exact Bool.noConfusion h))|refine o_head0 rfl ?_|refine o_end ?_|refine o_head1 rfl ?_|refine wp_seq ?_|refine o_region ?_|refine wp_block ?_|refine wp_skip ?_|refine wp_exit ?_|(refine w_condD rfl ?_ ?_<;>intro h)|(refine w_cond rfl ?_ ?_<;>intro h<;>try exact Bool.noConfusion h)|refine w_ret (S) (vs:=[_]) rfl (Res.tmp rfl Res.nil) ?_|(show WP _ _ _ _ (.region 5 _ true) _ _ _ _;refine o_drawn [Zt 0,Zt 1,Zt 2,Zt 3,Zt 4,Zt 5,Zt 6,Zt 7,Zf 8,Zt 12,Zt 13,Zf 9,Zf 10,Zf 11,Zf 14,Zt 15] mixed (by kernel_rfl) ?_)|(show WP _ _ _ _ (.region 6 _ true) _ _ _ _;refine o_drawn [Zt 0,Zt 1,Zt 2,Zt 3,Zt 4,Zt 5,Zt 6,Zf 7,Zt 8] mixed (by kernel_rfl) ?_)|(show WP _ _ _ _ (.region 10 _ true) _ _ _ _;refine o_drawn [Zt 0,Zt 1,Zf 2,Zf 3,Zf 4,Zf 5,Zt 6] mixed (by kernel_rfl) ?_)|(show WP _ _ _ _ (.region 13 _ true) _ _ _ _;refine o_drawnZ [Zf 0,Zf 1,Zf 2,Zf 3,Zf 4,Zf 5,Zf 6,Zf 7,Zf 8,Zf 9,Zf 10,Zf 11,Zt 12,Zf 13] [] mixed (by kernel_rfl) (List.nil_sublist _) ?_)|(show WP _ _ _ _ (.region 14 _ true) _ _ _ _;refine o_drawn [Zt 0,Zt 1,Zf 2,Zf 3,Zf 4,Zf 5,Zf 6,Zf 7,Zf 8,Zf 9,Zt 10] mixed (by kernel_rfl) ?_)|(show WP _ _ _ _ (.region 15 _ true) _ _ _ _;refine o_drawnZ [Zf 0,Zf 1,Zf 2,Zf 3,Zf 4,Zf 5,Zf 6,Zf 7,Zf 8,Zf 9,Zf 10,Zf 11,Zf 12,Zf 13,Zf 14,Zf 15,Zf 16,Zf 17,Zf 18,Zf 19,Zt 20] [] mixed (by kernel_rfl) (List.nil_sublist _) ?_)|(show WP _ _ _ _ (.region 21 _ true) _ _ _ _;refine o_drawnZ [Zf 0,Zf 1,Zf 2,Zf 3,Zf 4,Zf 5,Zf 6,Zf 7,Zf 8,Zf 9,Zf 10,Zt 11] [] mixed (by kernel_rfl) (List.nil_sublist _) ?_)|(show WP _ _ _ _ (.region 24 _ true) _ _ _ _;refine o_drawn [Zt 0,Zt 1,Zt 2,Zt 3,Zt 4,Zt 5,Zt 6,Zt 7,Zt 8,Zt 9,Zt 10,Zt 11,Zt 12,Zt 13,Zf 14,Zf 15,Zf 16,Zt 20,Zt 21,Zf 17,Zf 18,Zf 19,Zf 22,Zt 23] mixed (by kernel_rfl) ?_)
      all_goals(
        refine ⟨n.mains.length - (d' + 1), by omega, _, .cons_cons _ (.cons_cons _ (.cons _ (List.Sublist.refl _))), d' + 1, _, _, r2 :: ms, c4, rfl, by omega, rfl, ?_, keep ⟨rfl, rfl, rfl, rfl, rfl, rfl, rfl, trivial⟩, ?_⟩
        · rw [e14]; rfl)
      · rw [hev', h, partOf_get (by omega), Bool.true_and]
        exact hT4
      · rw [hev', h, Bool.false_and]
        exact hT4
    · exact absurd (by omega) h
  · have hd : d' = n.mains.length := by omega
    subst hd
    repeat' first|(refine gX ?_;first|refine o_v rfl rfl ?_|(refine o_splitD rfl rfl rfl ?_ ?_<;>intro h)|(refine o_split rfl rfl rfl ?_ ?_<;>intro h<;>fail_if_success exact Bool.noConfusion h)|(refine gL ?_;first|refine o_load rfl rfl rfl rfl ?_|refine o_loadR rfl rfl rfl (by omega) rfl rfl ?_|refine o_loadW rfl rfl rfl rfl ?_|refine o_loadK rfl rfl rfl ?_)|(refine gF ?_;first|refine o_fieldI rfl rfl rfl rfl ?_|refine o_field rfl rfl rfl rfl ?_)|(refine gB ?_;first|refine o_add rfl rfl rfl rfl (by omega) ?_|refine o_sub rfl rfl rfl rfl (by omega) ?_|refine o_eqNil rfl rfl rfl rfl rfl ?_)|(refine gI ?_;first|refine o_indexS rfl rfl rfl rfl rfl rfl (by omega) ?_|refine o_index rfl rfl rfl rfl rfl (by omega) ?_)|(refine gS ?_;first|refine o_store rfl rfl rfl rfl rfl rfl ?_|refine o_storeW rfl rfl rfl rfl rfl rfl ?_)|(refine o_allocZ rfl rfl ?_;intro _)|(refine o_box rfl rfl rfl ?_;intro _)|refine o_skip rfl rfl ?_|refine o_skipN rfl rfl ?_|refine o_build rfl rfl rfl rfl rfl ?_|(refine o_bslice rfl rfl rfl rfl rfl rfl rfl ?_;intro _)|(refine o_splitP rfl ?_ ?_<;>intro h<;>fail_if_success exact Bool.noConfusion h))|refine o_head0 rfl ?_|refine o_end ?_|refine o_head1 rfl ?_|refine wp_seq ?_|refine o_region ?_|refine wp_block ?_|refine wp_skip ?_|refine wp_exit ?_|(refine w_condD rfl ?_ ?_<;>intro h)|(refine w_cond rfl ?_ ?_<;>intro h<;>try exact Bool.noConfusion h)|refine w_ret (S) (vs:=[_]) rfl (Res.tmp rfl Res.nil) ?_|(show WP _ _ _ _ (.region 5 _ true) _ _ _ _;refine o_drawn [Zt 0,Zt 1,Zt 2,Zt 3,Zt 4,Zt 5,Zt 6,Zt 7,Zf 8,Zt 12,Zt 13,Zf 9,Zf 10,Zf 11,Zf 14,Zt 15] mixed (by kernel_rfl) ?_)|(show WP _ _ _ _ (.region 6 _ true) _ _ _ _;refine o_drawn [Zt 0,Zt 1,Zt 2,Zt 3,Zt 4,Zt 5,Zt 6,Zf 7,Zt 8] mixed (by kernel_rfl) ?_)|(show WP _ _ _ _ (.region 10 _ true) _ _ _ _;refine o_drawn [Zt 0,Zt 1,Zf 2,Zf 3,Zf 4,Zf 5,Zt 6] mixed (by kernel_rfl) ?_)|(show WP _ _ _ _ (.region 13 _ true) _ _ _ _;refine o_drawnZ [Zf 0,Zf 1,Zf 2,Zf 3,Zf 4,Zf 5,Zf 6,Zf 7,Zf 8,Zf 9,Zf 10,Zf 11,Zt 12,Zf 13] [] mixed (by kernel_rfl) (List.nil_sublist _) ?_)|(show WP _ _ _ _ (.region 14 _ true) _ _ _ _;refine o_drawn [Zt 0,Zt 1,Zf 2,Zf 3,Zf 4,Zf 5,Zf 6,Zf 7,Zf 8,Zf 9,Zt 10] mixed (by kernel_rfl) ?_)|(show WP _ _ _ _ (.region 15 _ true) _ _ _ _;refine o_drawnZ [Zf 0,Zf 1,Zf 2,Zf 3,Zf 4,Zf 5,Zf 6,Zf 7,Zf 8,Zf 9,Zf 10,Zf 11,Zf 12,Zf 13,Zf 14,Zf 15,Zf 16,Zf 17,Zf 18,Zf 19,Zt 20] [] mixed (by kernel_rfl) (List.nil_sublist _) ?_)|(show WP _ _ _ _ (.region 21 _ true) _ _ _ _;refine o_drawnZ [Zf 0,Zf 1,Zf 2,Zf 3,Zf 4,Zf 5,Zf 6,Zf 7,Zf 8,Zf 9,Zf 10,Zt 11] [] mixed (by kernel_rfl) (List.nil_sublist _) ?_)|(show WP _ _ _ _ (.region 24 _ true) _ _ _ _;refine o_drawn [Zt 0,Zt 1,Zt 2,Zt 3,Zt 4,Zt 5,Zt 6,Zt 7,Zt 8,Zt 9,Zt 10,Zt 11,Zt 12,Zt 13,Zf 14,Zf 15,Zf 16,Zt 20,Zt 21,Zf 17,Zf 18,Zf 19,Zf 22,Zt 23] mixed (by kernel_rfl) ?_)
    · exact absurd h (by omega)
    refine w_drop (mks ms ++ ⟨b9, true, .cells #[.pointer (some ⟨bt, 0, none⟩)] 133 (0, 0)⟩ :: ⟨bt, true, .cells c' 140 (0, 0)⟩ :: ⟨b7, true, .cells #[.func (.func F) fs cs] 137 (0, 0)⟩ :: ⟨b4, true, .cells #[.slice qm n.mains.length cm, b, c, d, e] 28 (0, 0)⟩ :: S) (.cons _ (List.Sublist.append_left (.cons _ (List.Sublist.refl _)) _)) ?_
    refine wp_loop (fun i t ds S' => ∃ (j : Nat) (t0 : Tm) (ms : List Nat) (c' : Array Value), i = n.mains.length - j ∧ j ≤ n.mains.length ∧ dsOf ms = ds ∧ mks ms ++ ⟨b9, true, .cells #[.pointer (some ⟨bt, 0, none⟩)] 133 (0, 0)⟩ :: ⟨bt, true, .cells c' 140 (0, 0)⟩ :: ⟨b7, true, .cells #[.func (.func F) fs cs] 137 (0, 0)⟩ :: ⟨b4, true, .cells #[.slice qm n.mains.length cm, b, c, d, e] 28 (0, 0)⟩ :: S = S' ∧
      t = den [(9, .pointer (some ⟨b9, 0, none⟩)), (4, .pointer (some ⟨b4, 0, none⟩)), (118, .slice qm n.mains.length cm), (119, iv n.mains.length), (120, iv j)] t0 ∧ TreeP c' (.slice qm n.mains.length cm) (usedN n p k) (upsN n by' p k) (thrT n by' p k j) (evenN n by' p k))
      n.mains.length ⟨0, _, ms, c', rfl, Nat.zero_le _, rfl, rfl, keep ⟨rfl, rfl, rfl, rfl, rfl, trivial⟩, hT⟩ ?_
    rintro i' t ds S' ⟨j, t0, ms, c', rfl, hj', rfl, rfl, rfl, hT⟩
    have hsz := hT.size
    have hlu := hT.lu
    have hlp := hT.lp
    have hlh := hT.lh
    by_cases hjl : j < n.mains.length
    · have i2 : RowC c' (0 + 29) RangeG encRange (upsN n by' p k) := ⟨hT.up⟩
      have i3 : RowC c' (0 + 53) RangeG encRange (thrT n by' p k j) := ⟨hT.through⟩
      have hup : upOf n j = n.mains[j].up := by unfold upOf; rw [List.getElem?_eq_getElem hjl]
      by_cases hpl : 0 ≤ placeF n n.mains[j].up
      · obtain ⟨hpe, hil, _⟩ := idx_spec hpl
        have hst : thrT n by' p k (j + 1) = _ := if_pos (by rw [hup]; exact hpl)
        rw [hup] at hst
        generalize idx n n.mains[j].up = q at hpe hil hst
        have c87' : ∀ E S', NetV S' (.slice qm n.mains.length cm) b c d e n → CallW Tryz.prog E 87 #[.agg #[.slice qm n.mains.length cm, b, c, d, e], iv (n.mains[j]'hjl).up] S' fun r S'' => r = iv (q : Int) ∧ S'' = S' := fun E S' h => by rw [← hpe]; exact c87 E S' n _ _ _ _ _ _ h
        have hub : ∀ x ∈ usedN n p k, Bd 1000000000000000 x := fun x hx => (usedT_nn hV x hx).bd.mono (by omega)
        have hpb : ∀ x ∈ upsN n by' p k, Bd 1000000000000000 x := fun x hx => ((upsD_bd hV (by omega)).1 x hx).bd.mono (by omega)
        have hkb : ∀ m ∈ n.mains, Bd 1000000000000000 m.leak := fun m hm => by
          obtain ⟨q, hq, rfl⟩ := List.getElem_of_mem hm
          have := leak_nn hV (i := q)
          unfold leakOf at this
          rw [List.getElem?_eq_getElem hq] at this
          exact this.bd.mono (by omega)
        have hrb : ∀ b, Bd 1000000000000000000 (restR n.mains (usedN n p k) (upsN n by' p k) q b) := fun b => (restR_bd hm12 hub hpb hkb).mono (by omega)
        have hthb : ∀ x ∈ (thrT n by' p k j).set j ((upsN n by' p k)[j]'(by omega)), Bd 1000000000000000000 x := fun x hx => by
          rcases mem_set hx with rfl | hx
          · exact (hpb _ (List.getElem_mem _)).mono (by omega)
          · exact (thrT_bd hV x hx).mono (by omega)
        repeat' first|(refine gX ?_;first|refine o_v rfl rfl ?_|(refine o_splitD rfl rfl rfl ?_ ?_<;>intro h)|(refine o_split rfl rfl rfl ?_ ?_<;>intro h<;>fail_if_success exact Bool.noConfusion h)|(refine gL ?_;first|refine o_load rfl rfl rfl rfl ?_|refine o_loadR rfl rfl rfl (by omega) rfl rfl ?_|refine o_loadW rfl rfl rfl rfl ?_|refine o_loadK rfl rfl rfl ?_)|(refine gF ?_;first|refine o_fieldI rfl rfl rfl rfl ?_|refine o_field rfl rfl rfl rfl ?_)|(refine gB ?_;first|refine o_add rfl rfl rfl rfl (by omega) ?_|refine o_sub rfl rfl rfl rfl (by omega) ?_|refine o_eqNil rfl rfl rfl rfl rfl ?_)|(refine gC ?_;first|refine o_callF rfl rfl rfl (c87' _ _ (hn.sub Sb.h)) ?_|refine o_callF rfl rfl rfl (c111 _ _ bt true c2 (0, 0) n.mains _ _ _ _ _ q (j : Int) InS.h hT2 (hn.mains.sub Sb.h) hm12 hil hub hpb hkb) ?_|refine o_callF rfl rfl rfl (c149 _ _ (((thrT n by' p k j).set j ((upsN n by' p k)[j]'(by first|done|omega)))[q]'(by first|done|omega)) (restR n.mains (usedN n p k) (upsN n by' p k) q (j : Int)) (hthb _ (List.getElem_mem _)) (hrb _)) ?_|refine o_callF rfl rfl rfl (c110 _ _ ((upsN n by' p k)[j]'(by first|done|omega)) (lessR (((thrT n by' p k j).set j ((upsN n by' p k)[j]'(by first|done|omega)))[q]'(by first|done|omega)) (restR n.mains (usedN n p k) (upsN n by' p k) q (j : Int)))) ?_)|(refine gI ?_;first|refine o_indexAZ j rfl rfl rfl rfl rfl rfl (by omega) ?_|refine o_indexAZ q rfl rfl rfl rfl rfl rfl (by omega) ?_|refine o_indexS rfl rfl rfl rfl rfl rfl (by omega) ?_|refine o_index rfl rfl rfl rfl rfl (by omega) ?_)|(refine gS ?_;first|(refine o_storeC rfl rfl rfl rfl rfl (by omega) ?_;intro c3 hc3;have hT3 := hT2.setH (j := j) (by omega) hc3;refine ⟨_, inferInstance, ?_⟩)|(refine o_storeC rfl rfl rfl rfl rfl (by omega) ?_;intro c2 hc2;have hT2 := hT.setH (j := j) (by omega) hc2;have i4 : RowC c2 (0 + 53) RangeG encRange ((thrT n by' p k j).set j ((upsN n by' p k)[j]'(by omega))) := ⟨hT2.through⟩;have i5 : RowC c2 (0 + 29) RangeG encRange (upsN n by' p k) := ⟨hT2.up⟩;have hsz2 := hT2.size;have hlh2 := hT2.lh;refine ⟨_, inferInstance, ?_⟩)|refine o_store rfl rfl rfl rfl rfl rfl ?_|refine o_storeW rfl rfl rfl rfl rfl rfl ?_)|(refine o_allocZ rfl rfl ?_;intro _)|(refine o_box rfl rfl rfl ?_;intro _)|refine o_skip rfl rfl ?_|refine o_skipN rfl rfl ?_|refine o_build rfl rfl rfl rfl rfl ?_|(refine o_bslice rfl rfl rfl rfl rfl rfl rfl ?_;intro _)|(refine o_splitP rfl ?_ ?_<;>intro h<;>fail_if_success exact Bool.noConfusion h))|refine o_head0 rfl ?_|refine o_end ?_|refine o_head1 rfl ?_|(refine w_condD rfl ?_ ?_<;>intro h<;>try (exact absurd h (by omega)))|refine wp_seq ?_|refine o_region ?_|refine wp_block ?_|refine wp_skip ?_|refine wp_exit ?_|(refine w_condD rfl ?_ ?_<;>intro h)|(refine w_cond rfl ?_ ?_<;>intro h<;>try exact Bool.noConfusion h)|refine w_ret (S) (vs:=[_]) rfl (Res.tmp rfl Res.nil) ?_|(show WP _ _ _ _ (.region 5 _ true) _ _ _ _;refine o_drawn [Zt 0,Zt 1,Zt 2,Zt 3,Zt 4,Zt 5,Zt 6,Zt 7,Zf 8,Zt 12,Zt 13,Zf 9,Zf 10,Zf 11,Zf 14,Zt 15] mixed (by kernel_rfl) ?_)|(show WP _ _ _ _ (.region 6 _ true) _ _ _ _;refine o_drawn [Zt 0,Zt 1,Zt 2,Zt 3,Zt 4,Zt 5,Zt 6,Zf 7,Zt 8] mixed (by kernel_rfl) ?_)|(show WP _ _ _ _ (.region 10 _ true) _ _ _ _;refine o_drawn [Zt 0,Zt 1,Zf 2,Zf 3,Zf 4,Zf 5,Zt 6] mixed (by kernel_rfl) ?_)|(show WP _ _ _ _ (.region 13 _ true) _ _ _ _;refine o_drawnZ [Zf 0,Zf 1,Zf 2,Zf 3,Zf 4,Zf 5,Zf 6,Zf 7,Zf 8,Zf 9,Zf 10,Zf 11,Zt 12,Zf 13] [] mixed (by kernel_rfl) (List.nil_sublist _) ?_)|(show WP _ _ _ _ (.region 14 _ true) _ _ _ _;refine o_drawn [Zt 0,Zt 1,Zf 2,Zf 3,Zf 4,Zf 5,Zf 6,Zf 7,Zf 8,Zf 9,Zt 10] mixed (by kernel_rfl) ?_)|(show WP _ _ _ _ (.region 15 _ true) _ _ _ _;refine o_drawnZ [Zf 0,Zf 1,Zf 2,Zf 3,Zf 4,Zf 5,Zf 6,Zf 7,Zf 8,Zf 9,Zf 10,Zf 11,Zf 12,Zf 13,Zf 14,Zf 15,Zf 16,Zf 17,Zf 18,Zf 19,Zt 20] [] mixed (by kernel_rfl) (List.nil_sublist _) ?_)|(show WP _ _ _ _ (.region 21 _ true) _ _ _ _;refine o_drawnZ [Zf 0,Zf 1,Zf 2,Zf 3,Zf 4,Zf 5,Zf 6,Zf 7,Zf 8,Zf 9,Zf 10,Zt 11] [] mixed (by kernel_rfl) (List.nil_sublist _) ?_)|(show WP _ _ _ _ (.region 24 _ true) _ _ _ _;refine o_drawn [Zt 0,Zt 1,Zt 2,Zt 3,Zt 4,Zt 5,Zt 6,Zt 7,Zt 8,Zt 9,Zt 10,Zt 11,Zt 12,Zt 13,Zf 14,Zf 15,Zf 16,Zt 20,Zt 21,Zf 17,Zf 18,Zf 19,Zf 22,Zt 23] mixed (by kernel_rfl) ?_)
        refine ⟨n.mains.length - (j + 1), by omega, _, .cons _ (List.Sublist.refl _), j + 1, _, ms, c3, rfl, by omega, rfl, rfl, keep ⟨rfl, rfl, rfl, rfl, rfl, trivial⟩, ?_⟩
        rw [hst, partOf_get (by omega), partOf_get (by rw [List.length_set]; omega)]
        exact hT3
      · have c87' : ∀ E S', NetV S' (.slice qm n.mains.length cm) b c d e n → CallW Tryz.prog E 87 #[.agg #[.slice qm n.mains.length cm, b, c, d, e], iv (n.mains[j]'hjl).up] S' fun r S'' => r = iv (placeF n (n.mains[j]'hjl).up) ∧ S'' = S' := fun E S' h => c87 E S' n _ _ _ _ _ _ h
        have hst : thrT n by' p k (j + 1) = _ := if_neg (by rw [hup]; exact hpl)
        repeat' first|(refine gX ?_;first|refine o_v rfl rfl ?_|(refine o_splitD rfl rfl rfl ?_ ?_<;>intro h)|(refine o_split rfl rfl rfl ?_ ?_<;>intro h<;>fail_if_success exact Bool.noConfusion h)|(refine gL ?_;first|refine o_load rfl rfl rfl rfl ?_|refine o_loadR rfl rfl rfl (by omega) rfl rfl ?_|refine o_loadW rfl rfl rfl rfl ?_|refine o_loadK rfl rfl rfl ?_)|(refine gF ?_;first|refine o_fieldI rfl rfl rfl rfl ?_|refine o_field rfl rfl rfl rfl ?_)|(refine gB ?_;first|refine o_add rfl rfl rfl rfl (by omega) ?_|refine o_sub rfl rfl rfl rfl (by omega) ?_|refine o_eqNil rfl rfl rfl rfl rfl ?_)|(refine gC ?_;first|refine o_callF rfl rfl rfl (c87' _ _ (hn.sub Sb.h)) ?_)|(refine gI ?_;first|refine o_indexAZ j rfl rfl rfl rfl rfl rfl (by omega) ?_|refine o_indexS rfl rfl rfl rfl rfl rfl (by omega) ?_|refine o_index rfl rfl rfl rfl rfl (by omega) ?_)|(refine gS ?_;first|(refine o_storeC rfl rfl rfl rfl rfl (by omega) ?_;intro c2 hc2;have hT2 := hT.setH (j := j) (by omega) hc2;have i4 : RowC c2 (0 + 53) RangeG encRange ((thrT n by' p k j).set j ((upsN n by' p k)[j]'(by omega))) := ⟨hT2.through⟩;have i5 : RowC c2 (0 + 29) RangeG encRange (upsN n by' p k) := ⟨hT2.up⟩;have hsz2 := hT2.size;have hlh2 := hT2.lh;refine ⟨_, inferInstance, ?_⟩)|refine o_store rfl rfl rfl rfl rfl rfl ?_|refine o_storeW rfl rfl rfl rfl rfl rfl ?_)|(refine o_allocZ rfl rfl ?_;intro _)|(refine o_box rfl rfl rfl ?_;intro _)|refine o_skip rfl rfl ?_|refine o_skipN rfl rfl ?_|refine o_build rfl rfl rfl rfl rfl ?_|(refine o_bslice rfl rfl rfl rfl rfl rfl rfl ?_;intro _)|(refine o_splitP rfl ?_ ?_<;>intro h<;>fail_if_success exact Bool.noConfusion h))|refine o_head0 rfl ?_|refine o_end ?_|refine o_head1 rfl ?_|(refine w_condD rfl ?_ ?_<;>intro h<;>try (exact absurd h (by omega)))|refine wp_seq ?_|refine o_region ?_|refine wp_block ?_|refine wp_skip ?_|refine wp_exit ?_|(refine w_condD rfl ?_ ?_<;>intro h)|(refine w_cond rfl ?_ ?_<;>intro h<;>try exact Bool.noConfusion h)|refine w_ret (S) (vs:=[_]) rfl (Res.tmp rfl Res.nil) ?_|(show WP _ _ _ _ (.region 5 _ true) _ _ _ _;refine o_drawn [Zt 0,Zt 1,Zt 2,Zt 3,Zt 4,Zt 5,Zt 6,Zt 7,Zf 8,Zt 12,Zt 13,Zf 9,Zf 10,Zf 11,Zf 14,Zt 15] mixed (by kernel_rfl) ?_)|(show WP _ _ _ _ (.region 6 _ true) _ _ _ _;refine o_drawn [Zt 0,Zt 1,Zt 2,Zt 3,Zt 4,Zt 5,Zt 6,Zf 7,Zt 8] mixed (by kernel_rfl) ?_)|(show WP _ _ _ _ (.region 10 _ true) _ _ _ _;refine o_drawn [Zt 0,Zt 1,Zf 2,Zf 3,Zf 4,Zf 5,Zt 6] mixed (by kernel_rfl) ?_)|(show WP _ _ _ _ (.region 13 _ true) _ _ _ _;refine o_drawnZ [Zf 0,Zf 1,Zf 2,Zf 3,Zf 4,Zf 5,Zf 6,Zf 7,Zf 8,Zf 9,Zf 10,Zf 11,Zt 12,Zf 13] [] mixed (by kernel_rfl) (List.nil_sublist _) ?_)|(show WP _ _ _ _ (.region 14 _ true) _ _ _ _;refine o_drawn [Zt 0,Zt 1,Zf 2,Zf 3,Zf 4,Zf 5,Zf 6,Zf 7,Zf 8,Zf 9,Zt 10] mixed (by kernel_rfl) ?_)|(show WP _ _ _ _ (.region 15 _ true) _ _ _ _;refine o_drawnZ [Zf 0,Zf 1,Zf 2,Zf 3,Zf 4,Zf 5,Zf 6,Zf 7,Zf 8,Zf 9,Zf 10,Zf 11,Zf 12,Zf 13,Zf 14,Zf 15,Zf 16,Zf 17,Zf 18,Zf 19,Zt 20] [] mixed (by kernel_rfl) (List.nil_sublist _) ?_)|(show WP _ _ _ _ (.region 21 _ true) _ _ _ _;refine o_drawnZ [Zf 0,Zf 1,Zf 2,Zf 3,Zf 4,Zf 5,Zf 6,Zf 7,Zf 8,Zf 9,Zf 10,Zt 11] [] mixed (by kernel_rfl) (List.nil_sublist _) ?_)|(show WP _ _ _ _ (.region 24 _ true) _ _ _ _;refine o_drawn [Zt 0,Zt 1,Zt 2,Zt 3,Zt 4,Zt 5,Zt 6,Zt 7,Zt 8,Zt 9,Zt 10,Zt 11,Zt 12,Zt 13,Zf 14,Zf 15,Zf 16,Zt 20,Zt 21,Zf 17,Zf 18,Zf 19,Zf 22,Zt 23] mixed (by kernel_rfl) ?_)
        refine ⟨n.mains.length - (j + 1), by omega, _, .cons _ (List.Sublist.refl _), j + 1, _, ms, c2, rfl, by omega, rfl, rfl, keep ⟨rfl, rfl, rfl, rfl, rfl, trivial⟩, ?_⟩
        rw [hst, partOf_get (by omega)]
        exact hT2
    · have hj : j = n.mains.length := by omega
      subst hj
      repeat' first|(refine gX ?_;first|refine o_v rfl rfl ?_|(refine o_splitD rfl rfl rfl ?_ ?_<;>intro h)|(refine o_split rfl rfl rfl ?_ ?_<;>intro h<;>fail_if_success exact Bool.noConfusion h)|(refine gL ?_;first|refine o_load rfl rfl rfl rfl ?_|refine o_loadR rfl rfl rfl (by omega) rfl rfl ?_|refine o_loadW rfl rfl rfl rfl ?_|refine o_loadK rfl rfl rfl ?_)|(refine gF ?_;first|refine o_fieldI rfl rfl rfl rfl ?_|refine o_field rfl rfl rfl rfl ?_)|(refine gB ?_;first|refine o_add rfl rfl rfl rfl (by omega) ?_|refine o_sub rfl rfl rfl rfl (by omega) ?_|refine o_eqNil rfl rfl rfl rfl rfl ?_)|(refine gI ?_;first|refine o_indexS rfl rfl rfl rfl rfl rfl (by omega) ?_|refine o_index rfl rfl rfl rfl rfl (by omega) ?_)|(refine gS ?_;first|refine o_store rfl rfl rfl rfl rfl rfl ?_|refine o_storeW rfl rfl rfl rfl rfl rfl ?_)|(refine o_allocZ rfl rfl ?_;intro _)|(refine o_box rfl rfl rfl ?_;intro _)|refine o_skip rfl rfl ?_|refine o_skipN rfl rfl ?_|refine o_build rfl rfl rfl rfl rfl ?_|(refine o_bslice rfl rfl rfl rfl rfl rfl rfl ?_;intro _)|(refine o_splitP rfl ?_ ?_<;>intro h<;>fail_if_success exact Bool.noConfusion h))|refine o_head0 rfl ?_|refine o_end ?_|refine o_head1 rfl ?_|(refine w_condD rfl ?_ ?_<;>intro h<;>try (exact absurd h (by omega)))|refine wp_seq ?_|refine o_region ?_|refine wp_block ?_|refine wp_skip ?_|refine wp_exit ?_|(refine w_condD rfl ?_ ?_<;>intro h)|(refine w_cond rfl ?_ ?_<;>intro h<;>try exact Bool.noConfusion h)|refine w_retM (ms) (⟨bt, true, .cells c' 140 (0, 0)⟩ :: S) (List.Sublist.append_left (.cons _ (.cons_cons _ (.cons _ (.cons _ (List.Sublist.refl _))))) _) (vs:=[_]) rfl (Res.tmp rfl Res.nil) ?_|(show WP _ _ _ _ (.region 5 _ true) _ _ _ _;refine o_drawn [Zt 0,Zt 1,Zt 2,Zt 3,Zt 4,Zt 5,Zt 6,Zt 7,Zf 8,Zt 12,Zt 13,Zf 9,Zf 10,Zf 11,Zf 14,Zt 15] mixed (by kernel_rfl) ?_)|(show WP _ _ _ _ (.region 6 _ true) _ _ _ _;refine o_drawn [Zt 0,Zt 1,Zt 2,Zt 3,Zt 4,Zt 5,Zt 6,Zf 7,Zt 8] mixed (by kernel_rfl) ?_)|(show WP _ _ _ _ (.region 10 _ true) _ _ _ _;refine o_drawn [Zt 0,Zt 1,Zf 2,Zf 3,Zf 4,Zf 5,Zt 6] mixed (by kernel_rfl) ?_)|(show WP _ _ _ _ (.region 13 _ true) _ _ _ _;refine o_drawnZ [Zf 0,Zf 1,Zf 2,Zf 3,Zf 4,Zf 5,Zf 6,Zf 7,Zf 8,Zf 9,Zf 10,Zf 11,Zt 12,Zf 13] [] mixed (by kernel_rfl) (List.nil_sublist _) ?_)|(show WP _ _ _ _ (.region 14 _ true) _ _ _ _;refine o_drawn [Zt 0,Zt 1,Zf 2,Zf 3,Zf 4,Zf 5,Zf 6,Zf 7,Zf 8,Zf 9,Zt 10] mixed (by kernel_rfl) ?_)|(show WP _ _ _ _ (.region 15 _ true) _ _ _ _;refine o_drawnZ [Zf 0,Zf 1,Zf 2,Zf 3,Zf 4,Zf 5,Zf 6,Zf 7,Zf 8,Zf 9,Zf 10,Zf 11,Zf 12,Zf 13,Zf 14,Zf 15,Zf 16,Zf 17,Zf 18,Zf 19,Zt 20] [] mixed (by kernel_rfl) (List.nil_sublist _) ?_)|(show WP _ _ _ _ (.region 21 _ true) _ _ _ _;refine o_drawnZ [Zf 0,Zf 1,Zf 2,Zf 3,Zf 4,Zf 5,Zf 6,Zf 7,Zf 8,Zf 9,Zf 10,Zt 11] [] mixed (by kernel_rfl) (List.nil_sublist _) ?_)|(show WP _ _ _ _ (.region 24 _ true) _ _ _ _;refine o_drawn [Zt 0,Zt 1,Zt 2,Zt 3,Zt 4,Zt 5,Zt 6,Zt 7,Zt 8,Zt 9,Zt 10,Zt 11,Zt 12,Zt 13,Zf 14,Zf 15,Zf 16,Zt 20,Zt 21,Zf 17,Zf 18,Zf 19,Zf 22,Zt 23] mixed (by kernel_rfl) ?_)
      exact ⟨bt, c', rfl, rfl, hT⟩
end Go.Proofs.YtpnnmklacialgaaGreat
