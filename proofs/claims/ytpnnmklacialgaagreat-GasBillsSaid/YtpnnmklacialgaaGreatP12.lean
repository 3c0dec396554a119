/- What a main owes; whether two lists of postings are the same.
   The postings, as the specification tells them.
   Posts, Balance and CheckPosts: what the specification and gas answer.
   The dates and the periods: gas and the specification list the same.
   In an even period every range has a number; what is billed is at most what lamps burnt.
   Between two dates no bill changes: the postings of gas are those of the specification.
   GasBills: the walk over every net, point and list of postings.
   From the caller's own tree to the row: the outermost call, and what its arguments read as.
   What arguments read as: numbers, structs of numbers, slices of such, a net.
   The frame of the eight laws: from the walk over every net (whatever its two further arguments) to the row's contract. -/
import Derived.Test.YtpnnmklacialgaaGreatP11
import Derived.Conc.LeavingOf
import Derived.Carry
import Derived.Deep.Slices
import Derived.OpenShut
import Derived.SizedLaws
set_option linter.unusedVariables false
set_option linter.unusedSimpArgs false
set_option linter.unusedSectionVars false
namespace Go.Proofs.YtpnnmklacialgaaGreat
open Go.Conc
attribute [local irreducible] WP OpF OpX CallW SemH retQ AnyF RoundW WM OpsM CallM
def owedR (n : NetG) (main p k : Int) : BillG := if askedE n (oneI main) p k = 0 then billAt (billsN n p k) (idx n main) else zB
theorem c20 (E : Env) (S : Ents) (n : NetG) (a b c d e : Value) (main p k : Int) (hn : NetV S a b c d e n) :
    CallW Tryz.prog E 20 #[.agg #[a, b, c, d, e], iv main, .agg #[iv p, iv k]] S fun r S' => r = .tuple #[.agg (billC (owedR n main p k)), iv (askedE n (oneI main) p k)] ∧ S' = S := by
  have hbl : (billsN n p k).length = n.mains.length := bill2_len
  refine call_in (args := [.agg #[a, b, c, d, e], iv main, .agg #[iv p, iv k]]) Tryz.func20 (by decide) rfl rfl ?_
  repeat' first|(refine gX ?_;first|refine o_v rfl rfl ?_|(refine gL ?_;first|refine o_load rfl rfl rfl rfl ?_|refine o_loadR rfl rfl rfl (by omega) rfl rfl ?_|refine o_loadW rfl rfl rfl rfl ?_|refine o_loadK rfl rfl rfl ?_)|(refine gF ?_;first|refine o_fieldI rfl rfl rfl rfl ?_|refine o_field rfl rfl rfl rfl ?_)|(refine gC ?_;first|refine o_callF rfl rfl rfl (c89 _ _ _) ?_|refine o_callF rfl rfl rfl (c85 _ _ n _ _ _ _ _ _ _ _ (hn.sub Sb.h)) ?_|(refine o_callZ rfl rfl rfl (c90 _ _ n _ _ _ _ _ p k (hn.sub Sb.h) (asked_ok (n := n) (main := oneI main) (p := p) (k := k) (Classical.not_not.1 ‹_›))) ?_;rintro r _ ⟨Δ, ho, rfl⟩;obtain ⟨wa, wc, rfl, _, hra⟩ := ho.slv;have i1 := SlI.mk hra;have hpm := asked_main (n := n) (main := main) (p := p) (k := k) (Classical.not_not.1 ‹_›);obtain ⟨hpe, hil, _⟩ := idx_spec hpm;refine ⟨inferInstance, ?_⟩)|refine o_callF rfl rfl rfl (c91 _ _ n.mains _ _ (hn.mains.sub Sb.h) hn.mains_le) ?_)|(refine gI ?_;first|refine o_indexZ (idx n main) rfl rfl rfl rfl rfl rfl hpe (by omega) ?_|refine o_indexS rfl rfl rfl rfl rfl rfl (by omega) ?_|refine o_index rfl rfl rfl rfl rfl (by omega) ?_)|(refine gS ?_;first|refine o_store rfl rfl rfl rfl rfl rfl ?_|refine o_storeW rfl rfl rfl rfl rfl rfl ?_)|(refine o_allocZ rfl rfl ?_;intro _)|(refine o_box rfl rfl rfl ?_;intro _)|refine o_build rfl rfl rfl rfl rfl ?_)|refine o_head0 rfl ?_|refine o_end ?_|refine o_head1 rfl ?_|refine wp_seq ?_|refine o_region ?_|refine wp_skip ?_|(refine w_condD rfl ?_ ?_<;>intro h)|(refine w_cond rfl ?_ ?_<;>intro h<;>try exact Bool.noConfusion h)|refine w_ret (S) (vs:=[_,_]) rfl (Res.cell rfl rfl (Res.tmp rfl Res.nil)) ?_|(show WP _ _ _ _ (.region 1 _ true) _ _ _ _;refine o_drawn [Zt 0,Zf 1,Zt 3,Zf 2,Zt 4,Zf 5] mixed (by kernel_rfl) ?_)|(show WP _ _ _ _ (.region 4 _ true) _ _ _ _;refine o_drawn [Zf 0,Zf 1,Zt 3,Zt 4,Zt 5,Zf 2,Zt 6,Zf 7,Zf 8,Zt 9,Zf 10] mixed (by kernel_rfl) ?_)
  · have h1 : ¬ askedE n (oneI main) p k = 0 := h
    refine ⟨?_, rfl⟩
    unfold owedR
    rw [if_neg h1]
    rfl
  · have h1 : askedE n (oneI main) p k = 0 := Classical.not_not.1 h
    have hg : billAt (billsN n p k) (idx n main) = (billsN n p k)[idx n main]'(by omega) := by simp [billAt, List.getD, show idx n main < (billsN n p k).length by omega]
    refine ⟨?_, rfl⟩
    unfold owedR
    rw [if_pos h1, h1, hg]
    rfl
theorem post_ext {x y : PostG} : [x.known, x.main, x.period, x.gas, x.penalty] = [y.known, y.main, y.period, y.gas, y.penalty] ↔ x = y := by
  cases x; cases y; simp
theorem c25 (E : Env) (S : Ents) (xs ys : List PostG) (v w : Value) (hv : SlV S v xs) (hw : SlV S w ys) (hm : xs.length ≤ 17592186044416) : CallW Tryz.prog E 25 #[v, w] S fun r S' => r = .bool (decide (xs = ys)) ∧ S' = S := by
  obtain ⟨qa, ca, rfl, _, hra⟩ := hv
  obtain ⟨qb, cb, rfl, _, hrb⟩ := hw
  have ia := SlI.mk hra
  have ib := SlI.mk hrb
  refine call_in (args := [.slice qa xs.length ca, .slice qb ys.length cb]) Tryz.func25 (by decide) rfl rfl ?_
  repeat' first|(refine gX ?_;first|refine o_v rfl rfl ?_|(refine gL ?_;first|refine o_load rfl rfl rfl rfl ?_|refine o_loadR rfl rfl rfl (by omega) rfl rfl ?_|refine o_loadW rfl rfl rfl rfl ?_|refine o_loadK rfl rfl rfl ?_)|(refine gB ?_;first|refine o_add rfl rfl rfl rfl (by omega) ?_)|(refine gI ?_;first|refine o_indexS rfl rfl rfl rfl rfl rfl (by omega) ?_|refine o_index rfl rfl rfl rfl rfl (by omega) ?_))|refine o_head0 rfl ?_|refine o_end ?_|refine o_head1 rfl ?_|refine wp_seq ?_|refine o_region ?_|refine wp_block ?_|refine wp_skip ?_|refine wp_exit ?_|(refine w_condD rfl ?_ ?_<;>intro h)|(refine w_cond rfl ?_ ?_<;>intro h<;>try exact Bool.noConfusion h)|refine w_ret (S) (vs:=[_]) rfl (Res.tmp rfl Res.nil) ?_|(show WP _ _ _ _ (.region 6 _ true) _ _ _ _;refine o_drawnZ [Zf 0,Zf 1,Zf 2,Zf 3,Zf 4,Zf 5,Zf 6,Zf 7,Zf 8] [] mixed (by kernel_rfl) (List.nil_sublist _) ?_)
  · exact ⟨by rw [decide_eq_false (fun e => h (by rw [e]))]; rfl, rfl⟩
  have hl : xs.length = ys.length := by omega
  refine wp_loop (fun m t ds S' => ∃ (j : Nat) (t0 : Tm), m = xs.length - j ∧ j ≤ xs.length ∧ [] = ds ∧ S = S' ∧ t = den [(13, iv j), (12, iv xs.length), (0, .slice qa xs.length ca), (1, .slice qb ys.length cb)] t0 ∧ xs.take j = ys.take j)
    _ ⟨0, _, rfl, Nat.zero_le _, rfl, rfl, keep ⟨rfl, rfl, rfl, rfl, trivial⟩, rfl⟩ ?_
  rintro m t ds S' ⟨j, t0, rfl, hj, rfl, rfl, rfl, he⟩
  repeat' first|(refine gX ?_;first|refine o_v rfl rfl ?_|(refine gL ?_;first|refine o_load rfl rfl rfl rfl ?_|refine o_loadR rfl rfl rfl (by omega) rfl rfl ?_|refine o_loadW rfl rfl rfl rfl ?_|refine o_loadK rfl rfl rfl ?_)|(refine gB ?_;first|refine o_neS (k := 5) rfl rfl rfl rfl rfl rfl rfl rfl ?_|refine o_add rfl rfl rfl rfl (by omega) ?_)|(refine gI ?_;first|refine o_indexS rfl rfl rfl rfl rfl rfl (by omega) ?_|refine o_indexS rfl rfl rfl rfl rfl rfl (by omega) ?_|refine o_index rfl rfl rfl rfl rfl (by omega) ?_))|refine o_head0 rfl ?_|refine o_end ?_|refine o_head1 rfl ?_|refine wp_seq ?_|refine o_region ?_|refine wp_block ?_|refine wp_skip ?_|refine wp_exit ?_|(refine w_condD rfl ?_ ?_<;>intro h)|(refine w_cond rfl ?_ ?_<;>intro h<;>try exact Bool.noConfusion h)|refine w_ret (S) (vs:=[_]) rfl (Res.tmp rfl Res.nil) ?_|(show WP _ _ _ _ (.region 6 _ true) _ _ _ _;refine o_drawnZ [Zf 0,Zf 1,Zf 2,Zf 3,Zf 4,Zf 5,Zf 6,Zf 7,Zf 8] [] mixed (by kernel_rfl) (List.nil_sublist _) ?_)
  · have h2 : xs[j] ≠ ys[j]'(by omega) := fun e => h (post_ext.2 e)
    exact ⟨by rw [decide_eq_false (fun e => h2 (by subst e; rfl))]; rfl, rfl⟩
  · have h2 : xs[j] = ys[j]'(by omega) := Classical.byContradiction fun hc => h fun e => hc (post_ext.1 e)
    exact ⟨xs.length - (j + 1), by omega, _, List.Sublist.refl _, j + 1, _, rfl, by omega, rfl, rfl, keep ⟨rfl, rfl, rfl, rfl, trivial⟩, by rw [take_snoc (by omega), take_snoc (by omega), he, h2]⟩
  · have hj2 : j = xs.length := by omega
    subst hj2
    rw [List.take_length, hl, List.take_length] at he
    exact ⟨by rw [decide_eq_true he]; rfl, rfl⟩
theorem c94 (E : Env) (S : Ents) (xs ys : List PostG) (v w : Value) (hv : SlV S v xs) (hw : SlV S w ys) (hm : xs.length ≤ 17592186044416) : CallW Tryz.prog E 94 #[v, w] S fun r S' => r = .bool (decide (xs = ys)) ∧ S' = S := by
  obtain ⟨qa, ca, rfl, _, hra⟩ := hv
  obtain ⟨qb, cb, rfl, _, hrb⟩ := hw
  have ia := SlI.mk hra
  have ib := SlI.mk hrb
  refine call_in (args := [.slice qa xs.length ca, .slice qb ys.length cb]) Tryz.func94 (by decide) rfl rfl ?_
  repeat' first|(refine gX ?_;first|refine o_v rfl rfl ?_|(refine gL ?_;first|refine o_load rfl rfl rfl rfl ?_|refine o_loadR rfl rfl rfl (by omega) rfl rfl ?_|refine o_loadW rfl rfl rfl rfl ?_|refine o_loadK rfl rfl rfl ?_)|(refine gB ?_;first|refine o_add rfl rfl rfl rfl (by omega) ?_)|(refine gI ?_;first|refine o_indexS rfl rfl rfl rfl rfl rfl (by omega) ?_|refine o_index rfl rfl rfl rfl rfl (by omega) ?_))|refine o_head0 rfl ?_|refine o_end ?_|refine o_head1 rfl ?_|refine wp_seq ?_|refine o_region ?_|refine wp_block ?_|refine wp_skip ?_|refine wp_exit ?_|(refine w_condD rfl ?_ ?_<;>intro h)|(refine w_cond rfl ?_ ?_<;>intro h<;>try exact Bool.noConfusion h)|refine w_ret (S) (vs:=[_]) rfl (Res.tmp rfl Res.nil) ?_|(show WP _ _ _ _ (.region 6 _ true) _ _ _ _;refine o_drawnZ [Zf 0,Zf 1,Zf 2,Zf 3,Zf 4,Zf 5,Zf 6,Zf 7,Zf 8] [] mixed (by kernel_rfl) (List.nil_sublist _) ?_)
  · exact ⟨by rw [decide_eq_false (fun e => h (by rw [e]))]; rfl, rfl⟩
  have hl : xs.length = ys.length := by omega
  refine wp_loop (fun m t ds S' => ∃ (j : Nat) (t0 : Tm), m = xs.length - j ∧ j ≤ xs.length ∧ [] = ds ∧ S = S' ∧ t = den [(13, iv j), (12, iv xs.length), (0, .slice qa xs.length ca), (1, .slice qb ys.length cb)] t0 ∧ xs.take j = ys.take j)
    _ ⟨0, _, rfl, Nat.zero_le _, rfl, rfl, keep ⟨rfl, rfl, rfl, rfl, trivial⟩, rfl⟩ ?_
  rintro m t ds S' ⟨j, t0, rfl, hj, rfl, rfl, rfl, he⟩
  repeat' first|(refine gX ?_;first|refine o_v rfl rfl ?_|(refine gL ?_;first|refine o_load rfl rfl rfl rfl ?_|refine o_loadR rfl rfl rfl (by omega) rfl rfl ?_|refine o_loadW rfl rfl rfl rfl ?_|refine o_loadK rfl rfl rfl ?_)|(refine gB ?_;first|refine o_neS (k := 5) rfl rfl rfl rfl rfl rfl rfl rfl ?_|refine o_add rfl rfl rfl rfl (by omega) ?_)|(refine gI ?_;first|refine o_indexS rfl rfl rfl rfl rfl rfl (by omega) ?_|refine o_indexS rfl rfl rfl rfl rfl rfl (by omega) ?_|refine o_index rfl rfl rfl rfl rfl (by omega) ?_))|refine o_head0 rfl ?_|refine o_end ?_|refine o_head1 rfl ?_|refine wp_seq ?_|refine o_region ?_|refine wp_block ?_|refine wp_skip ?_|refine wp_exit ?_|(refine w_condD rfl ?_ ?_<;>intro h)|(refine w_cond rfl ?_ ?_<;>intro h<;>try exact Bool.noConfusion h)|refine w_ret (S) (vs:=[_]) rfl (Res.tmp rfl Res.nil) ?_|(show WP _ _ _ _ (.region 6 _ true) _ _ _ _;refine o_drawnZ [Zf 0,Zf 1,Zf 2,Zf 3,Zf 4,Zf 5,Zf 6,Zf 7,Zf 8] [] mixed (by kernel_rfl) (List.nil_sublist _) ?_)
  · have h2 : xs[j] ≠ ys[j]'(by omega) := fun e => h (post_ext.2 e)
    exact ⟨by rw [decide_eq_false (fun e => h2 (by subst e; rfl))]; rfl, rfl⟩
  · have h2 : xs[j] = ys[j]'(by omega) := Classical.byContradiction fun hc => h fun e => hc (post_ext.1 e)
    exact ⟨xs.length - (j + 1), by omega, _, List.Sublist.refl _, j + 1, _, rfl, by omega, rfl, rfl, keep ⟨rfl, rfl, rfl, rfl, trivial⟩, by rw [take_snoc (by omega), take_snoc (by omega), he, h2]⟩
  · have hj2 : j = xs.length := by omega
    subst hj2
    rw [List.take_length, hl, List.take_length] at he
    exact ⟨by rw [decide_eq_true he]; rfl, rfl⟩
end Go.Proofs.YtpnnmklacialgaaGreat
namespace Go.Proofs.YtpnnmklacialgaaGreat
open Go.Conc
attribute [local irreducible] WP OpF OpX CallW SemH retQ AnyF RoundW WM OpsM CallM
def zeroRow (n : NetG) : List BillG := List.replicate n.mains.length zB
def postIf (n : NetG) (d : Int) (f : Int → List BillG) (i : Nat) (p : Int) : List PostG :=
  if billAt (billsN n p d) i = billAt (f p) i then [] else [⟨d, idAt n i, p, (billAt (billsN n p d) i).gas - (billAt (f p) i).gas, (billAt (billsN n p d) i).penalty - (billAt (f p) i).penalty⟩]
def rowFrom (n : NetG) (d : Int) (f : Int → List BillG) (i k : Nat) : List PostG := ((periodsR n).drop k).flatMap (postIf n d f i)
def dayFrom (n : NetG) (d : Int) (f : Int → List BillG) (i : Nat) : List PostG := (List.range' i (n.mains.length - i)).flatMap fun i => rowFrom n d f i 0
def postsD (n : NetG) (known : Int) : List Int → (Int → List BillG) → List PostG
  | [], _ => []
  | d :: ds, f => if d > known then [] else dayFrom n d f 0 ++ postsD n known ds fun p => billsN n p d
def postsR (n : NetG) (known : Int) : List PostG := postsD n known (daysR n) fun _ => zeroRow n
structure RowsP (Ω : Ents) (ps : List Int) (f : Int → List BillG) (ls : List SlG) (j : Nat) : Prop where
  len : ls.length = ps.length
  row : ∀ q (h : q < ls.length), q < j → SlV Ω ls[q].v (f (at0 ps q))
theorem RowsP.set {Ω Δ : Ents} {ps : List Int} {f : Int → List BillG} {ls : List SlG} {j : Nat} {x : SlG} (h : RowsP Ω ps f ls j) (hj : j < ls.length) (hx : SlV Δ x.v (f (at0 ps j))) : RowsP (Δ ++ Ω) ps f (ls.set j x) (j + 1) := by
  refine ⟨by rw [List.length_set]; exact h.len, fun q hq hj2 => ?_⟩
  rw [List.getElem_set]
  split
  · rename_i e
    subst e
    exact hx.sub (List.sublist_append_left _ _)
  · exact (h.row q (by rw [List.length_set] at hq; exact hq) (by omega)).app
theorem periodsR_len {n : NetG} (hu : n.uses.length ≤ 60) (hr : n.readings.length ≤ 60) (hf : n.faults.length ≤ 60) : (periodsR n).length ≤ 180 := by
  unfold periodsR
  have h1 := flatC_len (l := n.uses) (f := fun x => [x.period]) (c := 1) (fun x => Nat.le_refl _) hu
  have h2 := flatC_len (l := n.readings) (f := fun x => [x.period]) (c := 1) (fun x => Nat.le_refl _) hr
  have h3 := flatC_len (l := n.faults) (f := fun x => [x.period]) (c := 1) (fun x => Nat.le_refl _) hf
  refine Nat.le_trans putAll_len ?_
  have h4 := putAll_len (acc := putAll [] (n.uses.flatMap fun x => [x.period])) (l := n.readings.flatMap fun x => [x.period])
  have h5 := putAll_len (acc := []) (l := n.uses.flatMap fun x => [x.period])
  simp only [List.length_nil] at h5
  omega
theorem perm3 {A B C X : Ents} : (A ++ (B ++ (C ++ X))).Perm (B ++ (C ++ (A ++ X))) :=
  (List.perm_append_comm_assoc A B _).trans (List.Perm.append_left B (List.perm_append_comm_assoc A C X))
theorem daysR_len {n : NetG} (hu : n.uses.length ≤ 60) (hr : n.readings.length ≤ 60) (hf : n.faults.length ≤ 60) : (daysR n).length ≤ 360 :=
  Nat.le_trans (List.length_filter_le _ _) (datesR_len hu hr hf)
def RowOk (n : NetG) (f : Int → List BillG) : Prop := ∀ p, (f p).length = n.mains.length ∧ ∀ i, BillOk (billAt (f p) i)
theorem rowOk_zero {n : NetG} : RowOk n fun _ => zeroRow n := fun p => ⟨List.length_replicate .., fun i => by
  have : billAt (zeroRow n) i = zB := by
    unfold billAt zeroRow
    rw [List.getD_eq_getElem?_getD, List.getElem?_replicate]
    split <;> rfl
  rw [this]
  unfold BillOk zB
  simp⟩
theorem rowOk_bills {n : NetG} (hV : Valid n) {d : Int} : RowOk n fun p => billsN n p d := fun p => ⟨bill2_len, fun i => billsN_bd hV⟩
theorem bill_ext {x y : BillG} (h : [x.gas, x.penalty] = [y.gas, y.penalty]) : x = y := by
  cases x; cases y; simpa using h
theorem rowsP_up {A B : Ents} {ps : List Int} {f : Int → List BillG} {ls : List SlG} {j : Nat} (h : RowsP A ps f ls j) : RowsP (A ++ B) ps f ls j := ⟨h.len, fun q hq hj => (h.row q hq hj).sub (List.sublist_append_left _ _)⟩
theorem len_step {x i q : Nat} (h : q ≤ 180) : x + i * 180 + q ≤ x + (i + 1) * 180 := by omega
theorem len_day {j m l : Nat} (h : m ≤ 12) (hl : l ≤ j * 2160 + m * 180) : l ≤ (j + 1) * 2160 := by omega
theorem dayFrom_at {n : NetG} {d : Int} {f : Int → List BillG} {i : Nat} (h : i < n.mains.length) : dayFrom n d f i = rowFrom n d f i 0 ++ dayFrom n d f (i + 1) := by
  unfold dayFrom
  rw [show n.mains.length - i = (n.mains.length - (i + 1)) + 1 by omega, List.range'_succ, List.flatMap_cons]
theorem dayFrom_end {n : NetG} {d : Int} {f : Int → List BillG} : dayFrom n d f n.mains.length = [] := by
  unfold dayFrom
  rw [Nat.sub_self]
  rfl
theorem rowFrom_at {n : NetG} {d : Int} {f : Int → List BillG} {i k : Nat} (h : k < (periodsR n).length) : rowFrom n d f i k = postIf n d f i (at0 (periodsR n) k) ++ rowFrom n d f i (k + 1) := by
  unfold rowFrom
  rw [List.drop_eq_getElem_cons h, List.flatMap_cons, at0_get h]
theorem rowFrom_end {n : NetG} {d : Int} {f : Int → List BillG} {i : Nat} : rowFrom n d f i (periodsR n).length = [] := by
  unfold rowFrom
  rw [List.drop_length]
  rfl
theorem c93 (E : Env) (S : Ents) (n : NetG) (a b c d e : Value) (known : Int) (hn : NetV S a b c d e n) (hV : Valid n) : CallW Tryz.prog E 93 #[.agg #[a, b, c, d, e], iv known] S fun r S' => ∃ Δ, Own r (postsR n known) Δ ∧ S' = Δ ++ S := by
  have hu := hV.u60
  have hr := hV.r60
  have hf := hV.f60
  have hm12 := hV.m12
  have hpl := periodsR_len hu hr hf
  have hsm := hn.mains
  obtain ⟨qm, cm, rfl, _, hrm⟩ := hn.mains
  have iim := SlI.mk hrm
  refine call_in (args := [.agg #[.slice qm n.mains.length cm, b, c, d, e], iv known]) Tryz.func93 (by decide) rfl rfl ?_
  repeat' first|(refine gX ?_;first|refine o_v rfl rfl ?_|(refine gL ?_;first|refine o_load rfl rfl rfl rfl ?_|refine o_loadR rfl rfl rfl (by omega) rfl rfl ?_|refine o_loadW rfl rfl rfl rfl ?_|refine o_loadK rfl rfl rfl ?_)|(refine gF ?_;first|refine o_fieldI rfl rfl rfl rfl ?_|refine o_field rfl rfl rfl rfl ?_)|(refine gB ?_;first|refine o_add rfl rfl rfl rfl (by omega) ?_|refine o_sub rfl rfl rfl rfl (by omega) ?_)|(refine gC ?_;first|(refine o_callZ rfl rfl rfl (c34 _ _ n _ _ _ _ _ (hn.sub Sb.h) hu hr hf) ?_;rintro r _ ⟨Δp, hop, rfl⟩;obtain ⟨pa, pc, rfl, hpc, hrp⟩ := hop.slv;have iip := SlI.mk hrp;refine ⟨inferInstance, ?_⟩))|(refine gI ?_;first|refine o_indexS rfl rfl rfl rfl rfl rfl (by omega) ?_|refine o_index rfl rfl rfl rfl rfl (by omega) ?_)|(refine gS ?_;first|refine o_store rfl rfl rfl rfl rfl rfl ?_|refine o_storeW rfl rfl rfl rfl rfl rfl ?_)|(refine o_make (⟨none, 0, 0⟩ : SlG) (periodsR n).length rfl rfl rfl rfl rfl rfl rfl (by omega) ?_;intro v ΔW hoW;obtain ⟨wa, wc, rfl, hwc, _⟩ := hoW.slv)|(refine o_allocZ rfl rfl ?_;intro _)|(refine o_box rfl rfl rfl ?_;intro _)|refine o_build rfl rfl rfl rfl rfl ?_|(refine o_bslice rfl rfl rfl rfl rfl rfl rfl ?_;intro _))|refine o_head0 rfl ?_|refine o_end ?_|refine o_head1 rfl ?_|refine wp_seq ?_|refine o_region ?_|refine wp_block ?_|refine wp_skip ?_|refine wp_exit ?_|(refine w_condD rfl ?_ ?_<;>intro h)|(refine w_cond rfl ?_ ?_<;>intro h<;>try exact Bool.noConfusion h)|refine w_ret (S) (vs:=[_]) rfl (Res.tmp rfl Res.nil) ?_
  rename_i b2 _
  have e0 : (List.replicate (periodsR n).length (⟨none, 0, 0⟩ : SlG)).length = (periodsR n).length := List.length_replicate ..
  refine wp_loop (fun m t ds S' => ∃ (j : Nat) (t0 : Tm) (ls : List SlG) (ΔW Ω : Ents), m = (periodsR n).length - j ∧ j ≤ (periodsR n).length ∧ [] = ds ∧ S'.Perm (ΔW ++ (Ω ++ (Δp ++ ⟨b2, true, .cells #[.slice qm n.mains.length cm, b, c, d, e] 28 (0, 0)⟩ :: S))) ∧
      t = den [(27, iv j), (26, iv (periodsR n).length), (5, .slice none 0 0), (7, .slice wa (periodsR n).length wc), (6, .slice pa (periodsR n).length pc), (2, .pointer (some ⟨b2, 0, none⟩)), (1, iv known)] t0 ∧ Own (.slice wa (periodsR n).length wc) ls ΔW ∧ RowsP Ω (periodsR n) (fun _ => zeroRow n) ls j)
    _ ⟨0, _, _, ΔW, [], rfl, Nat.zero_le _, rfl, List.Perm.refl _, keep ⟨rfl, congrArg (fun q : Nat => some (iv (q : Int))) e0, rfl, congrArg (fun q : Nat => some (Value.slice wa q wc)) e0, rfl, rfl, rfl, trivial⟩, by rw [e0] at hoW; exact hoW, ⟨e0, fun q h h2 => by omega⟩⟩ ?_
  clear hoW
  rintro m t ds S' ⟨j, t0, ls, ΔW, Ω, rfl, hj, rfl, hp, rfl, hoW, hrW⟩
  refine WP.perm ?_ hp
  have hlW := hrW.len
  obtain ⟨_, hrt⟩ := hoW.sla
  have i6 := SlI.mk hrt
  repeat' first|(refine gX ?_;first|refine o_v rfl rfl ?_|(refine gL ?_;first|refine o_load rfl rfl rfl rfl ?_|refine o_loadR rfl rfl rfl (by omega) rfl rfl ?_|refine o_loadW rfl rfl rfl rfl ?_|refine o_loadK rfl rfl rfl ?_)|(refine gF ?_;first|refine o_fieldI rfl rfl rfl rfl ?_|refine o_field rfl rfl rfl rfl ?_)|(refine gB ?_;first|refine o_add rfl rfl rfl rfl (by omega) ?_|refine o_sub rfl rfl rfl rfl (by omega) ?_)|(refine gI ?_;first|refine o_indexS rfl rfl rfl rfl rfl hlW.symm (by omega) ?_|refine o_indexS rfl rfl rfl rfl rfl rfl (by omega) ?_|refine o_index rfl rfl rfl rfl rfl (by omega) ?_)|(refine gS ?_;first|(refine o_storeO (⟨ba, (List.replicate n.mains.length zB).length, bc⟩ : SlG) rfl rfl rfl hoW (by omega) rfl rfl rfl rfl ?_;intro Δ2 ho2;refine ⟨_, inferInstance, ?_⟩)|refine o_store rfl rfl rfl rfl rfl rfl ?_|refine o_storeW rfl rfl rfl rfl rfl rfl ?_)|(refine o_make zB n.mains.length rfl rfl rfl rfl rfl rfl rfl (by omega) ?_;intro v Δb hob;obtain ⟨ba, bc, rfl, _, hba⟩ := hob.slv)|(refine o_allocZ rfl rfl ?_;intro _)|(refine o_box rfl rfl rfl ?_;intro _)|refine o_build rfl rfl rfl rfl rfl ?_|(refine o_bslice rfl rfl rfl rfl rfl rfl rfl ?_;intro _))|refine o_head0 rfl ?_|refine o_end ?_|refine o_head1 rfl ?_|refine wp_seq ?_|refine o_region ?_|refine wp_block ?_|refine wp_skip ?_|refine wp_exit ?_|(refine w_condD rfl ?_ ?_<;>intro h)|(refine w_cond rfl ?_ ?_<;>intro h<;>try exact Bool.noConfusion h)|refine w_ret (S) (vs:=[_]) rfl (Res.tmp rfl Res.nil) ?_
  · exact ⟨(periodsR n).length - (j + 1), by omega, _, List.Sublist.refl _, j + 1, _, _, Δ2, Δb ++ Ω, rfl, by omega, rfl, by rw [List.append_assoc], keep ⟨rfl, rfl, rfl, rfl, rfl, rfl, rfl, trivial⟩, ho2, hrW.set (by omega) hob.slv⟩
  have hje : j = (periodsR n).length := by omega
  subst hje
  clear hp h i6 hrt
  repeat' first|(refine gX ?_;first|refine o_v rfl rfl ?_|(refine gL ?_;first|refine o_load rfl rfl rfl rfl ?_|refine o_loadR rfl rfl rfl (by omega) rfl rfl ?_|refine o_loadW rfl rfl rfl rfl ?_|refine o_loadK rfl rfl rfl ?_)|(refine gF ?_;first|refine o_fieldI rfl rfl rfl rfl ?_|refine o_field rfl rfl rfl rfl ?_)|(refine gB ?_;first|refine o_add rfl rfl rfl rfl (by omega) ?_|refine o_sub rfl rfl rfl rfl (by omega) ?_)|(refine gC ?_;first|(refine o_callZ rfl rfl rfl (c122 _ _ n _ _ _ _ _ (hn.sub Sb.h) hu hr hf) ?_;rintro r _ ⟨Δd, hod, rfl⟩;obtain ⟨da, dc, rfl, hdc, hrd⟩ := hod.slv;have idd := SlI.mk hrd;refine ⟨inferInstance, ?_⟩))|(refine gI ?_;first|refine o_indexS rfl rfl rfl rfl rfl rfl (by omega) ?_|refine o_index rfl rfl rfl rfl rfl (by omega) ?_)|(refine gS ?_;first|refine o_store rfl rfl rfl rfl rfl rfl ?_|refine o_storeW rfl rfl rfl rfl rfl rfl ?_)|(refine o_allocZ rfl rfl ?_;intro _)|(refine o_box rfl rfl rfl ?_;intro _)|refine o_build rfl rfl rfl rfl rfl ?_|(refine o_bslice rfl rfl rfl rfl rfl rfl rfl ?_;intro _))|refine o_head0 rfl ?_|refine o_end ?_|refine o_head1 rfl ?_|refine wp_seq ?_|refine o_region ?_|refine wp_block ?_|refine wp_skip ?_|refine wp_exit ?_|(refine w_condD rfl ?_ ?_<;>intro h)|(refine w_cond rfl ?_ ?_<;>intro h<;>try exact Bool.noConfusion h)|refine w_ret (S) (vs:=[_]) rfl (Res.tmp rfl Res.nil) ?_
  have hdl := daysR_len (n := n) hu hr hf
  refine wp_loop (fun m t ds S' => ∃ (j : Nat) (t0 : Tm) (wO : Value) (wa : Option Addr) (wc : Nat) (ls : List SlG) (f : Int → List BillG) (acc : List PostG) (ΔO ΔW Ω : Ents), m = (daysR n).length - j ∧ j ≤ (daysR n).length ∧ [] = ds ∧ S'.Perm (ΔO ++ (ΔW ++ (Ω ++ (Δd ++ (Δp ++ ⟨b2, true, .cells #[.slice qm n.mains.length cm, b, c, d, e] 28 (0, 0)⟩ :: S))))) ∧
      t = den [(41, iv j), (40, iv (daysR n).length), (39, .slice da (daysR n).length dc), (5, wO), (7, .slice wa (periodsR n).length wc), (6, .slice pa (periodsR n).length pc), (2, .pointer (some ⟨b2, 0, none⟩)), (1, iv known)] t0 ∧ Own wO acc ΔO ∧ Own (.slice wa (periodsR n).length wc) ls ΔW ∧ RowsP Ω (periodsR n) f ls (periodsR n).length ∧ RowOk n f ∧ acc ++ postsD n known ((daysR n).drop j) f = postsR n known ∧ acc.length ≤ j * 2160)
    _ ⟨0, _, _, wa, wc, ls, fun _ => zeroRow n, [], [], ΔW, Ω, rfl, Nat.zero_le _, rfl, perm3, keep ⟨rfl, rfl, rfl, rfl, rfl, rfl, rfl, rfl, trivial⟩, .nil, hoW, hrW, rowOk_zero, rfl, by simp⟩ ?_
  clear hoW hrW hlW hwc
  rintro m t ds S' ⟨j, t0, wO, wa, wc, ls, f, acc, ΔO, ΔW, Ω, rfl, hj, rfl, hp, rfl, hoO, hoW, hrW, hfo, hacc, hal⟩
  refine WP.perm ?_ hp
  have hlW := hrW.len
  by_cases hjl' : ¬ j < (daysR n).length
  · have hje : j = (daysR n).length := by omega
    subst hje
    clear hjl'
    rw [List.drop_length] at hacc
    repeat' first|(refine gX ?_;first|refine o_v rfl rfl ?_|(refine gL ?_;first|refine o_load rfl rfl rfl rfl ?_|refine o_loadR rfl rfl rfl (by omega) rfl rfl ?_|refine o_loadW rfl rfl rfl rfl ?_|refine o_loadK rfl rfl rfl ?_)|(refine gF ?_;first|refine o_fieldI rfl rfl rfl rfl ?_|refine o_field rfl rfl rfl rfl ?_)|(refine gB ?_;first|refine o_add rfl rfl rfl rfl (by omega) ?_|refine o_sub rfl rfl rfl rfl (by omega) ?_)|(refine gI ?_;first|refine o_indexS rfl rfl rfl rfl rfl rfl (by omega) ?_|refine o_index rfl rfl rfl rfl rfl (by omega) ?_)|(refine gS ?_;first|refine o_store rfl rfl rfl rfl rfl rfl ?_|refine o_storeW rfl rfl rfl rfl rfl rfl ?_)|(refine o_allocZ rfl rfl ?_;intro _)|(refine o_box rfl rfl rfl ?_;intro _)|refine o_build rfl rfl rfl rfl rfl ?_|(refine o_bslice rfl rfl rfl rfl rfl rfl rfl ?_;intro _))|refine o_head0 rfl ?_|refine o_end ?_|refine o_head1 rfl ?_|(refine w_condD rfl ?_ ?_<;>intro h<;>try (exact absurd h (by omega)))|refine wp_seq ?_|refine o_region ?_|refine wp_block ?_|refine wp_skip ?_|refine wp_exit ?_|(refine w_condD rfl ?_ ?_<;>intro h)|(refine w_cond rfl ?_ ?_<;>intro h<;>try exact Bool.noConfusion h)|refine w_ret (ΔO ++ S) (vs:=[_]) rfl (Res.tmp rfl Res.nil) ?_|refine w_ret (S) (vs:=[_]) rfl (Res.tmp rfl Res.nil) ?_
    refine ⟨ΔO, ?_, rfl⟩
    rw [← hacc]
    simpa [postsD, pack] using hoO
  have hjl : j < (daysR n).length := by omega
  rw [List.drop_eq_getElem_cons hjl] at hacc
  repeat' first|(refine gX ?_;first|refine o_v rfl rfl ?_|(refine gL ?_;first|refine o_load rfl rfl rfl rfl ?_|refine o_loadR rfl rfl rfl (by omega) rfl rfl ?_|refine o_loadW rfl rfl rfl rfl ?_|refine o_loadK rfl rfl rfl ?_)|(refine gF ?_;first|refine o_fieldI rfl rfl rfl rfl ?_|refine o_field rfl rfl rfl rfl ?_)|(refine gB ?_;first|refine o_add rfl rfl rfl rfl (by omega) ?_|refine o_sub rfl rfl rfl rfl (by omega) ?_)|(refine gI ?_;first|refine o_indexS rfl rfl rfl rfl rfl rfl (by omega) ?_|refine o_indexS rfl rfl rfl rfl rfl rfl (by omega) ?_|refine o_index rfl rfl rfl rfl rfl (by omega) ?_)|(refine gS ?_;first|refine o_store rfl rfl rfl rfl rfl rfl ?_|refine o_storeW rfl rfl rfl rfl rfl rfl ?_)|(refine o_make (⟨none, 0, 0⟩ : SlG) (periodsR n).length rfl rfl rfl rfl rfl rfl rfl (by omega) ?_;intro v ΔN hoN;obtain ⟨na, nc, rfl, hnc, _⟩ := hoN.slv)|(refine o_allocZ rfl rfl ?_;intro _)|(refine o_box rfl rfl rfl ?_;intro _)|refine o_build rfl rfl rfl rfl rfl ?_|(refine o_bslice rfl rfl rfl rfl rfl rfl rfl ?_;intro _))|refine o_head0 rfl ?_|refine o_end ?_|refine o_head1 rfl ?_|(refine w_condD rfl ?_ ?_<;>intro h<;>try (exact absurd (by omega) h))|refine wp_seq ?_|refine o_region ?_|refine wp_block ?_|refine wp_skip ?_|refine wp_exit ?_|(refine w_condD rfl ?_ ?_<;>intro h)|(refine w_cond rfl ?_ ?_<;>intro h<;>try exact Bool.noConfusion h)|refine w_ret (ΔO ++ S) (vs:=[_]) rfl (Res.tmp rfl Res.nil) ?_|refine w_ret (S) (vs:=[_]) rfl (Res.tmp rfl Res.nil) ?_
  · refine ⟨ΔO, ?_, rfl⟩
    rw [← hacc]
    unfold postsD
    rw [if_pos h, List.append_nil]
    exact hoO
  obtain ⟨dt, hdt⟩ : ∃ dt, dt = (daysR n)[j] := ⟨_, rfl⟩
  rw [← hdt] at hacc h ⊢
  unfold postsD at hacc
  rw [if_neg h] at hacc
  have e1 : (List.replicate (periodsR n).length (⟨none, 0, 0⟩ : SlG)).length = (periodsR n).length := List.length_replicate ..
  refine wp_loop (fun m t ds S' => ∃ (k : Nat) (t0 : Tm) (lsN : List SlG) (ΔN ΩN : Ents), m = (periodsR n).length - k ∧ k ≤ (periodsR n).length ∧ [] = ds ∧ S'.Perm (ΔN ++ (ΩN ++ (ΔO ++ (ΔW ++ (Ω ++ (Δd ++ (Δp ++ ⟨b2, true, .cells #[.slice qm n.mains.length cm, b, c, d, e] 28 (0, 0)⟩ :: S))))))) ∧
      t = den [(53, iv k), (52, iv (periodsR n).length), (51, .slice pa (periodsR n).length pc), (11, .slice na (periodsR n).length nc), (10, iv dt), (41, iv j), (40, iv (daysR n).length), (39, .slice da (daysR n).length dc), (5, wO), (7, .slice wa (periodsR n).length wc), (6, .slice pa (periodsR n).length pc), (2, .pointer (some ⟨b2, 0, none⟩)), (1, iv known)] t0 ∧ Own (.slice na (periodsR n).length nc) lsN ΔN ∧ RowsP ΩN (periodsR n) (fun p => billsN n p dt) lsN k)
    _ ⟨0, _, _, ΔN, [], rfl, Nat.zero_le _, rfl, List.Perm.refl _, keep ⟨rfl, rfl, rfl, congrArg (fun q : Nat => some (Value.slice na q nc)) e1, rfl, rfl, rfl, rfl, rfl, rfl, rfl, rfl, rfl, trivial⟩, by rw [e1] at hoN; exact hoN, ⟨e1, fun q h h2 => by omega⟩⟩ ?_
  clear hoN hnc
  rintro m t ds S' ⟨k, t0, lsN, ΔN, ΩN, rfl, hk, rfl, hp2, rfl, hoN, hrN⟩
  refine WP.perm ?_ hp2
  have hlN := hrN.len
  obtain ⟨_, hrt⟩ := hoN.sla
  have i6 := SlI.mk hrt
  by_cases hkl : k < (periodsR n).length
  · skip
    repeat' first|(refine gX ?_;first|refine o_v rfl rfl ?_|(refine gL ?_;first|refine o_load rfl rfl rfl rfl ?_|refine o_loadR rfl rfl rfl (by omega) rfl rfl ?_|refine o_loadW rfl rfl rfl rfl ?_|refine o_loadK rfl rfl rfl ?_)|(refine gF ?_;first|refine o_fieldI rfl rfl rfl rfl ?_|refine o_field rfl rfl rfl rfl ?_)|(refine gB ?_;first|refine o_add rfl rfl rfl rfl (by omega) ?_|refine o_sub rfl rfl rfl rfl (by omega) ?_)|(refine gC ?_;first|(refine o_callZ (R:=fun r S' => ∃ Δ, Own r (billsN n ((periodsR n)[k]'(by first|done|omega)) dt) Δ ∧ S' = Δ ++ _) rfl rfl rfl (c90 _ _ n _ _ _ _ _ ((periodsR n)[k]'(by first|done|omega)) dt (hn.sub Sb.h) hV) ?_;rintro r _ ⟨Δb, hob, rfl⟩;obtain ⟨ba, bc, rfl, _, hba⟩ := hob.slv;refine ⟨inferInstance, ?_⟩))|(refine gI ?_;first|refine o_indexS rfl rfl rfl rfl rfl rfl (by omega) ?_|refine o_indexS rfl rfl rfl rfl rfl hlN.symm (by omega) ?_|refine o_indexS rfl rfl rfl rfl rfl rfl (by omega) ?_|refine o_index rfl rfl rfl rfl rfl (by omega) ?_)|(refine gS ?_;first|(refine o_storeO (⟨ba, (billsN n ((periodsR n)[k]'(by first|done|omega)) dt).length, bc⟩ : SlG) rfl rfl rfl hoN (by omega) rfl rfl rfl rfl ?_;intro Δ2 ho2;refine ⟨_, inferInstance, ?_⟩)|refine o_store rfl rfl rfl rfl rfl rfl ?_|refine o_storeW rfl rfl rfl rfl rfl rfl ?_)|(refine o_allocZ rfl rfl ?_;intro _)|(refine o_box rfl rfl rfl ?_;intro _)|refine o_build rfl rfl rfl rfl rfl ?_|(refine o_bslice rfl rfl rfl rfl rfl rfl rfl ?_;intro _))|refine o_head0 rfl ?_|refine o_end ?_|refine o_head1 rfl ?_|(refine w_condD rfl ?_ ?_<;>intro h<;>try (exact absurd (by omega) h))|refine wp_seq ?_|refine o_region ?_|refine wp_block ?_|refine wp_skip ?_|refine wp_exit ?_|(refine w_condD rfl ?_ ?_<;>intro h)|(refine w_cond rfl ?_ ?_<;>intro h<;>try exact Bool.noConfusion h)|refine w_ret (S) (vs:=[_]) rfl (Res.tmp rfl Res.nil) ?_
    simp only [at0_get] at ho2 hob
    exact ⟨(periodsR n).length - (k + 1), by omega, _, List.Sublist.refl _, k + 1, _, _, Δ2, Δb ++ ΩN, rfl, by omega, rfl, by rw [List.append_assoc], keep ⟨rfl, rfl, rfl, rfl, rfl, rfl, rfl, rfl, rfl, rfl, rfl, rfl, rfl, trivial⟩, ho2, hrN.set (by omega) hob.slv⟩
  have hke : k = (periodsR n).length := by omega
  subst hke
  clear hkl hp2 i6 hrt
  repeat' first|(refine gX ?_;first|refine o_v rfl rfl ?_|(refine gL ?_;first|refine o_load rfl rfl rfl rfl ?_|refine o_loadR rfl rfl rfl (by omega) rfl rfl ?_|refine o_loadW rfl rfl rfl rfl ?_|refine o_loadK rfl rfl rfl ?_)|(refine gF ?_;first|refine o_fieldI rfl rfl rfl rfl ?_|refine o_field rfl rfl rfl rfl ?_)|(refine gB ?_;first|refine o_add rfl rfl rfl rfl (by omega) ?_|refine o_sub rfl rfl rfl rfl (by omega) ?_)|(refine gI ?_;first|refine o_indexS rfl rfl rfl rfl rfl rfl (by omega) ?_|refine o_index rfl rfl rfl rfl rfl (by omega) ?_)|(refine gS ?_;first|refine o_store rfl rfl rfl rfl rfl rfl ?_|refine o_storeW rfl rfl rfl rfl rfl rfl ?_)|(refine o_allocZ rfl rfl ?_;intro _)|(refine o_box rfl rfl rfl ?_;intro _)|refine o_build rfl rfl rfl rfl rfl ?_|(refine o_bslice rfl rfl rfl rfl rfl rfl rfl ?_;intro _))|refine o_head0 rfl ?_|refine o_end ?_|refine o_head1 rfl ?_|(refine w_condD rfl ?_ ?_<;>intro h<;>try (exact absurd h (by omega)))|refine wp_seq ?_|refine o_region ?_|refine wp_block ?_|refine wp_skip ?_|refine wp_exit ?_|(refine w_condD rfl ?_ ?_<;>intro h)|(refine w_cond rfl ?_ ?_<;>intro h<;>try exact Bool.noConfusion h)|refine w_ret (S) (vs:=[_]) rfl (Res.tmp rfl Res.nil) ?_
  refine wp_loop (fun m t ds S' => ∃ (i : Nat) (t0 : Tm) (wO : Value) (acc : List PostG) (ΔO : Ents), m = n.mains.length - i ∧ i ≤ n.mains.length ∧ [] = ds ∧ S'.Perm (ΔO ++ (ΔN ++ (ΩN ++ (ΔW ++ (Ω ++ (Δd ++ (Δp ++ ⟨b2, true, .cells #[.slice qm n.mains.length cm, b, c, d, e] 28 (0, 0)⟩ :: S))))))) ∧
      t = den [(70, iv i), (69, iv n.mains.length), (68, .slice qm n.mains.length cm), (11, .slice na (periodsR n).length nc), (10, iv dt), (41, iv j), (40, iv (daysR n).length), (39, .slice da (daysR n).length dc), (5, wO), (7, .slice wa (periodsR n).length wc), (6, .slice pa (periodsR n).length pc), (2, .pointer (some ⟨b2, 0, none⟩)), (1, iv known)] t0 ∧ Own wO acc ΔO ∧ acc ++ (dayFrom n dt f i ++ postsD n known ((daysR n).drop (j + 1)) fun p => billsN n p dt) = postsR n known ∧ acc.length ≤ j * 2160 + i * 180)
    _ ⟨0, _, wO, acc, ΔO, rfl, Nat.zero_le _, rfl, perm3.symm, keep ⟨rfl, rfl, rfl, rfl, rfl, rfl, rfl, rfl, rfl, rfl, rfl, rfl, rfl, trivial⟩, hoO, hacc, Nat.le_trans hal (Nat.le_add_right _ _)⟩ ?_
  clear hoO hacc hal
  rintro m t ds S' ⟨i, t0, wO, acc, ΔO, rfl, hi, rfl, hp3, rfl, hoO, hacc, hal⟩
  refine WP.perm ?_ hp3
  obtain ⟨_, hrtN⟩ := hoN.sla
  obtain ⟨_, hrtW⟩ := hoW.sla
  have i2 := SlI.mk hrtN
  have i3 := SlI.mk hrtW
  by_cases hil : i < n.mains.length
  · skip
    rw [dayFrom_at hil] at hacc
    repeat' first|(refine gX ?_;first|refine o_v rfl rfl ?_|(refine gL ?_;first|refine o_load rfl rfl rfl rfl ?_|refine o_loadR rfl rfl rfl (by omega) rfl rfl ?_|refine o_loadW rfl rfl rfl rfl ?_|refine o_loadK rfl rfl rfl ?_)|(refine gF ?_;first|refine o_fieldI rfl rfl rfl rfl ?_|refine o_field rfl rfl rfl rfl ?_)|(refine gB ?_;first|refine o_add rfl rfl rfl rfl (by omega) ?_|refine o_sub rfl rfl rfl rfl (by omega) ?_)|(refine gI ?_;first|refine o_indexS rfl rfl rfl rfl rfl rfl (by omega) ?_|refine o_indexS rfl rfl rfl rfl rfl rfl (by omega) ?_|refine o_index rfl rfl rfl rfl rfl (by omega) ?_)|(refine gS ?_;first|refine o_store rfl rfl rfl rfl rfl rfl ?_|refine o_storeW rfl rfl rfl rfl rfl rfl ?_)|(refine o_allocZ rfl rfl ?_;intro _)|(refine o_box rfl rfl rfl ?_;intro _)|refine o_build rfl rfl rfl rfl rfl ?_|(refine o_bslice rfl rfl rfl rfl rfl rfl rfl ?_;intro _))|refine o_head0 rfl ?_|refine o_end ?_|refine o_head1 rfl ?_|(refine w_condD rfl ?_ ?_<;>intro h<;>try (exact absurd (by omega) h))|refine wp_seq ?_|refine o_region ?_|refine wp_block ?_|refine wp_skip ?_|refine wp_exit ?_|(refine w_condD rfl ?_ ?_<;>intro h)|(refine w_cond rfl ?_ ?_<;>intro h<;>try exact Bool.noConfusion h)|refine w_ret (S) (vs:=[_]) rfl (Res.tmp rfl Res.nil) ?_
    rename_i b15
    refine wp_loop (fun m t ds S' => ∃ (k : Nat) (t0 : Tm) (wO : Value) (acc : List PostG) (ΔO : Ents), m = (periodsR n).length - k ∧ k ≤ (periodsR n).length ∧ [] = ds ∧ S'.Perm (ΔO ++ (⟨b15, true, .cells (mainC (n.mains[i]'hil)) 72 (0, 0)⟩ :: (ΔN ++ (ΩN ++ (ΔW ++ (Ω ++ (Δd ++ (Δp ++ ⟨b2, true, .cells #[.slice qm n.mains.length cm, b, c, d, e] 28 (0, 0)⟩ :: S)))))))) ∧
        t = den [(77, iv k), (76, iv (periodsR n).length), (75, .slice pa (periodsR n).length pc), (14, iv i), (15, .pointer (some ⟨b15, 0, none⟩)), (70, iv i), (69, iv n.mains.length), (68, .slice qm n.mains.length cm), (11, .slice na (periodsR n).length nc), (10, iv dt), (41, iv j), (40, iv (daysR n).length), (39, .slice da (daysR n).length dc), (5, wO), (7, .slice wa (periodsR n).length wc), (6, .slice pa (periodsR n).length pc), (2, .pointer (some ⟨b2, 0, none⟩)), (1, iv known)] t0 ∧ Own wO acc ΔO ∧ acc ++ (rowFrom n dt f i k ++ (dayFrom n dt f (i + 1) ++ postsD n known ((daysR n).drop (j + 1)) fun p => billsN n p dt)) = postsR n known ∧ acc.length ≤ j * 2160 + i * 180 + k)
      _ ⟨0, _, wO, acc, ΔO, rfl, Nat.zero_le _, rfl, List.perm_middle.symm, keep ⟨rfl, rfl, rfl, rfl, rfl, rfl, rfl, rfl, rfl, rfl, rfl, rfl, rfl, rfl, rfl, rfl, rfl, rfl, trivial⟩, hoO, by rw [← List.append_assoc (rowFrom n dt f i 0)]; exact hacc, Nat.le_trans hal (Nat.le_add_right _ _)⟩ ?_
    clear hoO hacc hal
    rintro m t ds S' ⟨k, t0, wO, acc, ΔO, rfl, hk, rfl, hp4, rfl, hoO, hacc, hal⟩
    refine WP.perm ?_ hp4
    by_cases hkl : k < (periodsR n).length
    · skip
      obtain ⟨aN, cN, eN, _, hsN⟩ := hrN.row k (by omega) hkl
      obtain ⟨aW, cW, eW, _, hsW⟩ := hrW.row k (by omega) hkl
      simp only [SlG.v, Value.slice.injEq] at eN eW
      obtain ⟨eN1, eN2, _⟩ := eN
      obtain ⟨eW1, eW2, _⟩ := eW
      rw [← eN1] at hsN
      rw [← eW1] at hsW
      have i5 := SlI.mk hsN
      have i6 := SlI.mk hsW
      have hbN : i < (billsN n (at0 (periodsR n) k) dt).length := by rw [(rowOk_bills hV (d := dt) _).1]; exact hil
      have hbW : i < (f (at0 (periodsR n) k)).length := by rw [(hfo _).1]; exact hil
      have hB : BillOk ((billsN n (at0 (periodsR n) k) dt)[i]'hbN) := by rw [billAt_get]; exact (rowOk_bills hV (d := dt) _).2 i
      have hW : BillOk ((f (at0 (periodsR n) k))[i]'hbW) := by rw [billAt_get]; exact (hfo _).2 i
      unfold BillOk at hB hW
      rw [rowFrom_at hkl] at hacc
      repeat' first|(refine gX ?_;first|refine o_v rfl rfl ?_|(refine gL ?_;first|refine o_load rfl rfl rfl rfl ?_|refine o_loadR rfl rfl rfl (by omega) rfl rfl ?_|refine o_loadW rfl rfl rfl rfl ?_|refine o_loadK rfl rfl rfl ?_)|(refine gF ?_;first|refine o_fieldI rfl rfl rfl rfl ?_|refine o_field rfl rfl rfl rfl ?_)|(refine gB ?_;first|refine o_neS (k := 2) rfl rfl rfl rfl rfl rfl rfl rfl ?_|refine o_add rfl rfl rfl rfl (by omega) ?_|refine o_sub rfl rfl rfl rfl (by omega) ?_)|(refine gC ?_;first|(refine o_append1 (⟨dt, (n.mains[i]'hil).id, (periodsR n)[k]'hkl, ((billsN n (at0 (periodsR n) k) dt)[i]'hbN).gas - ((f (at0 (periodsR n) k))[i]'hbW).gas, ((billsN n (at0 (periodsR n) k) dt)[i]'hbN).penalty - ((f (at0 (periodsR n) k))[i]'hbW).penalty⟩ : PostG) rfl rfl rfl rfl hoO rfl (by omega) rfl rfl rfl rfl ?_;intro w2 ΔO2 hoO2;refine ⟨inferInstance, ?_⟩))|(refine gI ?_;first|refine o_indexS rfl rfl rfl rfl rfl rfl (by omega) ?_|refine o_indexS rfl rfl rfl rfl rfl hlN.symm (by omega) ?_|refine o_indexS rfl rfl rfl rfl rfl hlW.symm (by omega) ?_|refine o_indexS rfl rfl rfl rfl rfl eN2 (by omega) ?_|refine o_indexS rfl rfl rfl rfl rfl eW2 (by omega) ?_|refine o_indexS rfl rfl rfl rfl rfl rfl (by omega) ?_|refine o_index rfl rfl rfl rfl rfl (by omega) ?_)|(refine gS ?_;first|refine o_store rfl rfl rfl rfl rfl rfl ?_|refine o_storeW rfl rfl rfl rfl rfl rfl ?_)|(refine o_allocZ rfl rfl ?_;intro _)|(refine o_box rfl rfl rfl ?_;intro _)|refine o_build rfl rfl rfl rfl rfl ?_|(refine o_bslice rfl rfl rfl rfl rfl rfl rfl ?_;intro _))|refine o_head0 rfl ?_|refine o_end ?_|refine o_head1 rfl ?_|(refine w_condD rfl ?_ ?_<;>intro h<;>try (exact absurd (by omega) h))|refine wp_seq ?_|refine o_region ?_|refine wp_block ?_|refine wp_skip ?_|refine wp_exit ?_|(refine w_condD rfl ?_ ?_<;>intro h)|(refine w_cond rfl ?_ ?_<;>intro h<;>try exact Bool.noConfusion h)|refine w_ret (S) (vs:=[_]) rfl (Res.tmp rfl Res.nil) ?_
      · have hne : ¬ billAt (billsN n (at0 (periodsR n) k) dt) i = billAt (f (at0 (periodsR n) k)) i := fun e => h (by rw [billAt_get hbN, billAt_get hbW, e])
        refine ⟨(periodsR n).length - (k + 1), by omega, _, List.Sublist.append_left (.cons _ (.cons _ (.cons _ (List.Sublist.refl _)))) _, k + 1, _, w2, _, ΔO2, rfl, by omega, rfl, List.Perm.refl _, keep ⟨rfl, rfl, rfl, rfl, rfl, rfl, rfl, rfl, rfl, rfl, rfl, rfl, rfl, rfl, rfl, rfl, rfl, rfl, trivial⟩, hoO2, ?_, ?_⟩
        · rw [← hacc]
          unfold postIf
          rw [if_neg hne, billAt_get hbN, billAt_get hbW, idAt_get hil, at0_get hkl]
          simp only [List.append_assoc]
        · rw [List.length_append]
          exact Nat.succ_le_succ hal
      · have he : billAt (billsN n (at0 (periodsR n) k) dt) i = billAt (f (at0 (periodsR n) k)) i := by
          rw [← billAt_get hbN, ← billAt_get hbW]
          exact bill_ext (Classical.not_not.1 h)
        refine ⟨(periodsR n).length - (k + 1), by omega, _, .cons _ (.cons _ (List.Sublist.refl _)), k + 1, _, wO, acc, ΔO, rfl, by omega, rfl, List.Perm.refl _, keep ⟨rfl, rfl, rfl, rfl, rfl, rfl, rfl, rfl, rfl, rfl, rfl, rfl, rfl, rfl, rfl, rfl, rfl, rfl, trivial⟩, hoO, ?_, Nat.le_succ_of_le hal⟩
        rw [← hacc]
        unfold postIf
        rw [if_pos he, List.nil_append]
    have hke : k = (periodsR n).length := by omega
    subst hke
    rw [rowFrom_end, List.nil_append] at hacc
    repeat' first|(refine gX ?_;first|refine o_v rfl rfl ?_|(refine gL ?_;first|refine o_load rfl rfl rfl rfl ?_|refine o_loadR rfl rfl rfl (by omega) rfl rfl ?_|refine o_loadW rfl rfl rfl rfl ?_|refine o_loadK rfl rfl rfl ?_)|(refine gF ?_;first|refine o_fieldI rfl rfl rfl rfl ?_|refine o_field rfl rfl rfl rfl ?_)|(refine gB ?_;first|refine o_add rfl rfl rfl rfl (by omega) ?_|refine o_sub rfl rfl rfl rfl (by omega) ?_)|(refine gI ?_;first|refine o_indexS rfl rfl rfl rfl rfl rfl (by omega) ?_|refine o_index rfl rfl rfl rfl rfl (by omega) ?_)|(refine gS ?_;first|refine o_store rfl rfl rfl rfl rfl rfl ?_|refine o_storeW rfl rfl rfl rfl rfl rfl ?_)|(refine o_allocZ rfl rfl ?_;intro _)|(refine o_box rfl rfl rfl ?_;intro _)|refine o_build rfl rfl rfl rfl rfl ?_|(refine o_bslice rfl rfl rfl rfl rfl rfl rfl ?_;intro _))|refine o_head0 rfl ?_|refine o_end ?_|refine o_head1 rfl ?_|(refine w_condD rfl ?_ ?_<;>intro h<;>try (exact absurd h (by omega)))|refine wp_seq ?_|refine o_region ?_|refine wp_block ?_|refine wp_skip ?_|refine wp_exit ?_|(refine w_condD rfl ?_ ?_<;>intro h)|(refine w_cond rfl ?_ ?_<;>intro h<;>try exact Bool.noConfusion h)|refine w_ret (S) (vs:=[_]) rfl (Res.tmp rfl Res.nil) ?_
    exact ⟨n.mains.length - (i + 1), by omega, _, List.Sublist.append_left (.cons _ (List.Sublist.refl _)) _, i + 1, _, wO, acc, ΔO, rfl, by omega, rfl, List.Perm.refl _, keep ⟨rfl, rfl, rfl, rfl, rfl, rfl, rfl, rfl, rfl, rfl, rfl, rfl, rfl, trivial⟩, hoO, hacc, Nat.le_trans hal (len_step hpl)⟩
  have hie : i = n.mains.length := by omega
  subst hie
  rw [dayFrom_end, List.nil_append] at hacc
  repeat' first|(refine gX ?_;first|refine o_v rfl rfl ?_|(refine gL ?_;first|refine o_load rfl rfl rfl rfl ?_|refine o_loadR rfl rfl rfl (by omega) rfl rfl ?_|refine o_loadW rfl rfl rfl rfl ?_|refine o_loadK rfl rfl rfl ?_)|(refine gF ?_;first|refine o_fieldI rfl rfl rfl rfl ?_|refine o_field rfl rfl rfl rfl ?_)|(refine gB ?_;first|refine o_add rfl rfl rfl rfl (by omega) ?_|refine o_sub rfl rfl rfl rfl (by omega) ?_)|(refine gI ?_;first|refine o_indexS rfl rfl rfl rfl rfl rfl (by omega) ?_|refine o_index rfl rfl rfl rfl rfl (by omega) ?_)|(refine gS ?_;first|refine o_store rfl rfl rfl rfl rfl rfl ?_|refine o_storeW rfl rfl rfl rfl rfl rfl ?_)|(refine o_allocZ rfl rfl ?_;intro _)|(refine o_box rfl rfl rfl ?_;intro _)|refine o_build rfl rfl rfl rfl rfl ?_|(refine o_bslice rfl rfl rfl rfl rfl rfl rfl ?_;intro _))|refine o_head0 rfl ?_|refine o_end ?_|refine o_head1 rfl ?_|(refine w_condD rfl ?_ ?_<;>intro h<;>try (exact absurd h (by omega)))|refine wp_seq ?_|refine o_region ?_|refine wp_block ?_|refine wp_skip ?_|refine wp_exit ?_|(refine w_condD rfl ?_ ?_<;>intro h)|(refine w_cond rfl ?_ ?_<;>intro h<;>try exact Bool.noConfusion h)|refine w_ret (S) (vs:=[_]) rfl (Res.tmp rfl Res.nil) ?_
  exact ⟨(daysR n).length - (j + 1), by omega, _, List.Sublist.refl _, j + 1, _, wO, na, nc, lsN, fun p => billsN n p dt, acc, ΔO, ΔN, ΩN ++ (ΔW ++ Ω), rfl, by omega, rfl, by rw [List.append_assoc, List.append_assoc], keep ⟨rfl, rfl, rfl, rfl, rfl, rfl, rfl, rfl, trivial⟩, hoO, hoN, rowsP_up hrN, rowOk_bills hV, hacc, len_day hm12 hal⟩
end Go.Proofs.YtpnnmklacialgaaGreat
namespace Go.Proofs.YtpnnmklacialgaaGreat
open Go.Conc
attribute [local irreducible] WP OpF OpX CallW SemH retQ AnyF RoundW WM OpsM CallM
def postsRG (n : NetG) (known : Int) : List PostG := if askedE n 0 0 known = 0 then postsR n known else []
theorem c22 (E : Env) (S : Ents) (n : NetG) (a b c d e : Value) (known : Int) (hn : NetV S a b c d e n) : CallW Tryz.prog E 22 #[.agg #[a, b, c, d, e], iv known] S fun r S' => ∃ v Δ, r = .tuple #[v, iv (askedE n 0 0 known)] ∧ Own v (postsRG n known) Δ ∧ S' = Δ ++ S := by
  refine call_in (args := [.agg #[a, b, c, d, e], iv known]) Tryz.func22 (by decide) rfl rfl ?_
  repeat' first|(refine gX ?_;first|refine o_v rfl rfl ?_|(refine gL ?_;first|refine o_load rfl rfl rfl rfl ?_|refine o_loadR rfl rfl rfl (by omega) rfl rfl ?_|refine o_loadW rfl rfl rfl rfl ?_|refine o_loadK rfl rfl rfl ?_)|(refine gC ?_;first|refine o_callF rfl rfl rfl (c85 _ _ n _ _ _ _ _ 0 0 known (hn.sub Sb.h)) ?_|(refine o_callZ rfl rfl rfl (c93 _ _ n _ _ _ _ _ known (hn.sub Sb.h) (asked_ok (n := n) (main := 0) (p := 0) (k := known) (Classical.not_not.1 ‹_›))) ?_;rintro r _ ⟨Δ, ho, rfl⟩;refine ⟨inferInstance, ?_⟩))|(refine o_box rfl rfl rfl ?_;intro _)|refine o_build rfl rfl rfl rfl rfl ?_)|refine o_head0 rfl ?_|refine o_end ?_|refine o_head1 rfl ?_|refine wp_seq ?_|refine o_region ?_|refine wp_skip ?_|(refine w_condD rfl ?_ ?_<;>intro h)|(refine w_cond rfl ?_ ?_<;>intro h<;>try exact Bool.noConfusion h)|refine w_ret (Δ ++ S) (vs:=[_,_]) rfl (Res.tmp rfl (Res.tmp rfl Res.nil)) ?_|refine w_ret (S) (vs:=[_,_]) rfl (Res.tmp rfl (Res.tmp rfl Res.nil)) ?_
  · refine ⟨_, [], rfl, ?_, rfl⟩
    unfold postsRG
    rw [if_neg h]
    exact .nil
  · have h0 : askedE n 0 0 known = 0 := Classical.not_not.1 h
    refine ⟨_, Δ, by rw [h0]; rfl, ?_, rfl⟩
    unfold postsRG
    rw [if_pos h0]
    exact ho
def balRG (n : NetG) (main known : Int) : Int := if askedE n (oneI main) 0 known = 0 then balT (postsR n known) main (postsR n known).length else 0
theorem c24 (E : Env) (S : Ents) (n : NetG) (a b c d e : Value) (main known : Int) (hn : NetV S a b c d e n) (hb : Valid n → (postsR n known).length ≤ 3000000 ∧ (∀ x ∈ postsR n known, PostOk x) ∧ ∀ j, j ≤ (postsR n known).length → -4000000000000000000 ≤ balT (postsR n known) main j ∧ balT (postsR n known) main j ≤ 4000000000000000000) :
    CallW Tryz.prog E 24 #[.agg #[a, b, c, d, e], iv main, iv known] S fun r S' => r = .tuple #[iv (balRG n main known), iv (askedE n (oneI main) 0 known)] ∧ S' = S := by
  refine call_in (args := [.agg #[a, b, c, d, e], iv main, iv known]) Tryz.func24 (by decide) rfl rfl ?_
  repeat' first|(refine gX ?_;first|refine o_v rfl rfl ?_|(refine gL ?_;first|refine o_load rfl rfl rfl rfl ?_|refine o_loadR rfl rfl rfl (by omega) rfl rfl ?_|refine o_loadW rfl rfl rfl rfl ?_|refine o_loadK rfl rfl rfl ?_)|(refine gF ?_;first|refine o_fieldI rfl rfl rfl rfl ?_|refine o_field rfl rfl rfl rfl ?_)|(refine gB ?_;first|refine o_add rfl rfl rfl rfl (by omega) ?_|refine o_sub rfl rfl rfl rfl (by omega) ?_|refine o_eqNil rfl rfl rfl rfl rfl ?_)|(refine gC ?_;first|refine o_callF rfl rfl rfl (c89 _ _ _) ?_|refine o_callF rfl rfl rfl (c85 _ _ n _ _ _ _ _ _ 0 known (hn.sub Sb.h)) ?_|(refine o_callZ rfl rfl rfl (c93 _ _ n _ _ _ _ _ known (hn.sub Sb.h) (asked_ok (n := n) (main := oneI main) (p := 0) (k := known) (Classical.not_not.1 ‹_›))) ?_;rintro r _ ⟨Δ, ho, rfl⟩;obtain ⟨wa, wc, rfl, _, hra⟩ := ho.slv;have i1 := SlI.mk hra;refine ⟨inferInstance, ?_⟩))|(refine gI ?_;first|refine o_indexS rfl rfl rfl rfl rfl rfl (by omega) ?_|refine o_index rfl rfl rfl rfl rfl (by omega) ?_)|(refine gS ?_;first|refine o_store rfl rfl rfl rfl rfl rfl ?_|refine o_storeW rfl rfl rfl rfl rfl rfl ?_)|(refine o_allocZ rfl rfl ?_;intro _)|(refine o_box rfl rfl rfl ?_;intro _)|refine o_build rfl rfl rfl rfl rfl ?_)|refine o_head0 rfl ?_|refine o_end ?_|refine o_head1 rfl ?_|refine wp_seq ?_|refine o_region ?_|refine wp_block ?_|refine wp_skip ?_|refine wp_exit ?_|(refine w_condD rfl ?_ ?_<;>intro h)|(refine w_cond rfl ?_ ?_<;>intro h<;>try exact Bool.noConfusion h)|refine w_ret (S) (vs:=[_,_]) rfl (Res.tmp rfl (Res.tmp rfl Res.nil)) ?_|(show WP _ _ _ _ (.region 1 _ true) _ _ _ _;refine o_drawn [Zt 0,Zf 1,Zt 3,Zt 4,Zf 2,Zt 5,Zf 6] mixed (by kernel_rfl) ?_)
  · have h1 : ¬ askedE n (oneI main) 0 known = 0 := h
    refine ⟨?_, rfl⟩
    unfold balRG
    rw [if_neg h1]
    rfl
  have h1 : askedE n (oneI main) 0 known = 0 := Classical.not_not.1 h
  obtain ⟨hlen, hok, hsum⟩ := hb (asked_ok (n := n) (main := oneI main) (p := 0) (k := known) h1)
  rename_i b0 _
  refine wp_loop (fun m t ds S' => ∃ (j : Nat) (t0 : Tm), m = (postsR n known).length - j ∧ j ≤ (postsR n known).length ∧ [] = ds ∧ Δ ++ ⟨b0, true, .cells #[a, b, c, d, e] 28 (0, 0)⟩ :: S = S' ∧ t = den [(25, iv j), (24, iv (postsR n known).length), (23, .slice wa (postsR n known).length wc), (9, iv (balT (postsR n known) main j)), (1, iv main)] t0)
    _ ⟨0, _, rfl, Nat.zero_le _, rfl, rfl, keep ⟨rfl, rfl, rfl, rfl, rfl, trivial⟩⟩ ?_
  rintro m t ds S' ⟨j, t0, rfl, hj, rfl, rfl, rfl⟩
  by_cases hjl : j < (postsR n known).length
  · skip
    have hs1 := hsum j (by omega)
    have hs2 := hsum (j + 1) (by omega)
    have hx := hok _ (List.getElem_mem hjl)
    rw [balT_succ hjl] at hs2
    unfold PostOk at hx
    have hst := balT_succ (main := main) hjl
    repeat' first|(refine gX ?_;first|refine o_v rfl rfl ?_|(refine gL ?_;first|refine o_load rfl rfl rfl rfl ?_|refine o_loadR rfl rfl rfl (by omega) rfl rfl ?_|refine o_loadW rfl rfl rfl rfl ?_|refine o_loadK rfl rfl rfl ?_)|(refine gF ?_;first|refine o_fieldI rfl rfl rfl rfl ?_|refine o_field rfl rfl rfl rfl ?_)|(refine gB ?_;first|refine o_add rfl rfl rfl rfl (by rw [if_pos (by assumption)] at hs2; omega) ?_|refine o_add rfl rfl rfl rfl (by omega) ?_|refine o_sub rfl rfl rfl rfl (by omega) ?_|refine o_eqNil rfl rfl rfl rfl rfl ?_)|(refine gI ?_;first|refine o_indexS rfl rfl rfl rfl rfl rfl (by omega) ?_|refine o_indexS rfl rfl rfl rfl rfl rfl (by omega) ?_|refine o_index rfl rfl rfl rfl rfl (by omega) ?_)|(refine gS ?_;first|refine o_store rfl rfl rfl rfl rfl rfl ?_|refine o_storeW rfl rfl rfl rfl rfl rfl ?_)|(refine o_allocZ rfl rfl ?_;intro _)|(refine o_box rfl rfl rfl ?_;intro _)|refine o_build rfl rfl rfl rfl rfl ?_)|refine o_head0 rfl ?_|refine o_end ?_|refine o_head1 rfl ?_|(refine w_condD rfl ?_ ?_<;>intro h<;>try (exact absurd (by omega) h))|refine wp_seq ?_|refine o_region ?_|refine wp_block ?_|refine wp_skip ?_|refine wp_exit ?_|(refine w_condD rfl ?_ ?_<;>intro h)|(refine w_cond rfl ?_ ?_<;>intro h<;>try exact Bool.noConfusion h)|refine w_ret (S) (vs:=[_,_]) rfl (Res.tmp rfl (Res.tmp rfl Res.nil)) ?_|(show WP _ _ _ _ (.region 1 _ true) _ _ _ _;refine o_drawn [Zt 0,Zf 1,Zt 3,Zt 4,Zf 2,Zt 5,Zf 6] mixed (by kernel_rfl) ?_)
    · exact ⟨(postsR n known).length - (j + 1), by omega, _, .cons _ (List.Sublist.refl _), j + 1, _, rfl, by omega, rfl, rfl, keep ⟨rfl, rfl, rfl, congrArg (fun q : Int => some (iv q)) (show balT (postsR n known) main j + ((postsR n known)[j].gas - (postsR n known)[j].penalty) = balT (postsR n known) main (j + 1) from by rw [hst, if_pos h]), rfl, trivial⟩⟩
    · exact ⟨(postsR n known).length - (j + 1), by omega, _, .cons _ (List.Sublist.refl _), j + 1, _, rfl, by omega, rfl, rfl, keep ⟨rfl, rfl, rfl, congrArg (fun q : Int => some (iv q)) (show balT (postsR n known) main j = balT (postsR n known) main (j + 1) from by rw [hst, if_neg h, Int.add_zero]), rfl, trivial⟩⟩
  have hje : j = (postsR n known).length := by omega
  subst hje
  repeat' first|(refine gX ?_;first|refine o_v rfl rfl ?_|(refine gL ?_;first|refine o_load rfl rfl rfl rfl ?_|refine o_loadR rfl rfl rfl (by omega) rfl rfl ?_|refine o_loadW rfl rfl rfl rfl ?_|refine o_loadK rfl rfl rfl ?_)|(refine gF ?_;first|refine o_fieldI rfl rfl rfl rfl ?_|refine o_field rfl rfl rfl rfl ?_)|(refine gB ?_;first|refine o_add rfl rfl rfl rfl (by omega) ?_|refine o_sub rfl rfl rfl rfl (by omega) ?_|refine o_eqNil rfl rfl rfl rfl rfl ?_)|(refine gI ?_;first|refine o_indexS rfl rfl rfl rfl rfl rfl (by omega) ?_|refine o_index rfl rfl rfl rfl rfl (by omega) ?_)|(refine gS ?_;first|refine o_store rfl rfl rfl rfl rfl rfl ?_|refine o_storeW rfl rfl rfl rfl rfl rfl ?_)|(refine o_allocZ rfl rfl ?_;intro _)|(refine o_box rfl rfl rfl ?_;intro _)|refine o_build rfl rfl rfl rfl rfl ?_)|refine o_head0 rfl ?_|refine o_end ?_|refine o_head1 rfl ?_|(refine w_condD rfl ?_ ?_<;>intro h<;>try (exact absurd h (by omega)))|refine wp_seq ?_|refine o_region ?_|refine wp_block ?_|refine wp_skip ?_|refine wp_exit ?_|(refine w_condD rfl ?_ ?_<;>intro h)|(refine w_cond rfl ?_ ?_<;>intro h<;>try exact Bool.noConfusion h)|refine w_ret (S) (vs:=[_,_]) rfl (Res.tmp rfl (Res.tmp rfl Res.nil)) ?_|(show WP _ _ _ _ (.region 1 _ true) _ _ _ _;refine o_drawn [Zt 0,Zf 1,Zt 3,Zt 4,Zf 2,Zt 5,Zf 6] mixed (by kernel_rfl) ?_)
  refine ⟨?_, rfl⟩
  unfold balRG
  rw [if_pos h1, h1]
  rfl
def cpG (n : NetG) (known : Int) (l : List PostG) : Int := if lookE n 0 known = 0 then (if postsN n known = l then 0 else 78) else lookE n 0 known
def cpR (n : NetG) (known : Int) (l : List PostG) : Int := if askedE n 0 0 known = 0 then (if postsR n known = l then 0 else 78) else askedE n 0 0 known
theorem postsRG_len {n : NetG} {known : Int} (hb : Valid n → (postsR n known).length ≤ 3000000) : (postsRG n known).length ≤ 3000000 := by
  unfold postsRG
  split
  · exact hb (asked_ok (n := n) (main := 0) (p := 0) (k := known) ‹_›)
  · simp
theorem postsG_len {n : NetG} {known : Int} : (postsG n known).length ≤ 3000000 := by
  unfold postsG
  split
  · exact Nat.le_trans (postsN_len (look_valid (n := n) (p := 0) (k := known) ‹_›)) (by omega)
  · simp
theorem c27 (E : Env) (S : Ents) (n : NetG) (a b c d e v : Value) (known : Int) (l : List PostG) (hn : NetV S a b c d e n) (hv : SlV S v l) (hb : Valid n → (postsR n known).length ≤ 3000000) : CallW Tryz.prog E 27 #[.agg #[a, b, c, d, e], iv known, v] S fun r S' => r = iv (cpR n known l) ∧ S' = S := by
  obtain ⟨qa, qc, rfl, hqc, hr⟩ := hv
  have hv : SlV S (.slice qa l.length qc) l := ⟨qa, qc, rfl, hqc, hr⟩
  refine call_in (args := [.agg #[a, b, c, d, e], iv known, .slice qa l.length qc]) Tryz.func27 (by decide) rfl rfl ?_
  repeat' first|(refine gX ?_;first|refine o_v rfl rfl ?_|(refine gL ?_;first|refine o_load rfl rfl rfl rfl ?_|refine o_loadR rfl rfl rfl (by omega) rfl rfl ?_|refine o_loadW rfl rfl rfl rfl ?_|refine o_loadK rfl rfl rfl ?_)|(refine gC ?_;first|(refine o_callZ rfl rfl rfl (c22 _ _ n _ _ _ _ _ known (hn.sub Sb.h)) ?_;rintro r _ ⟨w, Δ, rfl, ho, rfl⟩;obtain ⟨wa, wc, rfl, hwc, hra⟩ := ho.slv;refine ⟨inferInstance, ?_⟩)|refine o_callF rfl rfl rfl (c25 _ _ (postsRG n known) l _ _ (ho.slv.sub Sb.h) (hv.sub Sb.h) (by have := postsRG_len hb; omega)) ?_)|(refine o_box rfl rfl rfl ?_;intro _))|refine o_head0 rfl ?_|refine o_end ?_|refine o_head1 rfl ?_|refine wp_seq ?_|refine o_region ?_|refine wp_skip ?_|(refine w_condD rfl ?_ ?_<;>intro h)|(refine w_cond rfl ?_ ?_<;>intro h<;>try exact Bool.noConfusion h)|refine w_ret (S) (vs:=[_]) rfl (Res.tmp rfl Res.nil) ?_
  · refine ⟨?_, rfl⟩
    unfold cpR
    rw [if_neg h]
    rfl
  all_goals
    have h0 : askedE n 0 0 known = 0 := Classical.not_not.1 (by assumption)
    have e : postsRG n known = postsR n known := if_pos h0
    rw [e] at h
    refine ⟨?_, rfl⟩
    unfold cpR
    rw [if_pos h0]
  · rw [if_neg (by simpa using h)]
    rfl
  · rw [if_pos (by simpa using h)]
    rfl
theorem c26 (ro : Nat → Prop) (rd : Bool) (S R : Ents) (n : NetG) (a b c d e v : Value) (known : Int) (l : List PostG) (hn : NetV R a b c d e n) (hR : ∀ x ∈ R, x.mine = false ∧ x ∈ S) (hs : SortsOk n) (hv : SlV S v l) : CallW Tryz.prog (Em ro .plain rd) 26 #[.agg #[a, b, c, d, e], iv known, v] S fun r S' => r = iv (cpG n known l) ∧ S' = S := by
  obtain ⟨qa, qc, rfl, hqc, hr⟩ := hv
  have hv : SlV S (.slice qa l.length qc) l := ⟨qa, qc, rfl, hqc, hr⟩
  refine call_in (args := [.agg #[a, b, c, d, e], iv known, .slice qa l.length qc]) Tryz.func26 (by decide) rfl rfl ?_
  repeat' first|(refine gX ?_;first|refine o_v rfl rfl ?_|(refine gL ?_;first|refine o_load rfl rfl rfl rfl ?_|refine o_loadR rfl rfl rfl (by omega) rfl rfl ?_|refine o_loadW rfl rfl rfl rfl ?_|refine o_loadK rfl rfl rfl ?_)|(refine gC ?_;first|(refine o_callZ rfl rfl rfl (c21 ro rd _ R n _ _ _ _ _ known hn (fun x hx => ⟨(hR x hx).1, .tail _ (hR x hx).2⟩) hs) ?_;rintro r _ ⟨w, Δ, rfl, ho, rfl⟩;obtain ⟨wa, wc, rfl, hwc, hra⟩ := ho.slv;refine ⟨inferInstance, ?_⟩)|refine o_callF rfl rfl rfl (c94 _ _ (postsG n known) l _ _ (ho.slv.sub Sb.h) (hv.sub Sb.h) (by have := postsG_len (n := n) (known := known); omega)) ?_)|(refine o_box rfl rfl rfl ?_;intro _))|refine o_head0 rfl ?_|refine o_end ?_|refine o_head1 rfl ?_|refine wp_seq ?_|refine o_region ?_|refine wp_skip ?_|(refine w_condD rfl ?_ ?_<;>intro h)|(refine w_cond rfl ?_ ?_<;>intro h<;>try exact Bool.noConfusion h)|refine w_ret (S) (vs:=[_]) rfl (Res.tmp rfl Res.nil) ?_
  · refine ⟨?_, rfl⟩
    unfold cpG
    rw [if_neg h]
    rfl
  all_goals
    have h0 : lookE n 0 known = 0 := Classical.not_not.1 (by assumption)
    have e : postsG n known = postsN n known := if_pos h0
    rw [e] at h
    refine ⟨?_, rfl⟩
    unfold cpG
    rw [if_pos h0]
  · rw [if_neg (by simpa using h)]
    rfl
  · rw [if_pos (by simpa using h)]
    rfl
end Go.Proofs.YtpnnmklacialgaaGreat
namespace Go.Proofs.YtpnnmklacialgaaGreat
open Go.Conc
theorem rise_eq {l m : List Int} (hl : l.Pairwise (· < ·)) (hm : m.Pairwise (· < ·)) (h : ∀ x, x ∈ l ↔ x ∈ m) : l = m :=
  List.Perm.eq_of_pairwise (le := fun a b : Int => a < b) (fun a b _ _ h1 h2 => by omega) hl hm
    ((List.perm_ext_iff_of_nodup (hl.imp fun h => Int.ne_of_lt h) (hm.imp fun h => Int.ne_of_lt h)).2 h)
theorem putL_mem {xs : List Int} {y x : Int} : x ∈ putL xs y ↔ x = y ∨ x ∈ xs := by
  induction xs with
  | nil => simp [putL]
  | cons z xs ih =>
    unfold putL
    split
    · rw [List.mem_cons, ih, List.mem_cons]
      constructor
      · rintro (h | h | h)
        · exact .inr (.inl h)
        · exact .inl h
        · exact .inr (.inr h)
      · rintro (h | h | h)
        · exact .inr (.inl h)
        · exact .inl h
        · exact .inr (.inr h)
    · split
      · rename_i h
        subst h
        rw [List.mem_cons]
        constructor
        · exact fun h => .inr h
        · rintro (h | h)
          · exact .inl h
          · exact h
      · rw [List.mem_cons]
theorem putL_rise {xs : List Int} {y : Int} (h : xs.Pairwise (· < ·)) : (putL xs y).Pairwise (· < ·) := by
  induction xs with
  | nil => exact List.pairwise_singleton ..
  | cons z xs ih =>
    obtain ⟨h1, h2⟩ := List.pairwise_cons.1 h
    unfold putL
    split
    · rename_i hz
      refine List.pairwise_cons.2 ⟨fun x hx => ?_, ih h2⟩
      rcases putL_mem.1 hx with rfl | hx
      · exact hz
      · exact h1 x hx
    · split
      · exact h
      · refine List.pairwise_cons.2 ⟨fun x hx => ?_, h⟩
        rcases List.mem_cons.1 hx with rfl | hx
        · omega
        · have := h1 x hx; omega
theorem putAll_mem {l acc : List Int} {x : Int} : x ∈ putAll acc l ↔ x ∈ acc ∨ x ∈ l := by
  induction l generalizing acc with
  | nil => simp [putAll]
  | cons y l ih =>
    show x ∈ putAll (putL acc y) l ↔ _
    rw [ih, putL_mem, List.mem_cons]
    constructor
    · rintro ((h | h) | h)
      · exact .inr (.inl h)
      · exact .inl h
      · exact .inr (.inr h)
    · rintro (h | h | h)
      · exact .inl (.inr h)
      · exact .inl (.inl h)
      · exact .inr h
theorem putAll_rise {l acc : List Int} (h : acc.Pairwise (· < ·)) : (putAll acc l).Pairwise (· < ·) := by
  induction l generalizing acc with
  | nil => exact h
  | cons y l ih => exact ih (putL_rise h)
theorem at0_mem {l : List Int} {j : Nat} (h : j < l.length) : at0 l j ∈ l := by
  rw [← at0_get h]
  exact List.getElem_mem h
theorem ddT_facts {xs : List Int} (h : xs.Pairwise (· ≤ ·)) : ∀ {j : Nat}, j ≤ xs.length → (ddT xs j).Pairwise (· < ·) ∧ ∀ x, x ∈ ddT xs j ↔ x ∈ xs.take j
  | 0, _ => ⟨List.Pairwise.nil, fun x => by simp [ddT]⟩
  | j + 1, hj => by
    obtain ⟨h1, h2⟩ := ddT_facts h (j := j) (by omega)
    have hle : ∀ x ∈ xs.take j, 0 < j ∧ x ≤ at0 xs (j - 1) := by
      intro x hx
      obtain ⟨q, hq, rfl⟩ := List.mem_iff_getElem.1 hx
      have hq2 : q < j := by simp at hq; omega
      refine ⟨by omega, ?_⟩
      rw [List.getElem_take, at0_get]
      rcases Nat.lt_or_ge q (j - 1) with h3 | h3
      · have := List.pairwise_iff_getElem.1 h q (j - 1) (by omega) (by omega) h3
        rwa [at0_get, at0_get] at this
      · rw [show q = j - 1 by omega]; exact Int.le_refl _
    by_cases hn : j = 0 ∨ at0 xs j ≠ at0 xs (j - 1)
    · rw [ddT_new hn]
      refine ⟨List.pairwise_append.2 ⟨h1, List.pairwise_singleton .., fun x hx y hy => ?_⟩, fun x => ?_⟩
      · rw [List.mem_singleton.1 hy]
        obtain ⟨h0, h3⟩ := hle x ((h2 x).1 hx)
        have h4 := List.pairwise_iff_getElem.1 h (j - 1) j (by omega) (by omega) (by omega)
        rw [at0_get, at0_get] at h4
        rcases hn with hn | hn
        · omega
        · omega
      · rw [take_snoc0 (by omega), List.mem_append, List.mem_append, h2]
    · have h0 : 0 < j := Nat.pos_of_ne_zero fun e => hn (.inl e)
      have h3 : at0 xs j = at0 xs (j - 1) := Classical.not_not.1 fun e => hn (.inr e)
      rw [ddT_old h0 h3]
      refine ⟨h1, fun x => ?_⟩
      rw [take_snoc0 (by omega), List.mem_append, h2, List.mem_singleton]
      constructor
      · exact .inl
      · rintro (h4 | h4)
        · exact h4
        · rw [h4, h3]
          have : at0 (xs.take j) (j - 1) ∈ xs.take j := at0_mem (by simp; omega)
          have e : at0 (xs.take j) (j - 1) = at0 xs (j - 1) := by
            unfold at0
            rw [List.getD_eq_getElem?_getD, List.getD_eq_getElem?_getD, List.getElem?_take, if_pos (by omega)]
          rwa [e] at this
theorem sortedL_rise {xss : List (List Int)} : (sortedL xss).Pairwise (· < ·) := (ddT_facts (srtL_pair _) (Nat.le_refl _)).1
theorem sortedL_mem {xss : List (List Int)} {x : Int} : x ∈ sortedL xss ↔ x ∈ xss.flatten := by
  unfold sortedL dd
  rw [(ddT_facts (srtL_pair _) (Nat.le_refl _)).2 x, List.take_length, (srtL_perm _).mem_iff]
theorem periods_eq {n : NetG} : periodsR n = periodsN n := by
  refine rise_eq (putAll_rise (putAll_rise (putAll_rise List.Pairwise.nil))) sortedL_rise fun x => ?_
  unfold periodsR periodsN
  rw [putAll_mem, putAll_mem, putAll_mem, sortedL_mem]
  unfold timesL
  simp [List.mem_flatMap, or_assoc]
  simp [eq_comm]
def ents (n : NetG) : List (Int × Int) := n.uses.map (fun x => (x.known, x.til)) ++ (n.readings.map (fun x => (x.known, x.til)) ++ n.faults.map fun x => (x.known, x.til))
theorem ents_ok {n : NetG} (h : Valid n) : ∀ e ∈ ents n, 0 ≤ e.1 ∧ e.1 ≤ 100000 ∧ (e.2 = 0 ∨ e.1 < e.2 ∧ e.2 ≤ 100000) := by
  intro e he
  unfold ents at he
  simp only [List.mem_append, List.mem_map] at he
  rcases he with ⟨x, hx, rfl⟩ | ⟨x, hx, rfl⟩ | ⟨x, hx, rfl⟩
  · have := (h.uses x hx).1
    simp only [useOk, headOk, lastsOk, Bool.and_eq_true, decide_eq_true_eq] at this
    exact this.1.1.2
  · have := (h.reads x hx).1
    simp only [readOk, headOk, lastsOk, Bool.and_eq_true, decide_eq_true_eq] at this
    exact this.1.2
  · have := (h.faults x hx).1
    simp only [faultOk, headOk, lastsOk, Bool.and_eq_true, decide_eq_true_eq] at this
    exact this.1.2
theorem datesR_mem {n : NetG} {x : Int} : x ∈ datesR n ↔ ∃ e ∈ ents n, x = e.1 ∨ x = e.2 := by
  unfold datesR ents
  rw [putAll_mem, putAll_mem, putAll_mem]
  simp only [List.not_mem_nil, false_or, List.mem_flatMap, List.mem_cons, or_false, List.mem_append, List.mem_map]
  constructor
  · rintro ((⟨u, hu, h⟩ | ⟨u, hu, h⟩) | ⟨u, hu, h⟩)
    · exact ⟨_, .inl ⟨u, hu, rfl⟩, h⟩
    · exact ⟨_, .inr (.inl ⟨u, hu, rfl⟩), h⟩
    · exact ⟨_, .inr (.inr ⟨u, hu, rfl⟩), h⟩
  · rintro ⟨_, (⟨u, hu, rfl⟩ | ⟨u, hu, rfl⟩ | ⟨u, hu, rfl⟩), h⟩
    · exact .inl (.inl ⟨u, hu, h⟩)
    · exact .inl (.inr ⟨u, hu, h⟩)
    · exact .inr ⟨u, hu, h⟩
theorem knownsR_mem {n : NetG} {x : Int} : x ∈ knownsR n ↔ ∃ e ∈ ents n, x = e.1 := by
  unfold knownsR ents
  rw [putAll_mem, putAll_mem, putAll_mem]
  simp only [List.not_mem_nil, false_or, List.mem_flatMap, List.mem_cons, or_false, List.mem_append, List.mem_map]
  constructor
  · rintro ((⟨u, hu, h⟩ | ⟨u, hu, h⟩) | ⟨u, hu, h⟩)
    · exact ⟨_, .inl ⟨u, hu, rfl⟩, h⟩
    · exact ⟨_, .inr (.inl ⟨u, hu, rfl⟩), h⟩
    · exact ⟨_, .inr (.inr ⟨u, hu, rfl⟩), h⟩
  · rintro ⟨_, (⟨u, hu, rfl⟩ | ⟨u, hu, rfl⟩ | ⟨u, hu, rfl⟩), h⟩
    · exact .inl (.inl ⟨u, hu, h⟩)
    · exact .inl (.inr ⟨u, hu, h⟩)
    · exact .inr ⟨u, hu, h⟩
theorem nights_mem {x known til : Int} : x ∈ (if til = 0 then [known] else [known, til]) ↔ x = known ∨ (til ≠ 0 ∧ x = til) := by
  split
  · rename_i h
    simp [h]
  · rename_i h
    simp [h]
theorem datesN_mem {n : NetG} {x : Int} : x ∈ datesN n ↔ ∃ e ∈ ents n, x = e.1 ∨ (e.2 ≠ 0 ∧ x = e.2) := by
  unfold datesN ents
  rw [sortedL_mem]
  unfold nightsL
  simp only [List.flatten_cons, List.flatten_nil, List.append_nil, List.mem_append, List.mem_flatMap, List.mem_map, nightsUse, nightsRead, nightsFault, nights_mem]
  constructor
  · rintro (⟨u, hu, h⟩ | ⟨u, hu, h⟩ | ⟨u, hu, h⟩)
    · exact ⟨_, .inl ⟨u, hu, rfl⟩, h⟩
    · exact ⟨_, .inr (.inl ⟨u, hu, rfl⟩), h⟩
    · exact ⟨_, .inr (.inr ⟨u, hu, rfl⟩), h⟩
  · rintro ⟨_, (⟨u, hu, rfl⟩ | ⟨u, hu, rfl⟩ | ⟨u, hu, rfl⟩), h⟩
    · exact .inl ⟨u, hu, h⟩
    · exact .inr (.inl ⟨u, hu, h⟩)
    · exact .inr (.inr ⟨u, hu, h⟩)
theorem days_eq {n : NetG} (hV : Valid n) : daysR n = datesN n := by
  refine rise_eq ((putAll_rise (putAll_rise (putAll_rise List.Pairwise.nil))).sublist List.filter_sublist) sortedL_rise fun x => ?_
  unfold daysR
  rw [List.mem_filter, datesR_mem, datesN_mem]
  have hk : dayOk n x = true ↔ 0 < x ∨ ∃ e ∈ ents n, 0 = e.1 := by
    unfold dayOk
    rw [Bool.or_eq_true, decide_eq_true_eq, List.contains_iff_mem, knownsR_mem]
  rw [hk]
  constructor
  · rintro ⟨⟨e, he, h⟩, hd⟩
    have ho := ents_ok hV e he
    rcases h with h | h
    · exact ⟨e, he, .inl h⟩
    · by_cases h0 : e.2 = 0
      · rcases hd with hd | ⟨e', he', h'⟩
        · omega
        · exact ⟨e', he', .inl (by omega)⟩
      · exact ⟨e, he, .inr ⟨h0, h⟩⟩
  · rintro ⟨e, he, h⟩
    have ho := ents_ok hV e he
    refine ⟨⟨e, he, ?_⟩, ?_⟩
    · rcases h with h | h
      · exact .inl h
      · exact .inr h.2
    · rcases h with h | h
      · by_cases h0 : 0 < x
        · exact .inl h0
        · exact .inr ⟨e, he, by omega⟩
      · exact .inl (by omega)
end Go.Proofs.YtpnnmklacialgaaGreat
namespace Go.Proofs.YtpnnmklacialgaaGreat
open Go.Conc
theorem foldR_sub {n : NetG} {i : Nat} : ∀ {l : List ReadG} {x : RangeG}, x.lo ≤ (l.foldl (stepR n i) x).lo ∧ (l.foldl (stepR n i) x).hi ≤ x.hi
  | [], x => ⟨Int.le_refl _, Int.le_refl _⟩
  | r :: l, x => by
    have h := foldR_sub (n := n) (i := i) (l := l) (x := stepR n i x r)
    rw [List.foldl_cons]
    have h2 : x.lo ≤ (stepR n i x r).lo ∧ (stepR n i x r).hi ≤ x.hi := by
      unfold stepR
      split
      · unfold meetR; simp only; omega
      · exact ⟨Int.le_refl _, Int.le_refl _⟩
    omega
theorem readN_sub {n : NetG} {by' : ReadG → Bool} {p k : Int} {i : Nat} {x : RangeG} : x.lo ≤ (readN n by' p k i x).lo ∧ (readN n by' p k i x).hi ≤ x.hi := by
  rw [readN_eq]
  exact foldR_sub
theorem sum_le {l : List RangeG} (h : ∀ x ∈ l, x.lo ≤ x.hi) : (sumR l).lo ≤ (sumR l).hi := by
  induction l with
  | nil => exact Int.le_refl _
  | cons x l ih =>
    have h1 := h x (.head _)
    have h2 := ih fun y hy => h y (.tail _ hy)
    simp only [sumR]
    omega
theorem vol_le {u : UseG} (h : useOk u = true) : (volR u).lo ≤ (volR u).hi := by
  simp only [useOk, rangeOk, Bool.and_eq_true, decide_eq_true_eq] at h
  obtain ⟨⟨_, hm⟩, hr⟩ := h
  have h1 : u.minutes.lo * u.rate.lo ≤ u.minutes.hi * u.rate.hi := Int.mul_le_mul hm.2.1 hr.2.1 hr.1 (by omega)
  show u.minutes.lo * u.rate.lo / 60 ≤ (u.minutes.hi * u.rate.hi + 59) / 60
  omega
theorem partLe {l : List RangeG} {i : Nat} (h : ∀ x ∈ l, x.lo ≤ x.hi) : (partOf l i).lo ≤ (partOf l i).hi := by
  by_cases hi : i < l.length
  · rw [partOf_get hi]; exact h _ (List.getElem_mem hi)
  · have : partOf l i = zR := by unfold partOf; rw [List.getD_eq_getElem?_getD, List.getElem?_eq_none (by omega)]; rfl
    rw [this]
    exact Int.le_refl _
theorem foldU_le {n : NetG} : ∀ {l : List UseG} {acc : List RangeG}, (∀ x ∈ acc, x.lo ≤ x.hi) → (∀ u ∈ l, useOk u = true) → ∀ x ∈ l.foldl (stepU n) acc, x.lo ≤ x.hi
  | [], acc, ha, _ => ha
  | u :: l, acc, ha, hl => by
    refine foldU_le (l := l) (acc := stepU n acc u) (fun x hx => ?_) fun v hv => hl v (.tail _ hv)
    unfold stepU at hx
    rcases mem_set hx with rfl | hx
    · have h1 := vol_le (hl u (.head _))
      have h2 := partLe (i := idx n u.main) ha
      simp only [sumR]
      omega
    · exact ha x hx
section
variable {n : NetG} (h : Valid n) {by' : ReadG → Bool} {p k : Int}
include h
theorem ups_keep {q : Nat} (hq : q < n.mains.length) : ∀ {d : Nat}, n.mains.length - q ≤ d → d ≤ n.mains.length → partOf (upsD n by' p k d) q = partOf (upsD n by' p k (n.mains.length - q)) q
  | 0, h1, h2 => by omega
  | d + 1, h1, h2 => by
    by_cases e : n.mains.length - q = d + 1
    · rw [e]
    · rw [← ups_keep hq (d := d) (by omega) (by omega)]
      show partOf (upStep n by' p k (upsD n by' p k d) (n.mains.length - 1 - d)) q = _
      unfold upStep
      rw [part_set (by rw [upsD_len]; have := h.m12; omega), if_neg (by omega)]
theorem below_gt {q c : Nat} (hq : q < n.mains.length) (hc : c ∈ belowN n.mains (idOf n.mains q)) : c < n.mains.length ∧ q < c := by
  have h1 := mem_below hc
  refine ⟨h1, ?_⟩
  unfold belowN belowT at hc
  obtain ⟨_, h2⟩ := List.mem_filter.1 hc
  rw [List.getElem?_eq_getElem h1] at h2
  have h3 := of_decide_eq_true h2
  rw [idOf_eq hq] at h3
  have h4 := (child_iff h hq h1).1 h3
  have h5 := par_lt h h1
  omega
theorem rest_congr {P Q : List RangeG} {i : Nat} {but : Int} (hP : ∀ c ∈ belowN n.mains (idOf n.mains i), partOf P c = partOf Q c) : restR n.mains (usedN n p k) P i but = restR n.mains (usedN n p k) Q i but := by
  unfold restR restL
  congr 2
  refine List.map_congr_left fun c hc => hP c (List.mem_filter.1 hc).1
theorem ups_at {q : Nat} (hq : q < n.mains.length) : partOf (upsN n by' p k) q = readN n by' p k q (restR n.mains (usedN n p k) (upsN n by' p k) q (-3)) := by
  have h12 := h.m12
  unfold upsN
  rw [ups_keep h hq (d := n.mains.length) (by omega) (Nat.le_refl _)]
  obtain ⟨d, hd⟩ : ∃ d, n.mains.length - q = d + 1 := ⟨n.mains.length - q - 1, by omega⟩
  rw [hd]
  have hi : n.mains.length - 1 - d = q := by omega
  show partOf (upStep n by' p k (upsD n by' p k d) (n.mains.length - 1 - d)) q = _
  unfold upStep
  rw [hi, part_set (by rw [upsD_len]; omega), if_pos rfl]
  congr 1
  refine rest_congr h fun c hc => ?_
  obtain ⟨h1, h2⟩ := below_gt h hq hc
  rw [ups_keep h h1 (d := d) (by omega) (by omega), ups_keep h h1 (d := n.mains.length) (by omega) (Nat.le_refl _)]
theorem ev_at : ∀ {d : Nat}, d ≤ n.mains.length → evD n by' p k d = true → ∀ q, n.mains.length - d ≤ q → q < n.mains.length → (partOf (upsN n by' p k) q).lo ≤ (partOf (upsN n by' p k) q).hi
  | 0, _, _, q, h1, h2 => by omega
  | d + 1, hd, he, q, h1, h2 => by
    have he' : (evD n by' p k d && decide ((partOf (upsD n by' p k (d + 1)) (n.mains.length - 1 - d)).lo ≤ (partOf (upsD n by' p k (d + 1)) (n.mains.length - 1 - d)).hi)) = true := he
    rw [Bool.and_eq_true, decide_eq_true_eq] at he'
    by_cases e : q = n.mains.length - 1 - d
    · have hk := ups_keep h (by' := by') (p := p) (k := k) h2 (d := n.mains.length) (by omega) (Nat.le_refl _)
      have e2 : n.mains.length - q = d + 1 := by omega
      unfold upsN
      rw [hk, e2, e]
      exact he'.2
    · exact ev_at (by omega) he'.1 q (by omega) h2
theorem even_at (he : evenN n by' p k = true) {q : Nat} (hq : q < n.mains.length) : (partOf (upsN n by' p k) q).lo ≤ (partOf (upsN n by' p k) q).hi := ev_at h (Nat.le_refl _) he q (by omega) hq
theorem used_le {q : Nat} : 0 ≤ (partOf (usedN n p k) q).lo ∧ (partOf (usedN n p k) q).lo ≤ (partOf (usedN n p k) q).hi ∧ (partOf (usedN n p k) q).hi ≤ 60000000 := by
  have := nn_part (i := q) (by omega) (fun x hx => usedT_nn h (p := p) (k := k) (j := n.uses.length) x hx)
  change Nn 60000000 (partOf (usedN n p k) q) at this
  unfold Nn at this
  have h2 : (partOf (usedN n p k) q).lo ≤ (partOf (usedN n p k) q).hi := partLe (foldU_le (n := n) (fun x hx => by rw [List.eq_of_mem_replicate hx]; exact Int.le_refl _) fun u hu => (h.uses u (List.mem_of_mem_take (List.mem_filter.1 hu).1)).1)
  omega
theorem leak_le {q : Nat} : (leakOf n.mains q).lo ≤ (leakOf n.mains q).hi := by
  unfold leakOf
  cases hm : n.mains[q]? with
  | none => exact Int.le_refl _
  | some m =>
    have := (h.mains m (List.mem_of_getElem? hm)).1
    simp only [mainOk, rangeOk, Bool.and_eq_true, decide_eq_true_eq] at this
    simp only
    omega
theorem rest_le (he : evenN n by' p k = true) {q : Nat} {but : Int} (hq : q < n.mains.length) : (restR n.mains (usedN n p k) (upsN n by' p k) q but).lo ≤ (restR n.mains (usedN n p k) (upsN n by' p k) q but).hi := by
  unfold restR
  refine sum_le fun x hx => ?_
  unfold restL at hx
  rcases List.mem_append.1 hx with hx | hx
  · rcases List.mem_append.1 hx with hx | hx
    · split at hx
      · rw [List.mem_singleton.1 hx]; exact (used_le h).2.1
      · cases hx
    · split at hx
      · rw [List.mem_singleton.1 hx]
        exact leak_le h
      · cases hx
  · obtain ⟨c, hc, rfl⟩ := List.mem_map.1 hx
    exact even_at h he (below_gt h hq (List.mem_filter.1 hc).1).1
theorem thr_sound (he : evenN n by' p k = true) : ∀ (q : Nat), q < n.mains.length → (partOf (upsN n by' p k) q).lo ≤ (partOf (thrN n by' p k) q).lo ∧ (partOf (thrN n by' p k) q).lo ≤ (partOf (thrN n by' p k) q).hi ∧ (partOf (thrN n by' p k) q).hi ≤ (partOf (upsN n by' p k) q).hi := by
  intro q
  induction q using Nat.strongRecOn with
  | ind q ih =>
    intro hq
    have hu := even_at h he hq
    by_cases hp : parI n q < 0
    · rw [thr_root h hq hp]
      exact ⟨Int.le_refl _, hu, Int.le_refl _⟩
    · have hl := par_lt h hq
      obtain ⟨r, hr⟩ : ∃ r : Nat, parI n q = (r : Int) := ⟨(parI n q).toNat, by omega⟩
      have hrq : r < q := by omega
      have ihr := ih r hrq (by omega)
      have hsub := readN_sub (n := n) (by' := by') (p := p) (k := k) (i := r) (x := restR n.mains (usedN n p k) (upsN n by' p k) r (-3))
      rw [← ups_at h (show r < n.mains.length by omega)] at hsub
      have hmem : q ∈ belowN n.mains (idOf n.mains r) := by
        unfold belowN belowT
        rw [List.mem_filter]
        refine ⟨List.mem_range.2 hq, ?_⟩
        rw [List.getElem?_eq_getElem hq]
        refine decide_eq_true ?_
        rw [idOf_eq (show r < n.mains.length by omega)]
        exact (child_iff h (by omega) hq).2 hr
      have hb := rest_but (ms := n.mains) (u := usedN n p k) (P := upsN n by' p k) hmem
      have hrl := rest_le h he (q := r) (but := (q : Int)) (by omega)
      rw [thr_child h hq (by omega) hr]
      unfold tightR meetR
      simp only
      omega
theorem burn_sound (he : evenN n tt p k = true) {q : Nat} (hq : q < n.mains.length) : 0 ≤ (burnI n p k q).lo ∧ (burnI n p k q).lo ≤ (burnI n p k q).hi ∧ (burnI n p k q).hi ≤ (partOf (usedN n p k) q).hi := by
  rw [← tgt_burn]
  have hs := thr_sound h he q hq
  have hsub := readN_sub (n := n) (by' := tt) (p := p) (k := k) (i := q) (x := restR n.mains (usedN n p k) (upsN n tt p k) q (-3))
  rw [← ups_at h hq] at hsub
  have hb := rest_used (ms := n.mains) (u := usedN n p k) (P := upsN n tt p k) (q := q)
  have hrl := rest_le h he (q := q) (but := -1) hq
  have hul := used_le h (p := p) (k := k) (q := q)
  unfold tgtU tightR meetR
  simp only
  omega
theorem gas_small {q : Nat} (hq : q < n.mains.length) : 0 ≤ gasI n p k q ∧ gasI n p k q ≤ 6000000000 := by
  unfold gasI
  split
  · rename_i he
    have hs := burn_sound h he hq
    have hul := used_le h (p := p) (k := k) (q := q)
    have hp := price_ok h (p := p)
    have h1 : 0 ≤ (burnI n p k q).lo * (priceN n p).feet := Int.mul_nonneg hs.1 hp.1
    have h2 : (burnI n p k q).lo * (priceN n p).feet ≤ 60000000 * (priceN n p).feet := Int.mul_le_mul_of_nonneg_right (by omega) hp.1
    omega
  · omega
end
end Go.Proofs.YtpnnmklacialgaaGreat
namespace Go.Proofs.YtpnnmklacialgaaGreat
open Go.Conc
section
variable {n : NetG} {p k k' : Int} (hc : ∀ e ∈ ents n, countsB e.1 e.2 k = countsB e.1 e.2 k')
include hc
theorem same_used : usedN n p k = usedN n p k' := by
  unfold usedN usedT
  congr 1
  refine List.filter_congr fun u hu => ?_
  unfold countsU
  rw [hc (u.known, u.til) (by unfold ents; exact List.mem_append_left _ (List.mem_map.2 ⟨u, List.mem_of_mem_take hu, rfl⟩))]
theorem same_read : rF n tt p k = rF n tt p k' := by
  unfold rF
  congr 1
  refine List.filter_congr fun u hu => ?_
  unfold countsR
  rw [hc (u.known, u.til) (by unfold ents; exact List.mem_append_right _ (List.mem_append_left _ (List.mem_map.2 ⟨u, hu, rfl⟩)))]
theorem same_fault {x : FaultG} (hx : x ∈ n.faults) : countsF p k x = countsF p k' x := by
  unfold countsF
  rw [hc (x.known, x.til) (by unfold ents; exact List.mem_append_right _ (List.mem_append_right _ (List.mem_map.2 ⟨x, hx, rfl⟩)))]
theorem same_step {P : List RangeG} {i : Nat} : upStep n tt p k P i = upStep n tt p k' P i := by
  unfold upStep
  rw [readN_eq, readN_eq, same_read hc, same_used hc]
theorem same_upsD : ∀ {d : Nat}, upsD n tt p k d = upsD n tt p k' d
  | 0 => rfl
  | d + 1 => by
    show upStep n tt p k (upsD n tt p k d) (n.mains.length - 1 - d) = upStep n tt p k' (upsD n tt p k' d) (n.mains.length - 1 - d)
    rw [same_upsD, same_step hc]
theorem same_evD : ∀ {d : Nat}, evD n tt p k d = evD n tt p k' d
  | 0 => rfl
  | d + 1 => by
    show (evD n tt p k d && decide ((partOf (upsD n tt p k (d + 1)) (n.mains.length - 1 - d)).lo ≤ (partOf (upsD n tt p k (d + 1)) (n.mains.length - 1 - d)).hi)) = _
    rw [same_evD, same_upsD hc]
    rfl
theorem same_even : evenN n tt p k = evenN n tt p k' := same_evD hc
theorem same_ups : upsN n tt p k = upsN n tt p k' := same_upsD hc
theorem same_thrT : ∀ {i : Nat}, thrT n tt p k i = thrT n tt p k' i
  | 0 => rfl
  | i + 1 => by
    show stepH n tt p k (thrT n tt p k i) i = stepH n tt p k' (thrT n tt p k' i) i
    rw [same_thrT]
    unfold stepH
    rw [same_ups hc, same_used hc]
theorem same_thr : thrN n tt p k = thrN n tt p k' := same_thrT hc
theorem same_gas {q : Nat} : gasI n p k q = gasI n p k' q := by
  show (if evenN n tt p k = true then ((burntR n.mains (usedN n p k) (upsN n tt p k) (thrN n tt p k) q).lo * (priceN n p).feet) / 100 else 0) = (if evenN n tt p k' = true then ((burntR n.mains (usedN n p k') (upsN n tt p k') (thrN n tt p k') q).lo * (priceN n p).feet) / 100 else 0)
  rw [same_even hc, same_used hc, same_ups hc, same_thr hc]
theorem same_pen {q : Nat} : ∀ {j : Nat}, j ≤ n.faults.length → penT n p k j q = penT n p k' j q
  | 0, _ => rfl
  | j + 1, hj => by
    rw [penT_succ (by omega), penT_succ (by omega), same_pen (by omega), same_fault hc (List.getElem_mem (show j < n.faults.length by omega))]
theorem same_bills : billsN n p k = billsN n p k' := by
  unfold billsN bill2
  refine List.map_congr_left fun q _ => ?_
  rw [same_gas hc, same_pen hc (Nat.le_refl _)]
end
theorem no_bills {n : NetG} (h : Valid n) {p k : Int} (hc : ∀ e ∈ ents n, countsB e.1 e.2 k = false) : billsN n p k = zeroRow n := by
  have hu : usedN n p k = z12 := by
    unfold usedN usedT
    rw [List.filter_eq_nil_iff.2 fun u hu => ?_]
    · rfl
    · unfold countsU
      rw [hc (u.known, u.til) (by unfold ents; exact List.mem_append_left _ (List.mem_map.2 ⟨u, List.mem_of_mem_take hu, rfl⟩))]
      simp
  have hpen : ∀ q j, j ≤ n.faults.length → penT n p k j q = 0 := by
    intro q j
    induction j with
    | zero => intro _; rfl
    | succ j ih =>
      intro hj
      rw [penT_succ (by omega), ih (by omega), if_neg]
      · rfl
      · rintro ⟨hx, _⟩
        unfold countsF at hx
        rw [hc (n.faults[j].known, n.faults[j].til) (by unfold ents; exact List.mem_append_right _ (List.mem_append_right _ (List.mem_map.2 ⟨_, List.getElem_mem (show j < n.faults.length by omega), rfl⟩)))] at hx
        simp at hx
  unfold billsN bill2 zeroRow
  rw [List.eq_replicate_iff]
  refine ⟨by simp, fun b hb => ?_⟩
  obtain ⟨q, hq, rfl⟩ := List.mem_map.1 hb
  have hq := List.mem_range.1 hq
  have hg : gasI n p k q = 0 := by
    unfold gasI
    split
    · rename_i he
      have hs := burn_sound h he hq
      have hz : (partOf (usedN n p k) q).hi = 0 := by
        rw [hu]
        unfold z12 partOf
        rw [List.getD_eq_getElem?_getD, List.getElem?_replicate]
        split <;> rfl
      rw [show (burnI n p k q).lo = 0 by omega, Int.zero_mul]
      rfl
    · rfl
  rw [hg, hpen q _ (Nat.le_refl _)]
  rfl
theorem counts_same {n : NetG} {k k' : Int} (hk : k ≤ k') (hd : ∀ d ∈ datesN n, ¬ (k < d ∧ d ≤ k')) : ∀ e ∈ ents n, countsB e.1 e.2 k = countsB e.1 e.2 k' := by
  intro e he
  have h1 := hd e.1 (datesN_mem.2 ⟨e, he, .inl rfl⟩)
  have h2 : e.2 = 0 ∨ ¬ (k < e.2 ∧ e.2 ≤ k') := by
    by_cases h0 : e.2 = 0
    · exact .inl h0
    · exact .inr (hd e.2 (datesN_mem.2 ⟨e, he, .inr ⟨h0, rfl⟩⟩))
  unfold countsB
  refine decide_eq_decide.2 ?_
  omega
theorem counts_none {n : NetG} {k : Int} (hd : ∀ d ∈ datesN n, k < d) : ∀ e ∈ ents n, countsB e.1 e.2 k = false := by
  intro e he
  have h1 := hd e.1 (datesN_mem.2 ⟨e, he, .inl rfl⟩)
  unfold countsB
  refine decide_eq_false ?_
  omega
theorem datesN_ge {n : NetG} (h : Valid n) : ∀ d ∈ datesN n, 0 ≤ d := by
  intro d hd
  obtain ⟨e, he, hx⟩ := datesN_mem.1 hd
  have := ents_ok h e he
  omega
theorem day_send {n : NetG} {d : Int} {f : Int → List BillG} (hf : ∀ p, f p = wasN n p d) : dayFrom n d f 0 = sendN n d := by
  have e1 : ∀ i, postIf n d f i = fun p => postAt n d p i := fun i => by
    funext p
    unfold postIf postAt
    rw [hf]
  have e2 : (fun i => rowFrom n d f i 0) = fun i => sendRow n d i 0 := by
    funext i
    unfold rowFrom sendRow
    rw [e1, periods_eq]
  unfold dayFrom sendN sendFrom
  rw [e2]
theorem posts_from {n : NetG} (h : Valid n) {known : Int} : ∀ (pre l : List Int) (f : Int → List BillG), pre ++ l = datesN n → (∀ p d, (∀ x ∈ pre, x ≤ d) → (∀ x ∈ l, d < x) → 0 ≤ d → f p = billsN n p d) → (pre = [] → ∀ p, f p = zeroRow n) →
    postsD n known l f = l.flatMap fun d => if d ≤ known then sendN n d else []
  | pre, [], f, hp, h1, h2 => rfl
  | pre, d :: l, f, hp, h1, h2 => by
    have hr := sortedL_rise (xss := nightsL n)
    change (datesN n).Pairwise _ at hr
    rw [← hp] at hr
    obtain ⟨hr1, hr2, hr3⟩ := List.pairwise_append.1 hr
    obtain ⟨hr4, hr5⟩ := List.pairwise_cons.1 hr2
    have hd0 : 0 ≤ d := datesN_ge h d (by rw [← hp]; simp)
    unfold postsD
    by_cases hk : d > known
    · rw [if_pos hk]
      refine (List.flatMap_eq_nil_iff.2 fun x hx => ?_).symm
      rw [if_neg]
      rcases List.mem_cons.1 hx with rfl | hx
      · omega
      · have := hr4 x hx; omega
    · rw [if_neg hk, List.flatMap_cons, if_pos (by omega)]
      have hf : ∀ p, f p = wasN n p d := by
        intro p
        unfold wasN
        by_cases hz : d = 0
        · rw [if_pos hz]
          have : pre = [] := by
            cases pre with
            | nil => rfl
            | cons x pre =>
              have a1 := hr3 x (.head _) d (.head _)
              have a2 := datesN_ge h x (by rw [← hp]; simp)
              omega
          exact h2 this p
        · rw [if_neg hz]
          exact h1 p (d - 1) (fun x hx => by have := hr3 x hx d (.head _); omega) (fun x hx => by
            rcases List.mem_cons.1 hx with rfl | hx
            · omega
            · have := hr4 x hx; omega) (by omega)
      rw [day_send hf]
      congr 1
      refine posts_from h (pre ++ [d]) l _ (by rw [List.append_assoc]; exact hp) (fun p d' g1 g2 g3 => ?_) fun he => by simp at he
      refine same_bills (counts_same (g1 d (by simp)) fun x hx => ?_)
      rw [← hp] at hx
      rcases List.mem_append.1 hx with hx | hx
      · have := hr3 x hx d (.head _); omega
      · rcases List.mem_cons.1 hx with rfl | hx
        · omega
        · have := g2 x hx; omega
theorem posts_eq {n : NetG} (h : Valid n) {known : Int} : postsR n known = postsN n known := by
  unfold postsR postsN postsFrom
  rw [days_eq h, List.drop_zero]
  exact posts_from h [] (datesN n) _ rfl (fun p d _ h2 _ => (no_bills h (counts_none h2)).symm) fun _ _ => rfl
end Go.Proofs.YtpnnmklacialgaaGreat
namespace Go.Proofs.YtpnnmklacialgaaGreat
open Go.Conc
attribute [local irreducible] WP OpF OpX CallW SemH retQ AnyF RoundW WM OpsM CallM
def PostSm (x : PostG) : Prop := -7000000000 ≤ x.gas - x.penalty ∧ x.gas - x.penalty ≤ 7000000000
theorem bill_small {n : NetG} (h : Valid n) {p k : Int} {i : Nat} (hi : i < n.mains.length) : 0 ≤ (billAt (billsN n p k) i).gas ∧ (billAt (billsN n p k) i).gas ≤ 6000000000 ∧ 0 ≤ (billAt (billsN n p k) i).penalty ∧ (billAt (billsN n p k) i).penalty ≤ 60000000 := by
  have hb := billsN_bd h (p := p) (k := k) (i := i)
  have hl : i < (billsN n p k).length := by rw [billsN_len]; exact hi
  have e : (billAt (billsN n p k) i).gas = gasI n p k i := by
    rw [← billAt_get hl]
    exact congrArg BillG.gas (bill2_at (n := n) (p := p) (k := k) (j := n.faults.length) hl)
  have hg := gas_small h (p := p) (k := k) hi
  unfold BillOk at hb
  rw [e]
  omega
theorem was_small {n : NetG} (h : Valid n) {p d : Int} {i : Nat} (hi : i < n.mains.length) : 0 ≤ (billAt (wasN n p d) i).gas ∧ (billAt (wasN n p d) i).gas ≤ 6000000000 ∧ 0 ≤ (billAt (wasN n p d) i).penalty ∧ (billAt (wasN n p d) i).penalty ≤ 60000000 := by
  unfold wasN
  split
  · have : billAt (List.replicate n.mains.length zB) i = zB := by
      unfold billAt
      rw [List.getD_eq_getElem?_getD, List.getElem?_replicate]
      split <;> rfl
    rw [this]
    unfold zB
    simp
  · exact bill_small h hi
theorem posts_small {n : NetG} (h : Valid n) {known : Int} {x : PostG} (hx : x ∈ postsN n known) : PostSm x := by
  unfold postsN postsFrom at hx
  obtain ⟨d, _, hx⟩ := List.mem_flatMap.1 hx
  split at hx
  · unfold sendN sendFrom at hx
    obtain ⟨i, hi, hx⟩ := List.mem_flatMap.1 hx
    have hi2 : i < n.mains.length := by have := List.mem_range'_1.1 hi; omega
    unfold sendRow at hx
    obtain ⟨p, _, hx⟩ := List.mem_flatMap.1 hx
    unfold postAt at hx
    split at hx
    · cases hx
    · rw [List.mem_singleton.1 hx]
      have h1 := bill_small h (p := p) (k := d) hi2
      have h2 := was_small h (p := p) (d := d) hi2
      unfold PostSm
      simp only
      omega
  · cases hx
theorem balT_bd {l : List PostG} {main : Int} (h : ∀ x ∈ l, PostSm x) : ∀ {j : Nat}, j ≤ l.length → -(7000000000 * (j : Int)) ≤ balT l main j ∧ balT l main j ≤ 7000000000 * (j : Int)
  | 0, _ => by simp [balT]
  | j + 1, hj => by
    have ih := balT_bd (main := main) h (j := j) (by omega)
    have hx := h _ (List.getElem_mem (show j < l.length by omega))
    unfold PostSm at hx
    rw [balT_succ (by omega)]
    split <;> omega
theorem bal_ok {n : NetG} (h : Valid n) {main known : Int} : BalOk n main known := by
  intro j hj
  have hl := postsN_len h (known := known)
  have := balT_bd (main := main) (fun x hx => posts_small h (known := known) hx) hj
  omega
theorem sorts_ok {n : NetG} : SortsOk n := fun h => by
  have hu := h.u60
  have hr := h.r60
  have hf := h.f60
  refine ⟨sortOk_all ?_, sortOk_all ?_⟩
  · have := timesL_len h
    omega
  · have := nightsL_len h
    omega
theorem asked_owed {n : NetG} {main p k : Int} : askedE n (oneI main) p k = owedE n main p k := by
  unfold askedE owedE
  by_cases hv : validB n = true
  · rw [if_pos hv, if_pos hv]
    have hV := valid_of hv
    have hp : (oneI main ≠ 0 ∧ placeF n (oneI main) < 0) ↔ placeF n main < 0 := by
      unfold oneI
      by_cases hm : main = 0
      · rw [if_pos hm]
        subst hm
        have hz : ∀ id : Int, id ≤ 0 → placeF n id < 0 := fun id hid => by
          rcases Int.lt_or_le (placeF n id) 0 with h1 | h1
          · exact h1
          · obtain ⟨_, hq, hqe⟩ := idx_spec h1
            have := (hV.mains _ (List.getElem_mem hq)).1
            simp only [mainOk, Bool.and_eq_true, within_iff] at this
            omega
        exact ⟨fun _ => hz 0 (by decide), fun _ => ⟨by decide, hz (-1) (by decide)⟩⟩
      · rw [if_neg hm]
        exact ⟨fun h => h.2, fun h => ⟨hm, h⟩⟩
    by_cases h1 : placeF n main < 0
    · rw [if_pos (hp.2 h1), if_pos h1]
    · rw [if_neg (fun h2 => h1 (hp.1 h2)), if_neg h1]
      unfold lookE
      rw [if_pos hv]
  · rw [if_neg hv, if_neg hv]
theorem owed_eq {n : NetG} {main p k : Int} : owedR n main p k = owedG n main p k := by
  unfold owedR owedG
  rw [asked_owed]
  rfl
theorem look_posts {n : NetG} {known : Int} : askedE n 0 0 known = lookE n 0 known := asked_look
theorem postsRG_eq {n : NetG} {known : Int} : postsRG n known = postsG n known := by
  unfold postsRG postsG
  rw [look_posts]
  split
  · exact posts_eq (look_valid (n := n) (p := 0) (k := known) ‹_›)
  · rfl
theorem cp_eq {n : NetG} {known : Int} {l : List PostG} : cpR n known l = cpG n known l := by
  unfold cpR cpG
  rw [look_posts]
  split
  · rw [posts_eq (look_valid (n := n) (p := 0) (k := known) ‹_›)]
  · rfl
theorem balE_owed {n : NetG} {main known : Int} : balE n main known = owedE n main 0 known := rfl
theorem bal_eq {n : NetG} {main known : Int} : balRG n main known = balG n main known := by
  unfold balRG balG
  rw [asked_owed, balE_owed]
  split
  · rename_i h0
    have hv : Valid n := asked_ok (n := n) (main := oneI main) (p := 0) (k := known) (by rw [asked_owed]; exact h0)
    rw [posts_eq hv]
  · rfl
theorem postsR_side {n : NetG} {main known : Int} (h : Valid n) : (postsR n known).length ≤ 3000000 ∧ (∀ x ∈ postsR n known, PostOk x) ∧ ∀ j, j ≤ (postsR n known).length → -4000000000000000000 ≤ balT (postsR n known) main j ∧ balT (postsR n known) main j ≤ 4000000000000000000 := by
  rw [posts_eq h]
  exact ⟨Nat.le_trans (postsN_len h) (by omega), fun x hx => postsN_ok h hx, bal_ok h⟩
theorem c26' (ro : Nat → Prop) (rd : Bool) (S R : Ents) (n : NetG) (a b c d e v : Value) (known : Int) (l : List PostG) (hn : NetV R a b c d e n) (hR : ∀ x ∈ R, x.mine = false ∧ x ∈ S) (hv : SlV S v l) : CallW Tryz.prog (Em ro .plain rd) 26 #[.agg #[a, b, c, d, e], iv known, v] S fun r S' => r = iv (cpG n known l) ∧ S' = S :=
  c26 ro rd S R n a b c d e v known l hn hR sorts_ok hv
theorem c27' (E : Env) (S : Ents) (n : NetG) (a b c d e v : Value) (known : Int) (l : List PostG) (hn : NetV S a b c d e n) (hv : SlV S v l) : CallW Tryz.prog E 27 #[.agg #[a, b, c, d, e], iv known, v] S fun r S' => r = iv (cpG n known l) ∧ S' = S := by
  have := c27 E S n a b c d e v known l hn hv fun h => (postsR_side (main := 0) h).1
  rwa [cp_eq] at this
theorem c20' (E : Env) (S : Ents) (n : NetG) (a b c d e : Value) (main p k : Int) (hn : NetV S a b c d e n) :
    CallW Tryz.prog E 20 #[.agg #[a, b, c, d, e], iv main, .agg #[iv p, iv k]] S fun r S' => r = .tuple #[.agg (billC (owedG n main p k)), iv (owedE n main p k)] ∧ S' = S := by
  have := c20 E S n a b c d e main p k hn
  rwa [owed_eq, asked_owed] at this
theorem c22' (E : Env) (S : Ents) (n : NetG) (a b c d e : Value) (known : Int) (hn : NetV S a b c d e n) : CallW Tryz.prog E 22 #[.agg #[a, b, c, d, e], iv known] S fun r S' => ∃ v Δ, r = .tuple #[v, iv (lookE n 0 known)] ∧ Own v (postsG n known) Δ ∧ S' = Δ ++ S := by
  have := c22 E S n a b c d e known hn
  rwa [postsRG_eq, look_posts] at this
theorem c24' (E : Env) (S : Ents) (n : NetG) (a b c d e : Value) (main known : Int) (hn : NetV S a b c d e n) :
    CallW Tryz.prog E 24 #[.agg #[a, b, c, d, e], iv main, iv known] S fun r S' => r = .tuple #[iv (balG n main known), iv (balE n main known)] ∧ S' = S := by
  have := c24 E S n a b c d e main known hn postsR_side
  rwa [bal_eq, asked_owed, ← balE_owed] at this
theorem post_self {xs ys : List PostG} (h : xs = ys) : decide (xs = ys) = true := decide_eq_true h
theorem c4 (S : Ents) (hS : ∀ x ∈ S, x.mine = false) (n : NetG) (a b c d e v : Value) (main p k : Int) (l : List PostG) (hn : NetV S a b c d e n) (hv : SlV S v l) :
    ∃ code, Tryz.f4.body = some code ∧ ∀ ro, WP Tryz.prog (Em ro .plain false) 4 Tryz.f4.ntmps code (retQ Tryz.prog ⟨ro, .plain⟩ Tryz.f4.results fun r S' => r = .bool true ∧ List.Sublist S S') (den (dens [.agg #[a, b, c, d, e], .agg #[iv main, iv p, iv k], v] 0) fun _ => undef) [] S := by
  refine ⟨_, rfl, fun ro => ?_⟩
  have hpl := postsG_len (n := n) (known := k)
  repeat' first|(refine gX ?_;first|refine o_v rfl rfl ?_|(refine o_splitD rfl rfl rfl ?_ ?_<;>intro h)|(refine o_split rfl rfl rfl ?_ ?_<;>intro h<;>fail_if_success exact Bool.noConfusion h)|(refine gL ?_;first|refine o_load rfl rfl rfl rfl ?_|refine o_loadR rfl rfl rfl (by omega) rfl rfl ?_|refine o_loadW rfl rfl rfl rfl ?_|refine o_loadK rfl rfl rfl ?_)|(refine gF ?_;first|refine o_fieldI rfl rfl rfl rfl ?_|refine o_field rfl rfl rfl rfl ?_)|(refine gB ?_;first|refine o_eqS (k := 2) rfl rfl rfl rfl rfl rfl rfl rfl ?_|refine o_eqNil rfl rfl rfl rfl rfl ?_)|(refine gC ?_;first|refine o_callF rfl rfl rfl (c19 _ _ n _ _ _ _ _ main p k (hn.sub Sb.h)) ?_|refine o_callF rfl rfl rfl (c20' _ _ n _ _ _ _ _ main p k (hn.sub Sb.h)) ?_|(refine o_callZ rfl rfl rfl (c21 ro false _ S n _ _ _ _ _ k hn (fun x hx => ⟨hS x hx, Sb.h.subset hx⟩) sorts_ok) ?_;rintro r _ ⟨v1, Δ1, rfl, ho1, rfl⟩;refine ⟨inferInstance, ?_⟩)|(refine o_callZ rfl rfl rfl (c22' _ _ n _ _ _ _ _ k (hn.sub Sb.h)) ?_;rintro r _ ⟨v2, Δ2, rfl, ho2, rfl⟩;refine ⟨inferInstance, ?_⟩)|refine o_callF rfl rfl rfl (c23 ro false _ S n _ _ _ _ _ main k hn (fun x hx => ⟨hS x hx, Sb.h.subset hx⟩) sorts_ok fun h => bal_ok h) ?_|refine o_callF rfl rfl rfl (c24' _ _ n _ _ _ _ _ main k (hn.sub Sb.h)) ?_|refine o_callF (v := .bool true) rfl rfl rfl (o_boolT (c25 _ _ (postsG n k) (postsG n k) _ _ (ho1.slv.sub Sb.h) (ho2.slv.sub Sb.h) (by omega)) (post_self rfl)) ?_|refine o_callF rfl rfl rfl (c26' ro false _ S n _ _ _ _ _ _ k l hn (fun x hx => ⟨hS x hx, Sb.h.subset hx⟩) (hv.sub Sb.h)) ?_|refine o_callF rfl rfl rfl (c27' _ _ n _ _ _ _ _ _ k l (hn.sub Sb.h) (hv.sub Sb.h)) ?_|refine o_callF rfl rfl rfl (c18 ro false _) ?_)|(refine gS ?_;first|refine o_store rfl rfl rfl rfl rfl rfl ?_|refine o_storeW rfl rfl rfl rfl rfl rfl ?_)|(refine o_allocZ rfl rfl ?_;intro _)|(refine o_box rfl rfl rfl ?_;intro _)|refine o_skip rfl rfl ?_|refine o_skipN rfl rfl ?_|(refine o_splitP rfl ?_ ?_<;>intro h<;>fail_if_success exact Bool.noConfusion h))|refine o_head0 rfl ?_|refine o_end ?_|refine o_head1 rfl ?_|refine wp_seq ?_|refine o_region ?_|refine w_retA (vs:=[_]) rfl (Res.tmp rfl Res.nil) ?_|refine w_ret (S) (vs:=[_]) rfl (Res.tmp rfl Res.nil) ?_|(show WP _ _ _ _ (.region 8 _ true) _ _ _ _;refine o_drawn [Zf 0,Zf 1,Zf 2,Zf 3,Zf 4,Zf 5,Zf 6,Zf 7,Zf 8,Zf 9,Zf 10,Zt 11,Zf 12,Zf 13,Zf 14,Zf 15,Zf 16,Zf 17,Zf 18,Zf 19,Zf 20,Zf 21,Zf 22,Zf 23,Zf 24,Zf 25,Zf 26,Zf 27,Zf 28,Zf 29,Zf 30,Zf 31,Zf 32,Zt 34,Zt 35,Zt 36,Zt 37,Zf 33,Zt 38,Zf 39,Zf 40,Zf 41,Zt 42,Zf 43,Zf 44] mixed (by kernel_rfl) ?_)
  all_goals first|exact ⟨rfl, Sb.h⟩|exact (h rfl).elim|skip
  all_goals trace_state
end Go.Proofs.YtpnnmklacialgaaGreat
namespace Go.Proofs.YtpnnmklacialgaaGreat
open Go.Conc
structure Ext (w w' : World) : Prop where
  tape : w'.tape = w.tape
  os : w'.os = w.os
  output : w'.output = w.output
  size : w.heap.size ≤ w'.heap.size
theorem Ext.refl (w : World) : Ext w w := ⟨rfl, rfl, rfl, Nat.le_refl _⟩
theorem Ext.trans {a b c : World} (h : Ext a b) (k : Ext b c) : Ext a c := ⟨k.tape.trans h.tape, k.os.trans h.os, k.output.trans h.output, Nat.le_trans h.size k.size⟩
theorem Ext.rely {O : Nat → Prop} {m : Mode} {w w' : World} (h : Rely O m w w') : Ext w w' := ⟨h.tape, h.os, h.output, h.size⟩
section
variable {P : Program}
theorem xm_mono {m : Mode} {g : Goroutine} {w : World} {O : Nat → Prop} {K K' : Mode → Goroutine → World → (Nat → Prop) → Prop} (h : XM P m g w O K) (hk : ∀ m' g' O', K m' g' w O' → K' m' g' w O') : XM P m g w O K' := by
  obtain ⟨h1, h2, h3⟩ := h
  refine ⟨h1, h2, ?_⟩
  cases ht : m.tag with
  | plain =>
    simp only [ht] at h3 ⊢
    obtain ⟨g', child, c, L, O', ro', s, r, tm, a1, a2, a3, a4, a5, a6⟩ := h3
    exact ⟨g', child, c, L, O', ro', s, r, tm, a1, a2, a3, a4, a5, hk _ _ _ a6⟩
  | recv c L =>
    simp only [ht] at h3 ⊢
    obtain ⟨z, a1, a2⟩ := h3
    refine ⟨z, a1, ?_⟩
    cases L with
    | nil => obtain ⟨ro', O', a3⟩ := a2; exact ⟨ro', O', hk _ _ _ a3⟩
    | cons v L => exact hk _ _ _ a2
  | send c L => simp only [ht] at h3
theorem Run.ext {Stop : StopAt} {m : Mode} {g : Goroutine} {w : World} {O : Nat → Prop} (h : Run P true (XM P) Stop m g w O) : ∀ w0, Ext w0 w → Run P true (XM P) (fun m g w O => Stop m g w O ∧ Ext w0 w) m g w O := by
  induction h with
  | stop h => exact fun w0 he => .stop fun w₁ hr => ⟨h w₁ hr, he.trans (.rely hr)⟩
  | walk g' w' es hs h _ ih =>
    refine fun w0 he => .walk g' w' es hs h fun w₁ hr => ih w₁ hr w0 ?_
    have hg := (h w₁ hr).2
    exact (he.trans (.rely hr)).trans ⟨hg.tape, hg.os, hg.output, hg.size⟩
  | extra K h _ ih =>
    intro w0 he
    refine .extra (fun m' g' w' O' => K m' g' w' O' ∧ Ext w0 w') (fun w₁ hr => ?_) fun m' g' w' O' hk => ih m' g' w' O' hk.1 w0 hk.2
    exact xm_mono (h w₁ hr) fun m' g' O' hk => ⟨hk, he.trans (.rely hr)⟩
theorem top_run {ro : Nat → Prop} {f : FuncId} {fr : Func} {c : Code} {args : List Value} {S : Ents} {W : World} {O : Nat → Prop} {R : Value → Ents → Prop} {Post : Value → World → Prop} (hf : P.funcs[f]? = some fr) (hb : fr.body = some c) (hargs : Nat.ble args.length fr.ntmps = true) (hin : P.inits.idxOf? f = none)
    (h : WP P ⟨true, XM P, ⟨ro, .plain⟩, false⟩ f fr.ntmps c (retQ P ⟨ro, .plain⟩ fr.results R) (den (dens args 0) fun _ => undef) [] S) (hh : Holds S W O ro)
    (hp : ∀ v S' w' O', R v S' → Holds S' w' O' ro → Ext W w' → Post v w') : Run P true (XM P) (StM P Post) ⟨ro, .plain⟩ (G (Frame.enter P f args.toArray .normal) []) W O := by
  have hag : Agree fr.ntmps (args.toArray ++ Array.replicate (fr.ntmps - args.toArray.size) undef) (den (dens args 0) fun _ => undef) := by
    have := agree_enter (ntm := fr.ntmps) (args := args.toArray) (by simpa using Nat.le_of_ble_eq_true hargs)
    refine ⟨this.size, fun i => ?_⟩
    rw [this.get, den_dens]
    simp [enterT, Array.getD, List.getD_eq_getElem?_getD]
    split <;> simp_all
  rw [enter_st args.toArray hf hb]
  -- to the frame on its way out
  let St : StopAt := fun m g w O => m = ⟨ro, .plain⟩ ∧ ∃ arr k t' S', g = G { (base f).st arr [] k with mode := .returning } [] ∧ Agree fr.ntmps arr t' ∧ SemH P ⟨ro, .plain⟩ (resultsT fr.results t') S' R ∧ Holds (S' ++ []) w O ro
  have h1 : Run P true (XM P) St ⟨ro, .plain⟩ (G ((base f).st (args.toArray ++ Array.replicate (fr.ntmps - args.toArray.size) undef) [] [.code c]) []) W O := by
    refine h [] (base f) _ [] [] W O St rfl ⟨by simp [base], fun _ => rfl⟩ hag (by rw [List.append_nil]; exact hh) fun e t' ds' S' arr' w' O' q ha hh' => ?_
    cases e with
    | normal =>
      obtain ⟨rfl, hs⟩ := q
      exact RunE.silent (E := ⟨true, XM P, ⟨ro, .plain⟩, false⟩) (g' := G { (base f).st arr' [] [] with mode := .returning } []) rfl (fun _ => by simp [G, stepG, stepG.exec, Frame.st, base, default, instInhabitedFrame.default]) fun w₁ hr => Run.stop fun w₂ hr₂ => ⟨rfl, arr', [], t', S', rfl, ha, hs, (hh'.rely hr).rely hr₂⟩
    | ret =>
      obtain ⟨rfl, hs⟩ := q
      intro k'
      exact RunE.silent (E := ⟨true, XM P, ⟨ro, .plain⟩, false⟩) (g' := G { (base f).st arr' [] (.code .ret :: k') with mode := .returning } []) rfl (fun _ => by simp [G, stepG, stepG.exec, Frame.st, base, default, instInhabitedFrame.default]) fun w₁ hr => Run.stop fun w₂ hr₂ => ⟨rfl, arr', _, t', S', rfl, ha, hs, (hh'.rely hr).rely hr₂⟩
    | exit id => exact q.elim
    | goto l => exact q.elim
    | panic c => exact q.elim
    | outgrown => exact q.elim
  refine (Run.ext h1 W (.refl _)).bind fun m g w O hst => ?_
  obtain ⟨⟨rfl, arr, k, t', S', rfl, ha, hs, hh'⟩, hext⟩ := hst
  refine Run.stop fun w₁ hr => ⟨rfl, rfl, ?_⟩
  obtain ⟨v, w', es, S'', hrun, hb', hh2, hes, hR⟩ := hs [] O w₁ w₁ #[] (Base.refl O w₁) (by rw [grow_self]; exact hh'.rely hr) (by simp)
  have hrun' : Sem.runT P (results fr arr) w₁ #[] = (.ok v w', es) := by rw [results_eq ha]; exact hrun
  refine ⟨v, w', seen P f es, ?_, fun e he => hes e (seen_sub e he), hp v S'' w' _ hR (by rw [List.append_nil] at hh2; exact hh2) ((hext.trans (.rely hr)).trans ⟨hb'.tape, hb'.os, hb'.output, hb'.size⟩)⟩
  have hfn : (base f).fn = f := rfl
  have hk : (base f).kind = .normal := rfl
  simp [G, stepG, unwind, doReturn, Frame.st, hfn, hf, hrun', hk, GStep.after, hin, -Sem.runT_eq]
def allE (w : World) : Ents := w.heap.toList.zipIdx.map fun p => ⟨p.2, false, p.1⟩
theorem allE_mem {w : World} {b : Nat} {o : Obj} (h : w.heap[b]? = some o) : (⟨b, false, o⟩ : Ent) ∈ allE w := by
  unfold allE
  rw [List.mem_map]
  refine ⟨(o, b), ?_, rfl⟩
  rw [List.mem_zipIdx_iff_getElem?]
  simpa using h
theorem allE_holds (w : World) : Holds (allE w) w (fun _ => False) fun b => b < w.heap.size := by
  have key : ∀ e ∈ allE w, w.heap[e.blk]? = some e.obj ∧ e.mine = false := by
    intro e he
    unfold allE at he
    obtain ⟨⟨o, b⟩, hm, rfl⟩ := List.mem_map.1 he
    rw [List.mem_zipIdx_iff_getElem?] at hm
    exact ⟨by simpa using hm, rfl⟩
  exact ⟨fun e he => ⟨(key e he).1, .inr ⟨(key e he).2, lt_of_some (key e he).1⟩⟩, apart_ro fun e he => (key e he).2⟩
theorem allE_below {w w' : World} {O ro : Nat → Prop} {S' : Ents} (hs : List.Sublist (allE w) S') (hh : Holds S' w' O ro) (he : Ext w w') : RowKit.Below w.heap.size w w' :=
  ⟨he.os, he.tape, he.output, he.size, fun k hk => by
    have h1 : w.heap[k]? = some w.heap[k] := Array.getElem?_eq_getElem hk
    rw [h1]
    exact (hh.each _ (hs.subset (allE_mem h1))).1⟩
theorem law_runs {f : FuncId} {fr : Func} {c : Code} {args : List Value} {W : World} (hf : P.funcs[f]? = some fr) (hb : fr.body = some c) (hargs : Nat.ble args.length fr.ntmps = true) (hin : P.inits.idxOf? f = none)
    (h : ∀ ro, WP P ⟨true, XM P, ⟨ro, .plain⟩, false⟩ f fr.ntmps c (retQ P ⟨ro, .plain⟩ fr.results fun r S' => r = .bool true ∧ List.Sublist (allE W) S') (den (dens args 0) fun _ => undef) [] (allE W)) :
    ∃ N last o w' t', runNT P (N + 1) (solo (G (Frame.enter P f args.toArray .normal) []) W) #[] = (.ended o w', t') ∧ runN P N (solo (G (Frame.enter P f args.toArray .normal) []) W) = .next last ∧ step P last = .ended o w' ∧
      Conc.Good P (fun v w' => v = .bool true ∧ RowKit.Below W.heap.size W w') last o w' t' :=
  run_good (top_run hf hb hargs hin (h _) (allE_holds W) fun v S' w' O' hR hh he => ⟨hR.1, allE_below hR.2 hh he⟩) rfl
end
end Go.Proofs.YtpnnmklacialgaaGreat
namespace Go.Proofs.YtpnnmklacialgaaGreat
open Go.Conc
def intsOnly (P : Program) : Nat → TypeId → Bool
  | 0, _ => false
  | n + 1, t => match P.underlying t with
    | some (.int k) => decide (k = .i64)
    | some (.struct fs) => (List.range (P.cellsOf t)).all fun j => fs.toList.any fun f => intsOnly P n f.type && (decide (f.offset ≤ j) && decide (j < f.offset + P.cellsOf f.type))
    | _ => false
section
variable {H : Type} {enc : TypeId × Value → H} {P : Program} {W : World}
theorem rd_all {base : Nat} {spare : Nat → Bool} {held : Bool} : ∀ {n fuel : Nat} {t : TypeId} {cs : List Value} {x : DataW H × List MemPlace}, intsOnly P n t = true → DataW.trod enc P W base spare held fuel t cs = some x → ∀ v ∈ cs, ∃ z, v = .int .i64 z
  | 0, _, _, _, _, h, _ => by simp [intsOnly] at h
  | n + 1, fuel, t, cs, x, h, hx => by
    simp only [intsOnly] at h
    split at h
    · rename_i k hu
      have := of_decide_eq_true h
      subst this
      obtain ⟨m, rfl, _, _⟩ := DataW.trod_int hu hx
      intro v hv
      exact ⟨m, List.mem_singleton.1 hv⟩
    · rename_i fs hu
      obtain ⟨xs, m, rfl, _, hl, hlen, hf⟩ := DataW.trod_struct hu hx
      intro v hv
      obtain ⟨j, hj, rfl⟩ := List.mem_iff_getElem.1 hv
      have h1 := List.all_eq_true.1 h j (List.mem_range.2 (by omega))
      obtain ⟨f, hfm, h2⟩ := List.any_eq_true.1 h1
      simp only [Bool.and_eq_true, decide_eq_true_eq] at h2
      obtain ⟨h3, h4, h5⟩ := h2
      obtain ⟨i, hi, rfl⟩ := List.mem_iff_getElem.1 hfm
      have hi' : i < fs.size := by simpa using hi
      have h6 := hf i fs[i] (Array.getElem?_eq_getElem hi')
      rw [List.getElem?_eq_getElem (by omega)] at h6
      refine rd_all (by simpa using h3) h6 _ ?_
      rw [List.mem_iff_getElem?]
      refine ⟨j - fs[i].offset, ?_⟩
      simp only [Array.getElem_toList] at h4 h5
      rw [List.getElem?_take, if_pos (by omega), List.getElem?_drop, show fs[i].offset + (j - fs[i].offset) = j by omega, List.getElem?_eq_getElem hj]
    · cases h
theorem rd_fun {base : Nat} {spare : Nat → Bool} {held : Bool} {n fuel sz : Nat} {t : TypeId} {cs : List Value} {x : DataW H × List MemPlace} (hi : intsOnly P n t = true) (hs : cs.length = sz) (h : DataW.trod enc P W base spare held fuel t cs = some x) :
    ∃ f : Nat → Int, cs = (List.range sz).map fun k => Value.int .i64 (f k) := by
  have ha := rd_all hi h
  obtain ⟨f, hf⟩ := Go.Deep.choose_lt (α := Int) (n := sz) (p := fun k z => cs[k]? = some (.int .i64 z)) fun k hk => by
    obtain ⟨z, hz⟩ := ha _ (List.getElem_mem (show k < cs.length by omega))
    exact ⟨z, by rw [List.getElem?_eq_getElem (by omega), hz]⟩
  refine ⟨f, ?_⟩
  apply List.ext_getElem?
  intro k
  by_cases hk : k < sz
  · rw [hf k hk]
    simp [hk]
  · rw [List.getElem?_eq_none (by omega), List.getElem?_eq_none (by simp; omega)]
end
class Dec (α : Type) [En : Enc α] where
  dec : (Nat → Int) → α
  ok : ∀ f, En.enc (dec f) = ((List.range En.sz).map fun k => Value.int .i64 (f k)).toArray
instance : Dec Int := ⟨fun f => f 0, fun f => rfl⟩
instance : Dec MainG := ⟨fun f => ⟨f 0, f 1, ⟨f 2, f 3⟩⟩, fun f => rfl⟩
instance : Dec UseG := ⟨fun f => ⟨f 0, f 1, f 2, ⟨f 3, f 4⟩, ⟨f 5, f 6⟩, f 7, f 8⟩, fun f => rfl⟩
instance : Dec ReadG := ⟨fun f => ⟨f 0, f 1, f 2, ⟨f 3, f 4⟩, f 5, f 6⟩, fun f => rfl⟩
instance : Dec FaultG := ⟨fun f => ⟨f 0, f 1, f 2, f 3, f 4, f 5⟩, fun f => rfl⟩
instance : Dec PriceG := ⟨fun f => ⟨f 0, f 1, f 2⟩, fun f => rfl⟩
instance : Dec PostG := ⟨fun f => ⟨f 0, f 1, f 2, f 3, f 4⟩, fun f => rfl⟩
section
variable {H : Type} {enc : TypeId × Value → H} {P : Program} {W : World}
theorem rd_slice {α : Type} [En : Enc α] [De : Dec α] {n fuel : Nat} {t e : TypeId} {cs : List Value} {x : DataW H × List MemPlace} (ht : P.underlying t = some (.slice e)) (hi : intsOnly P n e = true) (hsz : P.cellsOf e = En.sz)
    (h : DataW.trod enc P W 0 (fun _ => true) true fuel t cs = some x) (hw : ∀ k ∈ x.1.weights P t, k ≤ reachBytes) : ∃ (v : Value) (xs : List α), cs = [v] ∧ SlV (allE W) v xs ∧ xs.length * P.bytesOf e ≤ reachBytes := by
  rcases Go.Deep.open_slice ht h with ⟨rfl, rfl⟩ | ⟨a, len, cap, m, n', D, Pl, rfl, _, hl, _, hm, rfl, hx⟩
  · exact ⟨_, [], rfl, ⟨none, 0, rfl, Nat.le_refl _, fun h => absurd h (by simp)⟩, by simp⟩
  · simp only [if_true] at hm
    subst hm
    have hpos := En.pos
    obtain ⟨F, hF⟩ := Go.Deep.choose_lt (α := Nat → Int) (n := m) (p := fun i f => ∀ k, k < En.sz → W.cell? ((a.add (i * En.sz)).add k) = some (.int .i64 (f k))) fun i hi' => by
      obtain ⟨cs', h1, h2⟩ := hx i hi'
      rw [hsz] at h1
      obtain ⟨_, h3, h4⟩ := World.cells?_some h1
      obtain ⟨f, rfl⟩ := rd_fun hi h3 h2
      exact ⟨f, fun k hk => by rw [h4 k hk]; simp [hk]⟩
    have hlen : ((List.range len).map fun i => De.dec (F i)).length = len := by simp
    refine ⟨_, (List.range len).map fun i => De.dec (F i), rfl, ⟨some a, m, by rw [hlen], by rw [hlen]; exact hl, fun h0 => ?_⟩, ?_⟩
    · rw [hlen] at h0
      have h1 := hF 0 (by omega) 0 hpos
      have e0 : (a.add (0 * En.sz)).add 0 = a := by simp [Addr.add]
      rw [e0] at h1
      unfold World.cell? at h1
      split at h1
      · rename_i c ty fz hb
        have hsp : a.spot = none := by
          cases hs : a.spot with
          | none => rfl
          | some q => rw [hs] at h1; simp at h1
        obtain ⟨b, off, sp⟩ := a
        simp only at hsp
        subst hsp
        refine ⟨rfl, false, c, ty, fz, allE_mem hb, ?_⟩
        intro i hi' k hk
        have hil : i < len := by simpa using hi'
        have h2 := hF i (by omega) k hk
        rw [Go.Deep.add_add, add_mk] at h2
        unfold World.cell? at h2
        simp only at hb
        simp only [hb, Option.isSome_none, Bool.false_eq_true, if_false] at h2
        show c[off + i * En.sz + k]? = _
        rw [Nat.add_assoc, h2, List.getElem_map, List.getElem_range, De.ok]
        simp [hk]
      · cases h1
    · rw [hlen]
      have := hw ((len + (m - len)) * P.bytesOf e) (by simp [DataW.weights, ht])
      exact Nat.le_trans (Nat.mul_le_mul_right _ (by omega)) this
theorem struct_parts {t : TypeId} {fs : Array Field} {fuel : Nat} {cs : List Value} {x : DataW H × List MemPlace} (hu : P.underlying t = some (.struct fs)) (h : DataW.trod enc P W 0 (fun _ => true) true fuel t cs = some x) (hw : ∀ k ∈ x.1.weights P t, k ≤ reachBytes) :
    cs.length = P.cellsOf t ∧ ∀ (i : Nat) (f : Field), fs[i]? = some f → ∃ (n : Nat) (y : DataW H × List MemPlace), DataW.trod enc P W 0 (fun _ => true) true n f.type ((cs.drop f.offset).take (P.cellsOf f.type)) = some y ∧ ∀ k ∈ y.1.weights P f.type, k ≤ reachBytes := by
  obtain ⟨xs, n, rfl, rfl, hl, hlen, hf⟩ := DataW.trod_struct hu h
  refine ⟨hl, fun i f hfi => ?_⟩
  have hi : i < fs.size := (Array.getElem?_eq_some_iff.1 hfi).1
  have h1 := hf i f hfi
  rw [List.getElem?_eq_getElem (by omega)] at h1
  refine ⟨n, xs[i], h1, fun k hk => hw k ?_⟩
  simp only [DataW.weights, hu]
  refine DataW.weights_mem_each (j := i) (t := f.type) (d := xs[i].1) ?_ ?_ k hk
  · rw [List.getElem?_map, Array.getElem?_toList, hfi]; rfl
  · rw [List.getElem?_map, List.getElem?_eq_getElem (by omega)]; rfl
end
theorem array5 {cs : Array Value} (h : cs.size = 5) : ∃ a b c d e, cs = #[a, b, c, d, e] := by
  obtain ⟨l⟩ := cs
  simp only [List.size_toArray] at h
  match l, h with
  | [a, b, c, d, e], _ => exact ⟨a, b, c, d, e, rfl⟩
structure NetT (P : Program) (f0 f1 f2 f3 f4 : Field) : Prop where
  u : P.underlying 28 = some (.struct #[f0, f1, f2, f3, f4])
  c : P.cellsOf 28 = 5
  fs : [f0, f1, f2, f3, f4].map (fun f => (f.type, f.offset)) = [(22, 0), (23, 1), (24, 2), (25, 3), (26, 4)]
  cs : [22, 23, 24, 25, 26].map P.cellsOf = [1, 1, 1, 1, 1]
  us : [22, 23, 24, 25, 26].map P.underlying = [some (.slice 72), some (.slice 74), some (.slice 76), some (.slice 78), some (.slice 104)]
  es : [72, 74, 76, 78, 104].map P.cellsOf = [4, 9, 7, 6, 3]
  bs : [72, 74, 76, 78, 104].map P.bytesOf = [32, 72, 56, 48, 24]
  is : [72, 74, 76, 78, 104].map (intsOnly P 5) = [true, true, true, true, true]
section
variable {H : Type} {enc : TypeId × Value → H} {P : Program} {W : World}
theorem rd_netP {base : Nat} {v : Value} {d : DataW H} {p : List MemPlace} {f0 f1 f2 f3 f4 : Field} (N : NetT P f0 f1 f2 f3 f4) (hv : Value.okWide P W .any base 28 v) (h : DataW.Trod enc P W 0 (fun _ => true) true 28 v d p) (hw : ∀ k ∈ d.weights P 28, k ≤ reachBytes) :
    ∃ a b c d e n, v = .agg #[a, b, c, d, e] ∧ NetV (allE W) a b c d e n := by
  obtain ⟨Nu, Nc, Nf, Ncs, Nus, Nes, Nbs, Nis⟩ := N
  simp only [List.map_cons, List.map_nil, List.cons.injEq, and_true] at Ncs Nus Nes Nbs Nis
  obtain ⟨c22, c23, c24, c25, c26⟩ := Ncs
  obtain ⟨u22, u23, u24, u25, u26⟩ := Nus
  obtain ⟨c72, c74, c76, c78, c104⟩ := Nes
  obtain ⟨b72, b74, b76, b78, b104⟩ := Nbs
  obtain ⟨i72, i74, i76, i78, i104⟩ := Nis
  obtain ⟨cs, hve, hsz⟩ := Go.WideShapes.okWide_struct Nu hv
  rw [Nc] at hsz
  obtain ⟨a, b, c, d', e, hcs⟩ := array5 hsz
  subst hcs
  subst hve
  obtain ⟨fuel, hf⟩ := h
  obtain ⟨_, hp⟩ := struct_parts Nu hf hw
  simp only [List.map_cons, List.map_nil, List.cons.injEq, and_true, Prod.mk.injEq] at Nf
  obtain ⟨⟨t0, o0⟩, ⟨t1, o1⟩, ⟨t2, o2⟩, ⟨t3, o3⟩, ⟨t4, o4⟩⟩ := Nf
  obtain ⟨_, y0, h0, w0⟩ := hp 0 f0 rfl
  obtain ⟨_, y1, h1, w1⟩ := hp 1 f1 rfl
  obtain ⟨_, y2, h2, w2⟩ := hp 2 f2 rfl
  obtain ⟨_, y3, h3, w3⟩ := hp 3 f3 rfl
  obtain ⟨_, y4, h4, w4⟩ := hp 4 f4 rfl
  rw [t0] at h0 w0
  rw [t1] at h1 w1
  rw [t2] at h2 w2
  rw [t3] at h3 w3
  rw [t4] at h4 w4
  rw [c22, o0] at h0
  rw [c23, o1] at h1
  rw [c24, o2] at h2
  rw [c25, o3] at h3
  rw [c26, o4] at h4
  obtain ⟨v0, x0, e0, s0, l0⟩ := rd_slice (α := MainG) u22 i72 c72 h0 w0
  obtain ⟨v1, x1, e1, s1, l1⟩ := rd_slice (α := UseG) u23 i74 c74 h1 w1
  obtain ⟨v2, x2, e2, s2, l2⟩ := rd_slice (α := ReadG) u24 i76 c76 h2 w2
  obtain ⟨v3, x3, e3, s3, l3⟩ := rd_slice (α := FaultG) u25 i78 c78 h3 w3
  obtain ⟨v4, x4, e4, s4, l4⟩ := rd_slice (α := PriceG) u26 i104 c104 h4 w4
  simp [Value.cells] at e0 e1 e2 e3 e4
  subst e0 e1 e2 e3 e4
  rw [b72, reachBytes] at l0
  rw [b74, reachBytes] at l1
  rw [b76, reachBytes] at l2
  rw [b78, reachBytes] at l3
  rw [b104, reachBytes] at l4
  exact ⟨_, _, _, _, _, ⟨x0, x1, x2, x3, x4⟩, rfl, ⟨s0, s1, s2, s3, s4, by simp only; omega, by simp only; omega, by simp only; omega, by simp only; omega, by simp only; omega⟩⟩
theorem rd_listP {α : Type} [En : Enc α] [De : Dec α] {base n : Nat} {t e : TypeId} {v : Value} {d : DataW H} {p : List MemPlace} (hu : P.underlying t = some (.slice e)) (hi : intsOnly P n e = true) (hsz : P.cellsOf e = En.sz) (hv : Value.okWide P W .any base t v) (h : DataW.Trod enc P W 0 (fun _ => true) true t v d p) (hw : ∀ k ∈ d.weights P t, k ≤ reachBytes) :
    ∃ xs : List α, SlV (allE W) v xs ∧ xs.length * P.bytesOf e ≤ reachBytes := by
  obtain ⟨a, len, cap, hve⟩ := Go.WideShapes.okWide_slice hu hv
  subst hve
  obtain ⟨fuel, hf⟩ := h
  obtain ⟨v', xs, e, hs, hl⟩ := rd_slice (α := α) hu hi hsz hf hw
  simp only [Value.cells, List.cons.injEq, and_true] at e
  subst e
  exact ⟨xs, hs, hl⟩
theorem rd_structP {base sz n : Nat} {t : TypeId} {fs : Array Field} {v : Value} {d : DataW H} {p : List MemPlace} (hu : P.underlying t = some (.struct fs)) (hi : intsOnly P n t = true) (hc : P.cellsOf t = sz) (hv : Value.okWide P W .any base t v) (h : DataW.Trod enc P W 0 (fun _ => true) true t v d p) :
    ∃ f : Nat → Int, v = .agg ((List.range sz).map fun k => Value.int .i64 (f k)).toArray := by
  obtain ⟨cs, hve, hsz⟩ := Go.WideShapes.okWide_struct hu hv
  subst hve
  obtain ⟨fuel, hf⟩ := h
  obtain ⟨f, hf⟩ := rd_fun hi (sz := sz) (by show cs.toList.length = sz; rw [Array.length_toList]; exact hsz.trans hc) hf
  refine ⟨f, ?_⟩
  simp only [Value.cells] at hf
  rw [← hf]
end
theorem netT : ∃ f0 f1 f2 f3 f4, NetT Tryz.prog f0 f1 f2 f3 f4 := ⟨_, _, _, _, _, Tryz.underlying28, by kernel_rfl, rfl, by kernel_rfl, by kernel_rfl, by kernel_rfl, by kernel_rfl, by kernel_rfl⟩
theorem cellsT66 : Tryz.prog.cellsOf 66 = 5 := by kernel_rfl
theorem intsT66 : intsOnly Tryz.prog 5 66 = true := by kernel_rfl
section
variable {H : Type} {enc : TypeId × Value → H} {W : World}
set_option maxRecDepth 100000 in
theorem rd_net {base : Nat} {v : Value} {d : DataW H} {p : List MemPlace} (hv : Value.okWide Tryz.prog W .any base 28 v) (h : DataW.Trod enc Tryz.prog W 0 (fun _ => true) true 28 v d p) (hw : ∀ k ∈ d.weights Tryz.prog 28, k ≤ reachBytes) :
    ∃ a b c d e n, v = .agg #[a, b, c, d, e] ∧ NetV (allE W) a b c d e n :=
  have ⟨_, _, _, _, _, N⟩ := netT
  rd_netP N hv h hw
end
end Go.Proofs.YtpnnmklacialgaaGreat
namespace Go.Proofs.YtpnnmklacialgaaGreat
open Go.Conc Go.RowKit Go.ChangeShapes
section
variable {H : Type} {enc : TypeId × Value → H}
structure Arg {H : Type} (enc : TypeId × Value → H) (P : Program) (W : World) (t : TypeId) (v : Value) : Prop where
  ok : ∃ base, Value.okWide P W .any base t v
  rd : ∃ d p, DataW.Trod enc P W 0 (fun _ => true) true t v d p ∧ ∀ k ∈ d.weights P t, k ≤ reachBytes
theorem law_liftedC {C : Checked} {os : Os} {f : FuncId} {fr : Func} {t1 t2 t3 t4 : TypeId} {sp : ChangeSpec} (started : os.Started)
    (own : ownKnob C.prog.godebug = none) (laid : laidOutB C.prog = true)
    (hfn : C.prog.funcs[f]? = some fr) (hp : fr.params = #[t1, t2, t3]) (hr : fr.resultTypes = #[t4]) (hnt : Nat.ble 3 fr.ntmps = true) (hin : C.prog.inits.idxOf? f = none)
    (hv : sp.vars = []) (hsp : ∀ d1 d2 d3, sp.fn H [d1, d2, d3] = { results := [.lit (.bool true)], args := [d1, d2, d3] })
    (hr1 : C.prog.readableRec t1 = true) (hr2 : C.prog.readableRec t2 = true) (hr3 : C.prog.readableRec t3 = true)
    (hs1 : t1 < C.prog.types.size) (hs2 : t2 < C.prog.types.size) (hs3 : t3 < C.prog.types.size) (hu4 : C.prog.underlying t4 = some .bool)
    (witness : ∃ (w : World) (tape : Tape) (i : Input), w.os = os ∧ (w.forCall tape i).Shaped C.prog ∧ i.vars = [] ∧ Input.okWide C.prog (w.forCall tape i) .any w.heap.size f i ∧
      sp.pre6 enc C.prog fr [] false (w.forCall tape i).memory i.args ∧ ({} : Assume).holds C.prog (lone (Frame.enter C.prog f i.args .normal) [] (w.forCall tape i)))
    (h : ∀ (W : World) (v1 v2 v3 : Value), Arg enc C.prog W t1 v1 → Arg enc C.prog W t2 v2 → Arg enc C.prog W t3 v3 → ∃ c, fr.body = some c ∧ ∀ ro,
      WP C.prog ⟨true, XM C.prog, ⟨ro, .plain⟩, false⟩ f fr.ntmps c (retQ C.prog ⟨ro, .plain⟩ fr.results fun r S' => r = .bool true ∧ List.Sublist (allE W) S') (den (dens [v1, v2, v3] 0) fun _ => undef) [] (allE W)) :
    ReturnsInLeavingWide {} C os f .any (sp.pre6 enc C.prog fr [] false) (sp.post enc C.prog fr false true false false) := by
  refine returnsInLeavingWide_of_change_sized (C := C) own started hfn witness ?_
  intro W base args ds gs before hval hW _ hsz _
  have hW' := hW
  obtain ⟨p, q, hA, hV, hbf, _, _⟩ := hW
  rw [hp] at hA hval hsz
  rw [hv] at hV
  obtain ⟨rfl, rfl⟩ := trodVars_none hV
  obtain ⟨v1, vs1, d1, ds1, p1, q1, ha1, rfl, rfl, h1, hA1⟩ := trodAll_cons hA
  obtain ⟨v2, vs2, d2, ds2, p2, q2, rfl, rfl, rfl, h2, hA2⟩ := trodAll_cons hA1
  obtain ⟨v3, vs3, d3, ds3, p3, q3, rfl, rfl, rfl, h3, hA3⟩ := trodAll_cons hA2
  obtain ⟨rfl, rfl, rfl⟩ := trodAll_nil hA3
  have hargs : args = [v1, v2, v3].toArray := by cases args; simp_all
  subst hargs
  have hw : ∀ (j : Nat) (t : TypeId) (d : DataW H), [t1, t2, t3][j]? = some t → [d1, d2, d3][j]? = some d → ∀ k ∈ d.weights C.prog t, k ≤ reachBytes := by
    intro j t d ht hd k hk
    refine of_decide_eq_true (List.all_eq_true.1 hsz k (DataW.weights_mem_each (j := j) (t := t) (d := d) ?_ ?_ k hk))
    · rw [List.getElem?_append_left (by have := (List.getElem?_eq_some_iff.1 ht).1; simpa using this)]; exact ht
    · rw [List.append_nil]; exact hd
  obtain ⟨c, hb, hwp⟩ := h W v1 v2 v3
    ⟨⟨base, hval 0 t1 v1 rfl rfl⟩, d1, _, h1, hw 0 t1 d1 rfl rfl⟩ ⟨⟨base, hval 1 t2 v2 rfl rfl⟩, d2, _, h2, hw 1 t2 d2 rfl rfl⟩ ⟨⟨base, hval 2 t3 v3 rfl rfl⟩, d3, _, h3, hw 2 t3 d3 rfl rfl⟩
  obtain ⟨M, last, o, w', t', e1, e2, e3, e4⟩ := law_runs (P := C.prog) (args := [v1, v2, v3]) (W := W) hfn hb hnt hin hwp
  refine ⟨M, last, o, w', t', e1, e2, e3, e4.mono fun v hF => ?_⟩
  obtain ⟨rfl, hbelow⟩ := hF
  subst hbf
  have hlt : ∀ x ∈ p1 ++ (p2 ++ (p3 ++ [])) ++ [], x.block < W.heap.size := fun x hx => by simpa using hW'.lt x hx
  refine ⟨_, _, _, [], p1 ++ (p2 ++ (p3 ++ [])), [], hW', ?_, ?_, ?_, hbelow.frame _, fun h => by cases h⟩
  · rw [hr, List.append_nil, hsp]
    exact trodAll_mk1 (shut_bool hu4 true)
  · rw [hp, List.append_nil, hsp]
    refine trodAll_cons_mk (Below.trod laid hr1 hs1 h1 hbelow fun x hx => hlt x (by simp [hx])) (trodAll_cons_mk (Below.trod laid hr2 hs2 h2 hbelow fun x hx => hlt x (by simp [hx])) (trodAll_cons_mk (Below.trod laid hr3 hs3 h3 hbelow fun x hx => hlt x (by simp [hx])) trodAll_mk0))
  · rw [List.append_nil, hsp, hv]
    rfl
end
section
variable {H : Type} {enc : TypeId × Value → H} {W : World}
set_option maxRecDepth 100000 in
theorem arg_net {v : Value} (h : Arg enc Tryz.prog W 28 v) : ∃ a b c d e n, v = .agg #[a, b, c, d, e] ∧ NetV (allE W) a b c d e n := by
  obtain ⟨⟨base, hv⟩, d, p, hr, hw⟩ := h
  exact rd_net hv hr hw
theorem arg_struct {P : Program} {n sz : Nat} {t : TypeId} {fs : Array Field} {v : Value} (hu : P.underlying t = some (.struct fs)) (hi : intsOnly P n t = true) (hc : P.cellsOf t = sz) (h : Arg enc P W t v) :
    ∃ f : Nat → Int, v = .agg ((List.range sz).map fun k => Value.int .i64 (f k)).toArray := by
  obtain ⟨⟨base, hv⟩, d, p, hr, hw⟩ := h
  exact rd_structP hu hi hc hv hr
end
theorem own' : ownKnob Tryz.prog.godebug = none := by kernel_rfl
theorem laid' : laidOutB Tryz.prog = true := by kernel_rfl
end Go.Proofs.YtpnnmklacialgaaGreat
