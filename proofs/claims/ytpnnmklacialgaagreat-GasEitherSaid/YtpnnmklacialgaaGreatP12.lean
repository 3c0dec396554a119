/- The postings of a date go down a channel.
   The helper that sends the postings; the postings as they are received.
   The postings, received; Posts; Balance.
   The chapter's examples: the net.
   GasConflicts: Conflict, CheckConflict and Moved agree with the specification.
   GasEither: whether a period is even, and what Conflict and CheckConflict say of it, over every net.
   GasEither: the walk over every net, period and list of numbers. -/
import Derived.Test.YtpnnmklacialgaaGreatP11
set_option linter.unusedVariables false
set_option linter.unusedSimpArgs false
namespace Go.Proofs.YtpnnmklacialgaaGreat
open Go.Conc
attribute [local irreducible] WP OpF OpX CallW SemH retQ AnyF RoundW WM OpsM CallM

def zB : BillG := ⟨0, 0⟩
def billAt (l : List BillG) (i : Nat) : BillG := l.getD i zB
theorem billAt_get {l : List BillG} {i : Nat} (h : i < l.length) : l[i] = billAt l i := by
  unfold billAt
  rw [List.getD_eq_getElem?_getD, List.getElem?_eq_getElem h]
  rfl
def wasN (n : NetG) (p d : Int) : List BillG := if d = 0 then List.replicate n.mains.length zB else billsN n p (d - 1)
def idAt (n : NetG) (i : Nat) : Int := match n.mains[i]? with | some x => x.id | none => 0
theorem idAt_get {n : NetG} {i : Nat} (h : i < n.mains.length) : idAt n i = n.mains[i].id := by
  unfold idAt
  rw [List.getElem?_eq_getElem h]
def postAt (n : NetG) (d p : Int) (i : Nat) : List PostG :=
  if billAt (billsN n p d) i = billAt (wasN n p d) i then [] else
    [⟨d, idAt n i, p, (billAt (billsN n p d) i).gas - (billAt (wasN n p d) i).gas, (billAt (billsN n p d) i).penalty - (billAt (wasN n p d) i).penalty⟩]
def sendRow (n : NetG) (d : Int) (i k : Nat) : List PostG := ((periodsN n).drop k).flatMap fun p => postAt n d p i
def sendFrom (n : NetG) (d : Int) (i : Nat) : List PostG := (List.range' i (n.mains.length - i)).flatMap fun i => sendRow n d i 0
def sendN (n : NetG) (d : Int) : List PostG := sendFrom n d 0
def postV (x : PostG) : Value := .agg (postC x)
theorem sendRow_at {n : NetG} {d : Int} {i k : Nat} (h : k < (periodsN n).length) : sendRow n d i k = postAt n d (at0 (periodsN n) k) i ++ sendRow n d i (k + 1) := by
  unfold sendRow
  rw [List.drop_eq_getElem_cons h, List.flatMap_cons, at0_get]
theorem sendRow_end {n : NetG} {d : Int} {i k : Nat} (h : (periodsN n).length ≤ k) : sendRow n d i k = [] := by
  unfold sendRow
  rw [List.drop_eq_nil_of_le h]
  rfl
theorem sendFrom_at {n : NetG} {d : Int} {i : Nat} (h : i < n.mains.length) : sendFrom n d i = sendRow n d i 0 ++ sendFrom n d (i + 1) := by
  unfold sendFrom
  rw [show n.mains.length - i = (n.mains.length - (i + 1)) + 1 by omega, List.range'_succ, List.flatMap_cons]
theorem sendFrom_end {n : NetG} {d : Int} {i : Nat} (h : n.mains.length ≤ i) : sendFrom n d i = [] := by
  unfold sendFrom
  rw [show n.mains.length - i = 0 by omega]
  rfl
theorem billsN_len {n : NetG} {p k : Int} : (billsN n p k).length = n.mains.length := bill2_len
theorem wasN_len {n : NetG} {p d : Int} : (wasN n p d).length = n.mains.length := by
  unfold wasN
  split
  · exact List.length_replicate ..
  · exact billsN_len
def BillOk (x : BillG) : Prop := 0 ≤ x.gas ∧ x.gas ≤ 150000000000000000 ∧ 0 ≤ x.penalty ∧ x.penalty ≤ 60000000
theorem billsN_bd {n : NetG} (h : Valid n) {p k : Int} {i : Nat} : BillOk (billAt (billsN n p k) i) := by
  by_cases hi : i < (billsN n p k).length
  · rw [← billAt_get hi]
    have e : (billsN n p k)[i] = ⟨gasI n p k i, penT n p k n.faults.length i⟩ := bill2_at hi
    rw [e]
    have h1 := gas_bd h (p := p) (k := k) (q := i)
    have h2 := pen_bd h (p := p) (k := k) (q := i) (Nat.le_refl _)
    have h3 := h.f60
    refine ⟨?_, ?_, h2.1, ?_⟩
    · show 0 ≤ gasI n p k i
      unfold gasI
      split <;> omega
    · show gasI n p k i ≤ _
      unfold gasI
      split <;> omega
    · show penT n p k n.faults.length i ≤ _
      omega
  · unfold billAt
    rw [List.getD_eq_getElem?_getD, List.getElem?_eq_none (by omega)]
    exact ⟨by decide, by decide, by decide, by decide⟩
theorem wasN_bd {n : NetG} (h : Valid n) {p d : Int} {i : Nat} : BillOk (billAt (wasN n p d) i) := by
  unfold wasN
  split
  · have e : billAt (List.replicate n.mains.length zB) i = zB := by
      unfold billAt
      rw [List.getD_eq_getElem?_getD, List.getElem?_replicate]
      split <;> rfl
    rw [e]
    exact ⟨by decide, by decide, by decide, by decide⟩
  · exact billsN_bd h
theorem dd_len {xs : List Int} : ∀ {j : Nat}, (ddT xs j).length ≤ j
  | 0 => by simp [ddT]
  | j + 1 => by
    have := dd_len (xs := xs) (j := j)
    show (ddT xs j ++ _).length ≤ _
    rw [List.length_append]
    split <;> simp <;> omega
theorem sortedL_len {xss : List (List Int)} : (sortedL xss).length ≤ xss.flatten.length := by
  unfold sortedL dd
  exact Nat.le_trans (dd_len (xs := srtL xss.flatten)) (Nat.le_of_eq (srtL_len _))
instance : IntsT 47 2 := ⟨by kernel_rfl⟩
@[reducible] def Ec (ro : Nat → Prop) (c : Nat) (L : List Value) : Env := ⟨false, XC Tryz.prog, ⟨ro, .send c L⟩, false⟩

/-- Rows of bills, one for each period up to j. -/
def Rows (Ω : Ents) (ps : List Int) (f : Int → List BillG) (ls : List SlG) (j : Nat) : Prop := ls.length = j ∧ ∀ q (h : q < ls.length), SlV Ω ls[q].v (f (at0 ps q))
theorem Rows.snoc {Ω Δ : Ents} {ps : List Int} {f : Int → List BillG} {ls : List SlG} {j : Nat} {x : SlG} (h : Rows Ω ps f ls j) (hx : SlV Δ x.v (f (at0 ps j))) : Rows (Δ ++ Ω) ps f (ls ++ [x]) (j + 1) := by
  obtain ⟨rfl, h2⟩ := h
  refine ⟨by simp, fun q hq => ?_⟩
  by_cases hl : q < ls.length
  · rw [List.getElem_append_left hl]
    exact (h2 q hl).app
  · have : q = ls.length := by simp at hq; omega
    subst this
    simp only [List.getElem_concat_length]
    exact hx.sub (List.sublist_append_left _ _)
theorem Rows.app {Ω Δ : Ents} {ps : List Int} {f : Int → List BillG} {ls : List SlG} {j : Nat} (h : Rows Ω ps f ls j) : Rows (Δ ++ Ω) ps f ls j := ⟨h.1, fun q hq => (h.2 q hq).app⟩
theorem perm5 {W B2 N B O Z : Ents} : (W ++ (B2 ++ (N ++ (B ++ (O ++ Z))))).Perm (N ++ (W ++ ((B2 ++ (B ++ O)) ++ Z))) := by
  rw [List.append_assoc, List.append_assoc]
  exact (List.Perm.append_left W (List.perm_append_comm_assoc ..)).trans (List.perm_append_comm_assoc ..)
theorem c156 (S : Ents) (n : NetG) (a b c d e : Value) (ro : Nat → Prop) (ch : Nat) (L0 : List Value) (dt : Int) (hn : NetV S a b c d e n) (hV : Valid n) (hs : SortOk (timesL n).flatten) (hd : 0 ≤ dt ∧ dt ≤ 100000) :
    CallM Tryz.prog (Ec ro ch ((sendN n dt).map postV ++ L0)) 156 #[.agg #[a, b, c, d, e], iv dt, .chan (some ch)] S fun m' r S' => m' = ⟨ro, .send ch L0⟩ ∧ List.Sublist S S' := by
  have hu := hV.u60
  have hr := hV.r60
  have hf := hV.f60
  have hnl := timesL_len hV
  have hpl : (periodsN n).length ≤ (timesL n).flatten.length := sortedL_len
  have hsm := hn.mains
  obtain ⟨qm, cm, rfl, _, hrm⟩ := hn.mains
  have hm12 := hV.m12
  refine callM_in (args := [.agg #[.slice qm n.mains.length cm, b, c, d, e], iv dt, .chan (some ch)]) Tryz.func156 (by decide) rfl rfl ?_
  repeat' first|(refine gX ?_;first|refine o_v rfl rfl ?_|(refine o_splitD rfl rfl rfl ?_ ?_<;>intro h)|(refine o_split rfl rfl rfl ?_ ?_<;>intro h<;>fail_if_success exact Bool.noConfusion h)|(refine gL ?_;first|refine o_load rfl rfl rfl rfl ?_|refine o_loadR rfl rfl rfl (by omega) rfl rfl ?_|refine o_loadW rfl rfl rfl rfl ?_|refine o_loadK rfl rfl rfl ?_)|(refine gF ?_;first|refine o_fieldI rfl rfl rfl rfl ?_|refine o_field rfl rfl rfl rfl ?_)|(refine gB ?_;first|refine o_add rfl rfl rfl rfl (by omega) ?_|refine o_sub rfl rfl rfl rfl (by omega) ?_|refine o_eqNil rfl rfl rfl rfl rfl ?_)|(refine gC ?_;first|(refine o_callZ (R:=fun r S' => ∃ Δ, Own r n.uses Δ ∧ S' = Δ ++ _) rfl rfl rfl (c139 _ _ n _ _ _ _ _ (hn.sub Sb.h) (by omega)) ?_;rintro r _ ⟨Δu, hou, rfl⟩;refine ⟨inferInstance, ?_⟩)|(refine o_callZ (R:=fun r S' => ∃ Δ, Own r (n.uses.map (·.period)) Δ ∧ S' = Δ ++ _) rfl rfl rfl (c183 _ _ n.uses _ (hou.slv.sub Sb.h) (by omega)) ?_;rintro r _ ⟨Δu2, hou2, rfl⟩;obtain ⟨ua, uc, rfl, _, hua⟩ := hou2.slv;refine ⟨inferInstance, ?_⟩)|(refine o_callZ (R:=fun r S' => ∃ Δ, Own r n.readings Δ ∧ S' = Δ ++ _) rfl rfl rfl (c107 _ _ n _ _ _ _ _ (hn.sub Sb.h) (by omega)) ?_;rintro r _ ⟨Δr, hor, rfl⟩;refine ⟨inferInstance, ?_⟩)|(refine o_callZ (R:=fun r S' => ∃ Δ, Own r (n.readings.map (·.period)) Δ ∧ S' = Δ ++ _) rfl rfl rfl (c184 _ _ n.readings _ (hor.slv.sub Sb.h) (by omega)) ?_;rintro r _ ⟨Δr2, hor2, rfl⟩;obtain ⟨ra, rc, rfl, _, hra⟩ := hor2.slv;refine ⟨inferInstance, ?_⟩)|(refine o_callZ (R:=fun r S' => ∃ Δ, Own r n.faults Δ ∧ S' = Δ ++ _) rfl rfl rfl (c142 _ _ n _ _ _ _ _ (hn.sub Sb.h) (by omega)) ?_;rintro r _ ⟨Δf, hof, rfl⟩;refine ⟨inferInstance, ?_⟩)|(refine o_callZ (R:=fun r S' => ∃ Δ, Own r (n.faults.map (·.period)) Δ ∧ S' = Δ ++ _) rfl rfl rfl (c185 _ _ n.faults _ (hof.slv.sub Sb.h) (by omega)) ?_;rintro r _ ⟨Δf2, hof2, rfl⟩;obtain ⟨fa, fc, rfl, _, hfa⟩ := hof2.slv;refine ⟨inferInstance, ?_⟩)|(refine o_callZ (R:=fun r S' => ∃ Δ, Own r (periodsN n) Δ ∧ S' = Δ ++ _) rfl rfl rfl (c126 _ _ [⟨ua, (n.uses.map (·.period)).length, uc⟩, ⟨ra, (n.readings.map (·.period)).length, rc⟩, ⟨fa, (n.faults.map (·.period)).length, fc⟩] (timesL n) _ slv_three rfl (three_sl (hou2.slv.sub Sb.h) (hor2.slv.sub Sb.h) (hof2.slv.sub Sb.h)) (by omega) (by simp) hs) ?_;rintro r _ ⟨Δo, hoo, rfl⟩;obtain ⟨pa, pc, rfl, _, hpa⟩ := hoo.slv;refine ⟨inferInstance, ?_⟩))|(refine gI ?_;first|refine o_indexS rfl rfl rfl rfl rfl rfl (by omega) ?_|refine o_index rfl rfl rfl rfl rfl (by omega) ?_)|(refine gS ?_;first|refine o_store rfl rfl rfl rfl rfl rfl ?_|refine o_storeW rfl rfl rfl rfl rfl rfl ?_)|(refine o_allocZ rfl rfl ?_;intro _)|(refine o_box rfl rfl rfl ?_;intro _)|refine o_skip rfl rfl ?_|refine o_skipN rfl rfl ?_|refine o_iface rfl rfl rfl ?_|refine o_build rfl rfl rfl rfl rfl ?_|(refine o_bslice rfl rfl rfl rfl rfl rfl rfl ?_;intro _)|(refine o_splitP rfl ?_ ?_<;>intro h<;>fail_if_success exact Bool.noConfusion h))|refine o_head0 rfl ?_|refine o_end ?_|refine o_head1 rfl ?_|(show WM _ _ _ _ (.seq (.region _ _ _) _) _ _ _ _;refine wm_seqP ?_)|(show WM _ _ _ _ (.seq (.seq (.region _ _ _) (.region _ _ _)) _) _ _ _ _;refine wm_seqP ?_)|refine wp_seq ?_|refine o_region ?_|refine wp_block ?_|refine wp_skip ?_|refine wp_exit ?_|(refine w_condD rfl ?_ ?_<;>intro h)|(refine w_cond rfl ?_ ?_<;>intro h<;>try exact Bool.noConfusion h)|refine w_ret (S) (vs:=[]) rfl Res.nil ?_|refine anyF_of (fn:=156) (by decide +kernel) ?_|refine anyF_v1 (fn:=156) (by decide +kernel) rfl ?_|refine anyF_v0 (fn:=156) (by decide +kernel) rfl ?_|(show WP _ _ _ _ (.region 1 _ true) _ _ _ _;refine o_drawn [(0, false), (3, true), (6, true), (1, false), (2, false), (4, false), (5, false), (7, true), (8, true), (9, true), (10, true), (11, false)] mixed (by kernel_rfl) ?_)|(show WP _ _ _ _ (.region 17 _ true) _ _ _ _;refine o_drawnA [(0, true), (1, true), (2, true), (3, true), (4, true), (5, true), (6, true), (7, true), (8, true), (9, true), (10, true), (11, true), (12, true), (13, true), (14, false), (15, false), (16, false), (17, false)] mixed (by kernel_rfl) ?_)|refine o_br2 (fn:=156) (l:=[(14, false), (15, false), (16, false), (17, false)]) 14 15 [(15, false), (16, false), (17, false)] [(14, false), (16, false), (17, false)] (by kernel_rfl) rfl rfl ?_ ?_
  rename_i _ b1 _ _ _ _ _ bl _
  refine wm_seqP ?_
  refine WP.sub (S' := Δo ++ ⟨b1, true, .cells (Value.agg #[.slice qm n.mains.length cm, b, c, d, e]).cells 28 (0, 0)⟩ :: S) ?_ Sb.h
  change WP _ _ _ _ _ _ _ _ (Δo ++ ⟨b1, true, .cells #[.slice qm n.mains.length cm, b, c, d, e] 28 (0, 0)⟩ :: S)
  clear hou hou2 hua hor hor2 hra hof hof2 hfa
  have i1 := SlI.mk hpa
  repeat' first|(refine gX ?_;first|refine o_v rfl rfl ?_|(refine o_splitD rfl rfl rfl ?_ ?_<;>intro h)|(refine o_split rfl rfl rfl ?_ ?_<;>intro h<;>fail_if_success exact Bool.noConfusion h)|(refine gL ?_;first|refine o_load rfl rfl rfl rfl ?_|refine o_loadR rfl rfl rfl (by omega) rfl rfl ?_|refine o_loadW rfl rfl rfl rfl ?_|refine o_loadK rfl rfl rfl ?_)|(refine gF ?_;first|refine o_fieldI rfl rfl rfl rfl ?_|refine o_field rfl rfl rfl rfl ?_)|(refine gB ?_;first|refine o_add rfl rfl rfl rfl (by omega) ?_|refine o_sub rfl rfl rfl rfl (by omega) ?_|refine o_eqNil rfl rfl rfl rfl rfl ?_)|(refine gI ?_;first|refine o_indexS rfl rfl rfl rfl rfl rfl (by omega) ?_|refine o_index rfl rfl rfl rfl rfl (by omega) ?_)|(refine gS ?_;first|refine o_store rfl rfl rfl rfl rfl rfl ?_|refine o_storeW rfl rfl rfl rfl rfl rfl ?_)|(refine o_allocZ rfl rfl ?_;intro _)|(refine o_box rfl rfl rfl ?_;intro _)|refine o_skip rfl rfl ?_|refine o_skipN rfl rfl ?_|refine o_iface rfl rfl rfl ?_|refine o_build rfl rfl rfl rfl rfl ?_|(refine o_bslice rfl rfl rfl rfl rfl rfl rfl ?_;intro _)|(refine o_splitP rfl ?_ ?_<;>intro h<;>fail_if_success exact Bool.noConfusion h))|refine o_head0 rfl ?_|refine o_end ?_|refine o_head1 rfl ?_|refine wp_seq ?_|refine o_region ?_|refine wp_block ?_|refine wp_skip ?_|refine wp_exit ?_|(refine w_condD rfl ?_ ?_<;>intro h)|(refine w_cond rfl ?_ ?_<;>intro h<;>try exact Bool.noConfusion h)|refine w_ret (S) (vs:=[]) rfl Res.nil ?_|refine anyF_of (fn:=156) (by decide +kernel) ?_|refine anyF_v1 (fn:=156) (by decide +kernel) rfl ?_|refine anyF_v0 (fn:=156) (by decide +kernel) rfl ?_|(show WP _ _ _ _ (.region 1 _ true) _ _ _ _;refine o_drawn [(0, false), (3, true), (6, true), (1, false), (2, false), (4, false), (5, false), (7, true), (8, true), (9, true), (10, true), (11, false)] mixed (by kernel_rfl) ?_)|(show WP _ _ _ _ (.region 17 _ true) _ _ _ _;refine o_drawnA [(0, true), (1, true), (2, true), (3, true), (4, true), (5, true), (6, true), (7, true), (8, true), (9, true), (10, true), (11, true), (12, true), (13, true), (14, false), (15, false), (16, false), (17, false)] mixed (by kernel_rfl) ?_)|refine o_br2 (fn:=156) (l:=[(14, false), (15, false), (16, false), (17, false)]) 14 15 [(15, false), (16, false), (17, false)] [(14, false), (16, false), (17, false)] (by kernel_rfl) rfl rfl ?_ ?_
  refine wp_loop (fun i' t ds S' => ∃ (j : Nat) (t0 : Tm) (wN wW : Value) (lsN lsW : List SlG) (ΔN ΔW Ω : Ents), i' = (periodsN n).length - j ∧ j ≤ (periodsN n).length ∧ [] = ds ∧ S'.Perm (ΔN ++ (ΔW ++ (Ω ++ (Δo ++ ⟨b1, true, .cells #[.slice qm n.mains.length cm, b, c, d, e] 28 (0, 0)⟩ :: S)))) ∧
      t = den [(30, iv j), (29, iv (periodsN n).length), (28, .slice pa (periodsN n).length pc), (7, wN), (8, wW), (6, .slice pa (periodsN n).length pc), (3, .pointer (some ⟨b1, 0, none⟩)), (1, iv dt), (2, .chan (some ch))] t0 ∧ Own wN lsN ΔN ∧ Own wW lsW ΔW ∧ Rows Ω (periodsN n) (fun p => billsN n p dt) lsN j ∧ Rows Ω (periodsN n) (fun p => wasN n p dt) lsW j)
    _ ⟨0, _, _, _, [], [], [], [], [], rfl, Nat.zero_le _, rfl, List.Perm.refl _, keep ⟨rfl, rfl, rfl, rfl, rfl, rfl, rfl, rfl, rfl, trivial⟩, .nil, .nil, ⟨rfl, fun q h => absurd h (by simp)⟩, ⟨rfl, fun q h => absurd h (by simp)⟩⟩ ?_
  rintro i' t ds S' ⟨j, t0, wN, wW, lsN, lsW, ΔN, ΔW, Ω, rfl, hj, rfl, hp, rfl, hoN, hoW, hrN, hrW⟩
  refine WP.perm ?_ hp
  have hlN := hrN.1
  have hlW := hrW.1
  repeat' first|(refine gX ?_;first|refine o_v rfl rfl ?_|(refine o_splitD rfl rfl rfl ?_ ?_<;>intro h)|(refine o_split rfl rfl rfl ?_ ?_<;>intro h<;>fail_if_success exact Bool.noConfusion h)|(refine gL ?_;first|refine o_load rfl rfl rfl rfl ?_|refine o_loadR rfl rfl rfl (by omega) rfl rfl ?_|refine o_loadW rfl rfl rfl rfl ?_|refine o_loadK rfl rfl rfl ?_)|(refine gF ?_;first|refine o_fieldI rfl rfl rfl rfl ?_|refine o_field rfl rfl rfl rfl ?_)|(refine gB ?_;first|refine o_add rfl rfl rfl rfl (by omega) ?_|refine o_sub rfl rfl rfl rfl (by omega) ?_|refine o_eqNil rfl rfl rfl rfl rfl ?_)|(refine gC ?_;first|(refine o_callZ (R:=fun r S' => ∃ Δ, Own r (billsN n ((periodsN n)[j]'(by first|done|omega)) dt) Δ ∧ S' = Δ ++ _) rfl rfl rfl (c88 _ _ n _ _ _ _ _ ((periodsN n)[j]'(by first|done|omega)) dt (hn.sub Sb.h) hV) ?_;rintro r _ ⟨Δb, hob, rfl⟩;obtain ⟨ba, bc, rfl, _, hba⟩ := hob.slv;refine ⟨inferInstance, ?_⟩)|(refine o_append1 (⟨ba, (billsN n ((periodsN n)[j]'(by first|done|omega)) dt).length, bc⟩ : SlG) rfl rfl rfl rfl hoN rfl (by omega) rfl rfl rfl rfl ?_;intro wN2 ΔN2 hoN2;refine ⟨inferInstance, ?_⟩)|(refine o_callZ (R:=fun r S' => ∃ Δ, Own r (billsN n ((periodsN n)[j]'(by first|done|omega)) (dt - 1)) Δ ∧ S' = Δ ++ _) rfl rfl rfl (c88 _ _ n _ _ _ _ _ ((periodsN n)[j]'(by first|done|omega)) (dt - 1) (hn.sub Sb.h) hV) ?_;rintro r _ ⟨Δb2, hob2, rfl⟩;obtain ⟨ba2, bc2, rfl, _, hba2⟩ := hob2.slv;refine ⟨inferInstance, ?_⟩)|(refine o_append1 (⟨ba2, (List.replicate n.mains.length zB).length, bc2⟩ : SlG) rfl rfl rfl rfl hoW rfl (by omega) rfl rfl rfl rfl ?_;intro wW2 ΔW2 hoW2;refine ⟨inferInstance, ?_⟩)|(refine o_append1 (⟨ba2, (billsN n ((periodsN n)[j]'(by first|done|omega)) (dt - 1)).length, bc2⟩ : SlG) rfl rfl rfl rfl hoW rfl (by omega) rfl rfl rfl rfl ?_;intro wW2 ΔW2 hoW2;refine ⟨inferInstance, ?_⟩))|(refine gI ?_;first|refine o_indexS rfl rfl rfl rfl rfl rfl (by omega) ?_|refine o_index rfl rfl rfl rfl rfl (by omega) ?_)|(refine gS ?_;first|refine o_store rfl rfl rfl rfl rfl rfl ?_|refine o_storeW rfl rfl rfl rfl rfl rfl ?_)|(refine o_make zB n.mains.length rfl rfl rfl rfl rfl rfl rfl (by omega) ?_;intro v Δb2 hob2;obtain ⟨ba2, bc2, rfl, _, hba2⟩ := hob2.slv)|(refine o_allocZ rfl rfl ?_;intro _)|(refine o_box rfl rfl rfl ?_;intro _)|refine o_skip rfl rfl ?_|refine o_skipN rfl rfl ?_|refine o_iface rfl rfl rfl ?_|refine o_build rfl rfl rfl rfl rfl ?_|(refine o_bslice rfl rfl rfl rfl rfl rfl rfl ?_;intro _)|(refine o_splitP rfl ?_ ?_<;>intro h<;>fail_if_success exact Bool.noConfusion h))|refine o_head0 rfl ?_|refine o_end ?_|refine o_head1 rfl ?_|refine wp_seq ?_|refine o_region ?_|refine wp_block ?_|refine wp_skip ?_|refine wp_exit ?_|(refine w_condD rfl ?_ ?_<;>intro h)|(refine w_cond rfl ?_ ?_<;>intro h<;>try exact Bool.noConfusion h)|refine w_ret (S) (vs:=[]) rfl Res.nil ?_|refine anyF_of (fn:=156) (by decide +kernel) ?_|refine anyF_v1 (fn:=156) (by decide +kernel) rfl ?_|refine anyF_v0 (fn:=156) (by decide +kernel) rfl ?_|(show WP _ _ _ _ (.region 1 _ true) _ _ _ _;refine o_drawn [(0, false), (3, true), (6, true), (1, false), (2, false), (4, false), (5, false), (7, true), (8, true), (9, true), (10, true), (11, false)] mixed (by kernel_rfl) ?_)|(show WP _ _ _ _ (.region 17 _ true) _ _ _ _;refine o_drawnA [(0, true), (1, true), (2, true), (3, true), (4, true), (5, true), (6, true), (7, true), (8, true), (9, true), (10, true), (11, true), (12, true), (13, true), (14, false), (15, false), (16, false), (17, false)] mixed (by kernel_rfl) ?_)|refine o_br2 (fn:=156) (l:=[(14, false), (15, false), (16, false), (17, false)]) 14 15 [(15, false), (16, false), (17, false)] [(14, false), (16, false), (17, false)] (by kernel_rfl) rfl rfl ?_ ?_
  · simp only [at0_get] at hoN2 hob
    refine ⟨(periodsN n).length - (j + 1), by omega, _, .append_left (.cons _ (.append_left (.append_left (.cons _ (List.Sublist.refl _)) _) _)) _, j + 1, _, _, _, _, _, ΔN2, ΔW2, Δb2 ++ (Δb ++ Ω), rfl, by omega, rfl, perm5, keep ⟨rfl, rfl, rfl, rfl, rfl, rfl, rfl, rfl, rfl, trivial⟩, hoN2, hoW2, (hrN.snoc hob.slv).app, hrW.app.snoc ?_⟩
    show SlV Δb2 _ (wasN n (at0 (periodsN n) j) dt)
    unfold wasN
    rw [if_pos h]
    exact hob2.slv
  · simp only [at0_get] at hoN2 hob hoW2 hob2
    refine ⟨(periodsN n).length - (j + 1), by omega, _, .append_left (.cons _ (.append_left (.append_left (.cons _ (List.Sublist.refl _)) _) _)) _, j + 1, _, _, _, _, _, ΔN2, ΔW2, Δb2 ++ (Δb ++ Ω), rfl, by omega, rfl, perm5, keep ⟨rfl, rfl, rfl, rfl, rfl, rfl, rfl, rfl, rfl, trivial⟩, hoN2, hoW2, (hrN.snoc hob.slv).app, hrW.app.snoc ?_⟩
    show SlV Δb2 _ (wasN n (at0 (periodsN n) j) dt)
    unfold wasN
    rw [if_neg h]
    exact hob2.slv
  have hje : j = (periodsN n).length := by omega
  subst hje
  clear hp h
  obtain ⟨na, nc, rfl, _, hna⟩ := hoN.slv
  obtain ⟨wa, wc, rfl, _, hwa⟩ := hoW.slv
  have i2 := SlI.mk hna
  have i3 := SlI.mk hwa
  have i4 := SlI.mk hrm
  repeat' first|(refine gX ?_;first|refine o_v rfl rfl ?_|(refine o_splitD rfl rfl rfl ?_ ?_<;>intro h)|(refine o_split rfl rfl rfl ?_ ?_<;>intro h<;>fail_if_success exact Bool.noConfusion h)|(refine gL ?_;first|refine o_load rfl rfl rfl rfl ?_|refine o_loadR rfl rfl rfl (by omega) rfl rfl ?_|refine o_loadW rfl rfl rfl rfl ?_|refine o_loadK rfl rfl rfl ?_)|(refine gF ?_;first|refine o_fieldI rfl rfl rfl rfl ?_|refine o_field rfl rfl rfl rfl ?_)|(refine gB ?_;first|refine o_add rfl rfl rfl rfl (by omega) ?_|refine o_sub rfl rfl rfl rfl (by omega) ?_|refine o_eqNil rfl rfl rfl rfl rfl ?_)|(refine gI ?_;first|refine o_indexS rfl rfl rfl rfl rfl rfl (by omega) ?_|refine o_index rfl rfl rfl rfl rfl (by omega) ?_)|(refine gS ?_;first|refine o_store rfl rfl rfl rfl rfl rfl ?_|refine o_storeW rfl rfl rfl rfl rfl rfl ?_)|(refine o_allocZ rfl rfl ?_;intro _)|(refine o_box rfl rfl rfl ?_;intro _)|refine o_skip rfl rfl ?_|refine o_skipN rfl rfl ?_|refine o_iface rfl rfl rfl ?_|refine o_build rfl rfl rfl rfl rfl ?_|(refine o_bslice rfl rfl rfl rfl rfl rfl rfl ?_;intro _)|(refine o_splitP rfl ?_ ?_<;>intro h<;>fail_if_success exact Bool.noConfusion h))|refine o_head0 rfl ?_|refine o_end ?_|refine o_head1 rfl ?_|(show WM _ _ _ _ (.seq (.region _ _ _) _) _ _ _ _;refine wm_seqP ?_)|(show WM _ _ _ _ (.block _ _) _ _ _ _;refine wm_block ?_)|refine wp_seq ?_|refine o_region ?_|refine wp_block ?_|refine wp_skip ?_|refine wp_exit ?_|(refine w_condD rfl ?_ ?_<;>intro h)|(refine w_cond rfl ?_ ?_<;>intro h<;>try exact Bool.noConfusion h)|refine w_ret (S) (vs:=[]) rfl Res.nil ?_|refine anyF_of (fn:=156) (by decide +kernel) ?_|refine anyF_v1 (fn:=156) (by decide +kernel) rfl ?_|refine anyF_v0 (fn:=156) (by decide +kernel) rfl ?_|(show WP _ _ _ _ (.region 1 _ true) _ _ _ _;refine o_drawn [(0, false), (3, true), (6, true), (1, false), (2, false), (4, false), (5, false), (7, true), (8, true), (9, true), (10, true), (11, false)] mixed (by kernel_rfl) ?_)|(show WP _ _ _ _ (.region 17 _ true) _ _ _ _;refine o_drawnA [(0, true), (1, true), (2, true), (3, true), (4, true), (5, true), (6, true), (7, true), (8, true), (9, true), (10, true), (11, true), (12, true), (13, true), (14, false), (15, false), (16, false), (17, false)] mixed (by kernel_rfl) ?_)|refine o_br2 (fn:=156) (l:=[(14, false), (15, false), (16, false), (17, false)]) 14 15 [(15, false), (16, false), (17, false)] [(14, false), (16, false), (17, false)] (by kernel_rfl) rfl rfl ?_ ?_
  refine wm_loop (fun i' m t ds S' => ∃ (i : Nat) (t0 : Tm), i' = n.mains.length - i ∧ i ≤ n.mains.length ∧ [] = ds ∧ ΔN ++ (ΔW ++ (Ω ++ (Δo ++ ⟨b1, true, .cells #[.slice qm n.mains.length cm, b, c, d, e] 28 (0, 0)⟩ :: S))) = S' ∧ m = ⟨ro, .send ch ((sendFrom n dt i).map postV ++ L0)⟩ ∧
      t = den [(62, iv i), (61, iv n.mains.length), (60, .slice qm n.mains.length cm), (7, .slice na lsN.length nc), (8, .slice wa lsW.length wc), (6, .slice pa (periodsN n).length pc), (1, iv dt), (2, .chan (some ch))] t0)
    _ ⟨0, _, rfl, Nat.zero_le _, rfl, rfl, rfl, keep ⟨rfl, rfl, rfl, rfl, rfl, rfl, rfl, rfl, trivial⟩⟩ ?_
  rintro i' m t ds S' ⟨i, t0, rfl, hi, rfl, rfl, rfl, rfl⟩
  repeat' first|(refine gX ?_;first|refine o_v rfl rfl ?_|(refine o_splitD rfl rfl rfl ?_ ?_<;>intro h)|(refine o_split rfl rfl rfl ?_ ?_<;>intro h<;>fail_if_success exact Bool.noConfusion h)|(refine gL ?_;first|refine o_load rfl rfl rfl rfl ?_|refine o_loadR rfl rfl rfl (by omega) rfl rfl ?_|refine o_loadW rfl rfl rfl rfl ?_|refine o_loadK rfl rfl rfl ?_)|(refine gF ?_;first|refine o_fieldI rfl rfl rfl rfl ?_|refine o_field rfl rfl rfl rfl ?_)|(refine gB ?_;first|refine o_add rfl rfl rfl rfl (by omega) ?_|refine o_sub rfl rfl rfl rfl (by omega) ?_|refine o_eqNil rfl rfl rfl rfl rfl ?_)|(refine gI ?_;first|refine o_indexS rfl rfl rfl rfl rfl rfl (by omega) ?_|refine o_index rfl rfl rfl rfl rfl (by omega) ?_)|(refine gS ?_;first|refine o_store rfl rfl rfl rfl rfl rfl ?_|refine o_storeW rfl rfl rfl rfl rfl rfl ?_)|(refine o_allocZ rfl rfl ?_;intro _)|(refine o_box rfl rfl rfl ?_;intro _)|refine o_skip rfl rfl ?_|refine o_skipN rfl rfl ?_|refine o_iface rfl rfl rfl ?_|refine o_build rfl rfl rfl rfl rfl ?_|(refine o_bslice rfl rfl rfl rfl rfl rfl rfl ?_;intro _)|(refine o_splitP rfl ?_ ?_<;>intro h<;>fail_if_success exact Bool.noConfusion h))|refine o_head0 rfl ?_|refine o_end ?_|refine o_head1 rfl ?_|(show WM _ _ _ _ (.seq (.region _ _ _) _) _ _ _ _;refine wm_seqP ?_)|(show WM _ _ _ _ (.block _ _) _ _ _ _;refine wm_block ?_)|(show WM _ _ _ _ (.seq (.cond _ .skip (.exit _)) _) _ _ _ _;refine wm_seqP ?_)|(show WM _ _ _ _ (.seq _ _) _ _ _ _;refine wm_seq ?_)|refine wp_seq ?_|refine o_region ?_|refine wp_block ?_|refine wp_skip ?_|refine wp_exit ?_|(refine w_condD rfl ?_ ?_<;>intro h)|(refine w_cond rfl ?_ ?_<;>intro h<;>try exact Bool.noConfusion h)|refine w_ret (S) (vs:=[]) rfl Res.nil ?_|refine anyF_of (fn:=156) (by decide +kernel) ?_|refine anyF_v1 (fn:=156) (by decide +kernel) rfl ?_|refine anyF_v0 (fn:=156) (by decide +kernel) rfl ?_|(show WP _ _ _ _ (.region 1 _ true) _ _ _ _;refine o_drawn [(0, false), (3, true), (6, true), (1, false), (2, false), (4, false), (5, false), (7, true), (8, true), (9, true), (10, true), (11, false)] mixed (by kernel_rfl) ?_)|(show WP _ _ _ _ (.region 17 _ true) _ _ _ _;refine o_drawnA [(0, true), (1, true), (2, true), (3, true), (4, true), (5, true), (6, true), (7, true), (8, true), (9, true), (10, true), (11, true), (12, true), (13, true), (14, false), (15, false), (16, false), (17, false)] mixed (by kernel_rfl) ?_)|refine o_br2 (fn:=156) (l:=[(14, false), (15, false), (16, false), (17, false)]) 14 15 [(15, false), (16, false), (17, false)] [(14, false), (16, false), (17, false)] (by kernel_rfl) rfl rfl ?_ ?_
  · rename_i b12
    have hil : i < n.mains.length := by omega
    change WM _ (Ec ro ch ((sendFrom n dt i).map postV ++ L0)) _ _ _ _ _ _ _
    have hlN := hrN.1
    have hlW := hrW.1
    refine wm_loop (fun k' m t ds S' => ∃ (k : Nat) (t0 : Tm), k' = (periodsN n).length - k ∧ k ≤ (periodsN n).length ∧ [] = ds ∧ ⟨b12, true, .cells (mainC (n.mains[i]'hil)) 72 (0, 0)⟩ :: (ΔN ++ (ΔW ++ (Ω ++ (Δo ++ ⟨b1, true, .cells #[.slice qm n.mains.length cm, b, c, d, e] 28 (0, 0)⟩ :: S)))) = S' ∧ m = ⟨ro, .send ch ((sendRow n dt i k ++ sendFrom n dt (i + 1)).map postV ++ L0)⟩ ∧
        t = den [(69, iv k), (68, iv (periodsN n).length), (67, .slice pa (periodsN n).length pc), (11, iv i), (12, .pointer (some ⟨b12, 0, none⟩)), (62, iv i), (61, iv n.mains.length), (60, .slice qm n.mains.length cm), (7, .slice na lsN.length nc), (8, .slice wa lsW.length wc), (6, .slice pa (periodsN n).length pc), (1, iv dt), (2, .chan (some ch))] t0)
      _ ⟨0, _, rfl, Nat.zero_le _, rfl, rfl, by rw [← sendFrom_at hil], keep ⟨rfl, rfl, rfl, rfl, rfl, rfl, rfl, rfl, rfl, rfl, rfl, rfl, rfl, trivial⟩⟩ ?_
    rintro k' m t ds S' ⟨k, t0, rfl, hk, rfl, rfl, rfl, rfl⟩
    change WM _ (Ec ro ch ((sendRow n dt i k ++ sendFrom n dt (i + 1)).map postV ++ L0)) _ _ _ _ _ _ _
    by_cases hkl : k < (periodsN n).length
    · obtain ⟨aN, cN, eN, _, hsN⟩ := hrN.2 k (by omega)
      obtain ⟨aW, cW, eW, _, hsW⟩ := hrW.2 k (by omega)
      simp only [SlG.v, Value.slice.injEq] at eN eW
      obtain ⟨eN1, eN2, _⟩ := eN
      obtain ⟨eW1, eW2, _⟩ := eW
      rw [← eN1] at hsN
      rw [← eW1] at hsW
      have i5 := SlI.mk hsN
      have i6 := SlI.mk hsW
      have hbN : i < (billsN n (at0 (periodsN n) k) dt).length := by rw [billsN_len]; exact hil
      have hbW : i < (wasN n (at0 (periodsN n) k) dt).length := by rw [wasN_len]; exact hil
      repeat' first|(refine gX ?_;first|refine o_v rfl rfl ?_|(refine o_splitD rfl rfl rfl ?_ ?_<;>intro h)|(refine o_split rfl rfl rfl ?_ ?_<;>intro h<;>fail_if_success exact Bool.noConfusion h)|(refine gL ?_;first|refine o_load rfl rfl rfl rfl ?_|refine o_loadR rfl rfl rfl (by omega) rfl rfl ?_|refine o_loadW rfl rfl rfl rfl ?_|refine o_loadK rfl rfl rfl ?_)|(refine gF ?_;first|refine o_fieldI rfl rfl rfl rfl ?_|refine o_field rfl rfl rfl rfl ?_)|(refine gB ?_;first|refine o_add rfl rfl rfl rfl (by omega) ?_|refine o_sub rfl rfl rfl rfl (by omega) ?_|refine o_eqNil rfl rfl rfl rfl rfl ?_)|(refine gI ?_;first|refine o_indexS (xs := lsN) rfl rfl rfl rfl rfl rfl (by omega) ?_|refine o_indexS (xs := lsW) rfl rfl rfl rfl rfl rfl (by omega) ?_|refine o_indexS (xs := billsN n (at0 (periodsN n) k) dt) rfl rfl rfl rfl rfl eN2 hbN ?_|refine o_indexS (xs := wasN n (at0 (periodsN n) k) dt) rfl rfl rfl rfl rfl eW2 hbW ?_|refine o_indexS rfl rfl rfl rfl rfl rfl (by omega) ?_|refine o_index rfl rfl rfl rfl rfl (by omega) ?_)|(refine gS ?_;first|refine o_store rfl rfl rfl rfl rfl rfl ?_|refine o_storeW rfl rfl rfl rfl rfl rfl ?_)|(refine o_allocZ rfl rfl ?_;intro _)|(refine o_box rfl rfl rfl ?_;intro _)|refine o_skip rfl rfl ?_|refine o_skipN rfl rfl ?_|refine o_iface rfl rfl rfl ?_|refine o_build rfl rfl rfl rfl rfl ?_|(refine o_bslice rfl rfl rfl rfl rfl rfl rfl ?_;intro _)|(refine o_splitP rfl ?_ ?_<;>intro h<;>fail_if_success exact Bool.noConfusion h))|refine o_head0 rfl ?_|refine o_end ?_|refine o_head1 rfl ?_|(show WM _ _ _ _ (.seq (.region 17 _ _) _) _ _ _ _;refine wm_cut (fun t ds S' => ∃ (b15 b16 : Nat) (t0 : Tm), [] = ds ∧ S'.Perm (⟨b15, true, .cells (billC ((billsN n (at0 (periodsN n) k) dt)[i]'hbN)) 47 (0, 0)⟩ :: ⟨b16, true, .cells (billC ((wasN n (at0 (periodsN n) k) dt)[i]'hbW)) 47 (0, 0)⟩ :: ⟨b12, true, .cells (mainC (n.mains[i]'hil)) 72 (0, 0)⟩ :: (ΔN ++ (ΔW ++ (Ω ++ (Δo ++ ⟨b1, true, .cells #[.slice qm n.mains.length cm, b, c, d, e] 28 (0, 0)⟩ :: S))))) ∧ t = den [(15, .pointer (some ⟨b15, 0, none⟩)), (16, .pointer (some ⟨b16, 0, none⟩)), (14, iv (at0 (periodsN n) k)), (69, iv k), (68, iv (periodsN n).length), (67, .slice pa (periodsN n).length pc), (11, iv i), (12, .pointer (some ⟨b12, 0, none⟩)), (62, iv i), (61, iv n.mains.length), (60, .slice qm n.mains.length cm), (7, .slice na lsN.length nc), (8, .slice wa lsW.length wc), (6, .slice pa (periodsN n).length pc), (1, iv dt), (2, .chan (some ch))] t0) ?_ ?_)|(show WM _ _ _ _ (.seq (.region _ _ _) _) _ _ _ _;refine wm_seqP ?_)|(show WM _ _ _ _ (.block _ _) _ _ _ _;refine wm_block ?_)|(show WM _ _ _ _ (.seq (.cond _ .skip (.exit _)) _) _ _ _ _;refine wm_seqP ?_)|(show WM _ _ _ _ (.seq _ _) _ _ _ _;refine wm_seq ?_)|(refine w_condD rfl ?_ ?_<;>intro h<;>try (exact absurd (by omega) h))|refine wp_seq ?_|refine o_region ?_|refine wp_block ?_|refine wp_skip ?_|refine wp_exit ?_|(refine w_condD rfl ?_ ?_<;>intro h)|(refine w_cond rfl ?_ ?_<;>intro h<;>try exact Bool.noConfusion h)|refine w_ret (S) (vs:=[]) rfl Res.nil ?_|refine anyF_of (fn:=156) (by decide +kernel) ?_|refine anyF_v1 (fn:=156) (by decide +kernel) rfl ?_|refine anyF_v0 (fn:=156) (by decide +kernel) rfl ?_|(show WP _ _ _ _ (.region 1 _ true) _ _ _ _;refine o_drawn [(0, false), (3, true), (6, true), (1, false), (2, false), (4, false), (5, false), (7, true), (8, true), (9, true), (10, true), (11, false)] mixed (by kernel_rfl) ?_)|(show WP _ _ _ _ (.region 17 _ true) _ _ _ _;refine o_drawnA [(0, true), (1, true), (2, true), (3, true), (4, true), (5, true), (6, true), (7, true), (8, true), (9, true), (10, true), (11, true), (12, true), (13, true), (14, false), (15, false), (16, false), (17, false)] mixed (by kernel_rfl) ?_)|refine o_br2 (fn:=156) (l:=[(14, false), (15, false), (16, false), (17, false)]) 14 15 [(15, false), (16, false), (17, false)] [(14, false), (16, false), (17, false)] (by kernel_rfl) rfl rfl ?_ ?_
      · rename_i bN bW
        exact ⟨_, List.Sublist.refl _, bN, bW, _, rfl, List.Perm.swap .., keep ⟨rfl, rfl, congrArg (fun q : Int => some (iv q)) (at0_get hkl), rfl, rfl, rfl, rfl, rfl, rfl, rfl, rfl, rfl, rfl, rfl, rfl, rfl, trivial⟩⟩
      · rename_i bW bN
        exact ⟨_, List.Sublist.refl _, bN, bW, _, rfl, List.Perm.refl _, keep ⟨rfl, rfl, congrArg (fun q : Int => some (iv q)) (at0_get hkl), rfl, rfl, rfl, rfl, rfl, rfl, rfl, rfl, rfl, rfl, rfl, rfl, rfl, trivial⟩⟩
      rintro _ _ S2 ⟨b15, b16, t0, rfl, hp, rfl⟩
      refine WM.perm ?_ hp
      have hB : BillOk ((billsN n (at0 (periodsN n) k) dt)[i]'hbN) := by rw [billAt_get]; exact billsN_bd hV
      have hW : BillOk ((wasN n (at0 (periodsN n) k) dt)[i]'hbW) := by rw [billAt_get]; exact wasN_bd hV
      have hrow := sendRow_at (n := n) (d := dt) (i := i) hkl
      unfold BillOk at hB hW
      repeat' first|(refine gX ?_;first|refine o_v rfl rfl ?_|(refine o_splitD rfl rfl rfl ?_ ?_<;>intro h)|(refine o_split rfl rfl rfl ?_ ?_<;>intro h<;>fail_if_success exact Bool.noConfusion h)|(refine gL ?_;first|refine o_load rfl rfl rfl rfl ?_|refine o_loadR rfl rfl rfl (by omega) rfl rfl ?_|refine o_loadW rfl rfl rfl rfl ?_|refine o_loadK rfl rfl rfl ?_)|(refine gF ?_;first|refine o_fieldI rfl rfl rfl rfl ?_|refine o_field rfl rfl rfl rfl ?_)|(refine gB ?_;first|refine o_neS (k := 2) rfl rfl rfl rfl rfl rfl rfl rfl ?_|refine o_add rfl rfl rfl rfl (by omega) ?_|refine o_sub rfl rfl rfl rfl (by omega) ?_|refine o_eqNil rfl rfl rfl rfl rfl ?_)|(refine gI ?_;first|refine o_indexS rfl rfl rfl rfl rfl rfl (by omega) ?_|refine o_index rfl rfl rfl rfl rfl (by omega) ?_)|(refine gS ?_;first|refine o_store rfl rfl rfl rfl rfl rfl ?_|refine o_storeW rfl rfl rfl rfl rfl rfl ?_)|(refine o_allocZ rfl rfl ?_;intro _)|(refine o_box rfl rfl rfl ?_;intro _)|refine o_skip rfl rfl ?_|refine o_skipN rfl rfl ?_|refine o_iface rfl rfl rfl ?_|refine o_build rfl rfl rfl rfl rfl ?_|(refine o_bslice rfl rfl rfl rfl rfl rfl rfl ?_;intro _)|(refine o_splitP rfl ?_ ?_<;>intro h<;>fail_if_success exact Bool.noConfusion h))|refine o_head0 rfl ?_|refine o_end ?_|refine o_head1 rfl ?_|(show WM _ _ _ _ (.seq (.region _ _ _) _) _ _ _ _;refine wm_seqP ?_)|(show WM _ _ _ _ (.seq _ _) _ _ _ _;refine wm_seq ?_)|(refine wm_condD rfl ?_ ?_<;>intro h)|(show WM _ _ _ _ (.region 19 _ _) _ _ _ _;refine wm_regionS 16 1 rfl ?_)|refine wm_skip ?_|(show WM _ _ _ _ (.region 20 _ _) _ _ _ _;refine wm_of ?_)|refine wp_seq ?_|refine o_region ?_|refine wp_block ?_|refine wp_skip ?_|refine wp_exit ?_|(refine w_condD rfl ?_ ?_<;>intro h)|(refine w_cond rfl ?_ ?_<;>intro h<;>try exact Bool.noConfusion h)|refine w_ret (S) (vs:=[]) rfl Res.nil ?_|refine anyF_of (fn:=156) (by decide +kernel) ?_|refine anyF_v1 (fn:=156) (by decide +kernel) rfl ?_|refine anyF_v0 (fn:=156) (by decide +kernel) rfl ?_|(show WP _ _ _ _ (.region 1 _ true) _ _ _ _;refine o_drawn [(0, false), (3, true), (6, true), (1, false), (2, false), (4, false), (5, false), (7, true), (8, true), (9, true), (10, true), (11, false)] mixed (by kernel_rfl) ?_)|(show WP _ _ _ _ (.region 17 _ true) _ _ _ _;refine o_drawnA [(0, true), (1, true), (2, true), (3, true), (4, true), (5, true), (6, true), (7, true), (8, true), (9, true), (10, true), (11, true), (12, true), (13, true), (14, false), (15, false), (16, false), (17, false)] mixed (by kernel_rfl) ?_)|refine o_br2 (fn:=156) (l:=[(14, false), (15, false), (16, false), (17, false)]) 14 15 [(15, false), (16, false), (17, false)] [(14, false), (16, false), (17, false)] (by kernel_rfl) rfl rfl ?_ ?_
      · have hne : ¬ billAt (billsN n (at0 (periodsN n) k) dt) i = billAt (wasN n (at0 (periodsN n) k) dt) i := fun e => h (by rw [billAt_get hbN, billAt_get hbW, e])
        have htag : (sendRow n dt i k ++ sendFrom n dt (i + 1)).map postV ++ L0 = postV ⟨dt, (n.mains[i]'hil).id, at0 (periodsN n) k, ((billsN n (at0 (periodsN n) k) dt)[i]'hbN).gas - ((wasN n (at0 (periodsN n) k) dt)[i]'hbW).gas, ((billsN n (at0 (periodsN n) k) dt)[i]'hbN).penalty - ((wasN n (at0 (periodsN n) k) dt)[i]'hbW).penalty⟩ :: ((sendRow n dt i (k + 1) ++ sendFrom n dt (i + 1)).map postV ++ L0) := by
          rw [hrow]
          unfold postAt
          rw [if_neg hne, billAt_get hbN, billAt_get hbW, idAt_get hil]
          rfl
        refine opsM_send (ro := ro) (c := ch) (v := postV ⟨dt, (n.mains[i]'hil).id, at0 (periodsN n) k, ((billsN n (at0 (periodsN n) k) dt)[i]'hbN).gas - ((wasN n (at0 (periodsN n) k) dt)[i]'hbW).gas, ((billsN n (at0 (periodsN n) k) dt)[i]'hbN).penalty - ((wasN n (at0 (periodsN n) k) dt)[i]'hbW).penalty⟩) (L := (sendRow n dt i (k + 1) ++ sendFrom n dt (i + 1)).map postV ++ L0) rfl ⟨rfl, rfl, congrArg (fun q => (⟨ro, .send ch q⟩ : Mode)) htag⟩ rfl rfl (opsM_nil ?_)
        repeat' first|(refine gX ?_;first|refine o_v rfl rfl ?_|(refine o_splitD rfl rfl rfl ?_ ?_<;>intro h)|(refine o_split rfl rfl rfl ?_ ?_<;>intro h<;>fail_if_success exact Bool.noConfusion h)|(refine gL ?_;first|refine o_load rfl rfl rfl rfl ?_|refine o_loadR rfl rfl rfl (by omega) rfl rfl ?_|refine o_loadW rfl rfl rfl rfl ?_|refine o_loadK rfl rfl rfl ?_)|(refine gF ?_;first|refine o_fieldI rfl rfl rfl rfl ?_|refine o_field rfl rfl rfl rfl ?_)|(refine gB ?_;first|refine o_add rfl rfl rfl rfl (by omega) ?_|refine o_sub rfl rfl rfl rfl (by omega) ?_|refine o_eqNil rfl rfl rfl rfl rfl ?_)|(refine gI ?_;first|refine o_indexS rfl rfl rfl rfl rfl rfl (by omega) ?_|refine o_index rfl rfl rfl rfl rfl (by omega) ?_)|(refine gS ?_;first|refine o_store rfl rfl rfl rfl rfl rfl ?_|refine o_storeW rfl rfl rfl rfl rfl rfl ?_)|(refine o_allocZ rfl rfl ?_;intro _)|(refine o_box rfl rfl rfl ?_;intro _)|refine o_skip rfl rfl ?_|refine o_skipN rfl rfl ?_|refine o_iface rfl rfl rfl ?_|refine o_build rfl rfl rfl rfl rfl ?_|(refine o_bslice rfl rfl rfl rfl rfl rfl rfl ?_;intro _)|(refine o_splitP rfl ?_ ?_<;>intro h<;>fail_if_success exact Bool.noConfusion h))|refine o_head0 rfl ?_|refine o_end ?_|refine o_head1 rfl ?_|(show WM _ _ _ _ (.region 20 _ _) _ _ _ _;refine wm_of ?_)|refine wp_seq ?_|refine o_region ?_|refine wp_block ?_|refine wp_skip ?_|refine wp_exit ?_|(refine w_condD rfl ?_ ?_<;>intro h)|(refine w_cond rfl ?_ ?_<;>intro h<;>try exact Bool.noConfusion h)|refine w_ret (S) (vs:=[]) rfl Res.nil ?_|refine anyF_of (fn:=156) (by decide +kernel) ?_|refine anyF_v1 (fn:=156) (by decide +kernel) rfl ?_|refine anyF_v0 (fn:=156) (by decide +kernel) rfl ?_|(show WP _ _ _ _ (.region 1 _ true) _ _ _ _;refine o_drawn [(0, false), (3, true), (6, true), (1, false), (2, false), (4, false), (5, false), (7, true), (8, true), (9, true), (10, true), (11, false)] mixed (by kernel_rfl) ?_)|(show WP _ _ _ _ (.region 17 _ true) _ _ _ _;refine o_drawnA [(0, true), (1, true), (2, true), (3, true), (4, true), (5, true), (6, true), (7, true), (8, true), (9, true), (10, true), (11, true), (12, true), (13, true), (14, false), (15, false), (16, false), (17, false)] mixed (by kernel_rfl) ?_)|refine o_br2 (fn:=156) (l:=[(14, false), (15, false), (16, false), (17, false)]) 14 15 [(15, false), (16, false), (17, false)] [(14, false), (16, false), (17, false)] (by kernel_rfl) rfl rfl ?_ ?_
        exact ⟨(periodsN n).length - (k + 1), by omega, _, .cons _ (.cons _ (List.Sublist.refl _)), k + 1, _, rfl, by omega, rfl, rfl, rfl, keep ⟨rfl, rfl, rfl, rfl, rfl, rfl, rfl, rfl, rfl, rfl, rfl, rfl, rfl, trivial⟩⟩
      · have heq : billAt (billsN n (at0 (periodsN n) k) dt) i = billAt (wasN n (at0 (periodsN n) k) dt) i := by
          have h' := Classical.not_not.1 h
          simp only [List.cons.injEq, and_true] at h'
          rw [← billAt_get hbN, ← billAt_get hbW]
          generalize (billsN n (at0 (periodsN n) k) dt)[i] = x at h'
          generalize (wasN n (at0 (periodsN n) k) dt)[i] = y at h'
          cases x
          cases y
          simp only [BillG.mk.injEq]
          exact h'
        have hskip : sendRow n dt i k = sendRow n dt i (k + 1) := by
          rw [hrow]
          unfold postAt
          rw [if_pos heq]
          rfl
        exact ⟨(periodsN n).length - (k + 1), by omega, _, .cons _ (.cons _ (List.Sublist.refl _)), k + 1, _, rfl, by omega, rfl, rfl, by rw [hskip], keep ⟨rfl, rfl, rfl, rfl, rfl, rfl, rfl, rfl, rfl, rfl, rfl, rfl, rfl, trivial⟩⟩
    · have hke : k = (periodsN n).length := by omega
      subst hke
      repeat' first|(refine gX ?_;first|refine o_v rfl rfl ?_|(refine o_splitD rfl rfl rfl ?_ ?_<;>intro h)|(refine o_split rfl rfl rfl ?_ ?_<;>intro h<;>fail_if_success exact Bool.noConfusion h)|(refine gL ?_;first|refine o_load rfl rfl rfl rfl ?_|refine o_loadR rfl rfl rfl (by omega) rfl rfl ?_|refine o_loadW rfl rfl rfl rfl ?_|refine o_loadK rfl rfl rfl ?_)|(refine gF ?_;first|refine o_fieldI rfl rfl rfl rfl ?_|refine o_field rfl rfl rfl rfl ?_)|(refine gB ?_;first|refine o_add rfl rfl rfl rfl (by omega) ?_|refine o_sub rfl rfl rfl rfl (by omega) ?_|refine o_eqNil rfl rfl rfl rfl rfl ?_)|(refine gI ?_;first|refine o_indexS rfl rfl rfl rfl rfl rfl (by omega) ?_|refine o_index rfl rfl rfl rfl rfl (by omega) ?_)|(refine gS ?_;first|refine o_store rfl rfl rfl rfl rfl rfl ?_|refine o_storeW rfl rfl rfl rfl rfl rfl ?_)|(refine o_allocZ rfl rfl ?_;intro _)|(refine o_box rfl rfl rfl ?_;intro _)|refine o_skip rfl rfl ?_|refine o_skipN rfl rfl ?_|refine o_iface rfl rfl rfl ?_|refine o_build rfl rfl rfl rfl rfl ?_|(refine o_bslice rfl rfl rfl rfl rfl rfl rfl ?_;intro _)|(refine o_splitP rfl ?_ ?_<;>intro h<;>fail_if_success exact Bool.noConfusion h))|refine o_head0 rfl ?_|refine o_end ?_|refine o_head1 rfl ?_|(show WM _ _ _ _ (.seq (.region _ _ _) _) _ _ _ _;refine wm_seqP ?_)|(show WM _ _ _ _ (.seq (.cond _ .skip (.exit _)) _) _ _ _ _;refine wm_seqP ?_)|(refine w_condD rfl ?_ ?_<;>intro h<;>try (exact absurd h (by omega)))|(show WM _ _ _ _ (.region 21 _ _) _ _ _ _;refine wm_of ?_)|refine wp_seq ?_|refine o_region ?_|refine wp_block ?_|refine wp_skip ?_|refine wp_exit ?_|(refine w_condD rfl ?_ ?_<;>intro h)|(refine w_cond rfl ?_ ?_<;>intro h<;>try exact Bool.noConfusion h)|refine w_ret (S) (vs:=[]) rfl Res.nil ?_|refine anyF_of (fn:=156) (by decide +kernel) ?_|refine anyF_v1 (fn:=156) (by decide +kernel) rfl ?_|refine anyF_v0 (fn:=156) (by decide +kernel) rfl ?_|(show WP _ _ _ _ (.region 1 _ true) _ _ _ _;refine o_drawn [(0, false), (3, true), (6, true), (1, false), (2, false), (4, false), (5, false), (7, true), (8, true), (9, true), (10, true), (11, false)] mixed (by kernel_rfl) ?_)|(show WP _ _ _ _ (.region 17 _ true) _ _ _ _;refine o_drawnA [(0, true), (1, true), (2, true), (3, true), (4, true), (5, true), (6, true), (7, true), (8, true), (9, true), (10, true), (11, true), (12, true), (13, true), (14, false), (15, false), (16, false), (17, false)] mixed (by kernel_rfl) ?_)|refine o_br2 (fn:=156) (l:=[(14, false), (15, false), (16, false), (17, false)]) 14 15 [(15, false), (16, false), (17, false)] [(14, false), (16, false), (17, false)] (by kernel_rfl) rfl rfl ?_ ?_
      exact ⟨n.mains.length - (i + 1), by omega, _, .cons _ (List.Sublist.refl _), i + 1, _, rfl, by omega, rfl, rfl, by show (⟨ro, .send ch ((sendRow n dt i (periodsN n).length ++ sendFrom n dt (i + 1)).map postV ++ L0)⟩ : Mode) = _; rw [sendRow_end (Nat.le_refl _), List.nil_append], keep ⟨rfl, rfl, rfl, rfl, rfl, rfl, rfl, rfl, trivial⟩⟩
  · have hie : i = n.mains.length := by omega
    subst hie
    refine w_fall (res_sem Res.nil ?_)
    refine ⟨?_, Sb.h⟩
    show (⟨ro, .send ch ((sendFrom n dt n.mains.length).map postV ++ L0)⟩ : Mode) = _
    rw [sendFrom_end (Nat.le_refl _)]
    rfl
end Go.Proofs.YtpnnmklacialgaaGreat
namespace Go.Proofs.YtpnnmklacialgaaGreat
open Go.Conc
attribute [local irreducible] WP OpF OpX CallW SemH retQ AnyF RoundW WM OpsM CallM

/-! what sorted lists hold -/
theorem ddT_sub {xs : List Int} {x : Int} : ∀ {j : Nat}, j ≤ xs.length → x ∈ ddT xs j → x ∈ xs
  | 0, _, h => by simp [ddT] at h
  | j + 1, hj, h => by
    replace h : x ∈ ddT xs j ++ _ := h
    rcases List.mem_append.1 h with h | h
    · exact ddT_sub (by omega) h
    · split at h
      · rw [List.mem_singleton.1 h, ← at0_get (by omega)]
        exact List.getElem_mem _
      · cases h
theorem sortedL_sub {xss : List (List Int)} {x : Int} (h : x ∈ sortedL xss) : x ∈ xss.flatten := by
  unfold sortedL dd at h
  have := ddT_sub (Nat.le_refl _) h
  exact (srtL_perm _).mem_iff.1 this
theorem head_night {s m p k t : Int} (h : headOk s m p k t = true) : 0 ≤ k ∧ k ≤ 100000 ∧ (t = 0 ∨ k < t ∧ t ≤ 100000) := by
  simp only [headOk, Bool.and_eq_true, lastsOk, decide_eq_true_eq] at h
  exact h.2
theorem datesN_ok {n : NetG} (h : Valid n) {d : Int} (hd : d ∈ datesN n) : 0 ≤ d ∧ d ≤ 100000 := by
  have := sortedL_sub hd
  simp only [nightsL, List.flatten_cons, List.flatten_nil, List.append_nil, List.mem_append, List.mem_flatMap] at this
  rcases this with ⟨x, hx, h1⟩ | ⟨x, hx, h1⟩ | ⟨x, hx, h1⟩
  · have h2 := (h.uses x hx).1
    simp only [useOk, Bool.and_eq_true] at h2
    have h3 := head_night h2.1.1
    unfold nightsUse at h1
    split at h1 <;> simp at h1 <;> omega
  · have h2 := (h.reads x hx).1
    simp only [readOk, Bool.and_eq_true] at h2
    have h3 := head_night h2.1
    unfold nightsRead at h1
    split at h1 <;> simp at h1 <;> omega
  · have h2 := (h.faults x hx).1
    simp only [faultOk, Bool.and_eq_true] at h2
    have h3 := head_night h2.1
    unfold nightsFault at h1
    split at h1 <;> simp at h1 <;> omega
def postsFrom (n : NetG) (known : Int) (j : Nat) : List PostG := ((datesN n).drop j).flatMap fun d => if d ≤ known then sendN n d else []
def postsN (n : NetG) (known : Int) : List PostG := postsFrom n known 0
theorem postsFrom_at {n : NetG} {known : Int} {j : Nat} (h : j < (datesN n).length) : postsFrom n known j = (if at0 (datesN n) j ≤ known then sendN n (at0 (datesN n) j) else []) ++ postsFrom n known (j + 1) := by
  unfold postsFrom
  rw [List.drop_eq_getElem_cons h, List.flatMap_cons, at0_get]
theorem postsFrom_end {n : NetG} {known : Int} {j : Nat} (h : (datesN n).length ≤ j) : postsFrom n known j = [] := by
  unfold postsFrom
  rw [List.drop_eq_nil_of_le h]
  rfl

theorem c155 (R : Ents) (n : NetG) (a b c d e : Value) (ro : Nat → Prop) (ch bt bn bk : Nat) (known : Int) (hn : NetV R a b c d e n) (hV : Valid n) (hs : SortOk (timesL n).flatten) (hs2 : SortOk (nightsL n).flatten) :
    WM Tryz.prog (Ec ro ch ((postsN n known).map postV)) 155 Tryz.f155.ntmps (Tryz.f155.body.getD .skip) (fun m' e t ds S => m' = ⟨ro, .send ch []⟩ ∧ (e = .normal ∨ e = .ret) ∧ ∃ ats ty cst, ds = [closeD ch ats ty cst])
      (den (dens [.pointer (some ⟨bt, 0, none⟩), .pointer (some ⟨bn, 0, none⟩), .pointer (some ⟨bk, 0, none⟩)] 0) fun _ => undef) [] (⟨bt, false, .cells #[.chan (some ch)] 207 (0, 0)⟩ :: ⟨bn, false, .cells #[a, b, c, d, e] 28 (0, 0)⟩ :: ⟨bk, false, .cells #[iv known] 3 (0, 0)⟩ :: R) := by
  have hdl := nightsL_len hV
  have hpl : (datesN n).length ≤ (nightsL n).flatten.length := sortedL_len
  refine wm_seq ?_
  refine wm_regionS 1 1 rfl ?_
  repeat' first|(refine gX ?_;first|refine o_v rfl rfl ?_|(refine o_splitD rfl rfl rfl ?_ ?_<;>intro h)|(refine o_split rfl rfl rfl ?_ ?_<;>intro h<;>fail_if_success exact Bool.noConfusion h)|(refine gL ?_;first|refine o_load rfl rfl rfl rfl ?_|refine o_loadR rfl rfl rfl (by omega) rfl rfl ?_|refine o_loadW rfl rfl rfl rfl ?_|refine o_loadK rfl rfl rfl ?_)|(refine gF ?_;first|refine o_fieldI rfl rfl rfl rfl ?_|refine o_field rfl rfl rfl rfl ?_)|(refine gB ?_;first|refine o_add rfl rfl rfl rfl (by omega) ?_|refine o_sub rfl rfl rfl rfl (by omega) ?_|refine o_eqNil rfl rfl rfl rfl rfl ?_)|(refine gI ?_;first|refine o_indexS rfl rfl rfl rfl rfl rfl (by omega) ?_|refine o_index rfl rfl rfl rfl rfl (by omega) ?_)|(refine gS ?_;first|refine o_store rfl rfl rfl rfl rfl rfl ?_|refine o_storeW rfl rfl rfl rfl rfl rfl ?_)|(refine o_allocZ rfl rfl ?_;intro _)|(refine o_box rfl rfl rfl ?_;intro _)|refine o_skip rfl rfl ?_|refine o_skipN rfl rfl ?_|refine o_iface rfl rfl rfl ?_|refine o_build rfl rfl rfl rfl rfl ?_|(refine o_bslice rfl rfl rfl rfl rfl rfl rfl ?_;intro _)|(refine o_splitP rfl ?_ ?_<;>intro h<;>fail_if_success exact Bool.noConfusion h))|refine o_head0 rfl ?_|refine o_end ?_|refine o_head1 rfl ?_|refine wp_seq ?_|refine o_region ?_|refine wp_block ?_|refine wp_skip ?_|refine wp_exit ?_|(refine w_condD rfl ?_ ?_<;>intro h)|(refine w_cond rfl ?_ ?_<;>intro h<;>try exact Bool.noConfusion h)|refine w_ret (S) (vs:=[]) rfl Res.nil ?_
  refine opsM_defer (c := ch) rfl rfl rfl (opsM_nil ?_)
  change WM _ (Ec ro ch ((postsN n known).map postV)) _ _ _ _ _ _ _
  repeat' first|(refine gX ?_;first|refine o_v rfl rfl ?_|(refine o_splitD rfl rfl rfl ?_ ?_<;>intro h)|(refine o_split rfl rfl rfl ?_ ?_<;>intro h<;>fail_if_success exact Bool.noConfusion h)|(refine gL ?_;first|refine o_load rfl rfl rfl rfl ?_|refine o_loadR rfl rfl rfl (by omega) rfl rfl ?_|refine o_loadW rfl rfl rfl rfl ?_|refine o_loadK rfl rfl rfl ?_)|(refine gF ?_;first|refine o_fieldI rfl rfl rfl rfl ?_|refine o_field rfl rfl rfl rfl ?_)|(refine gB ?_;first|refine o_add rfl rfl rfl rfl (by omega) ?_|refine o_sub rfl rfl rfl rfl (by omega) ?_|refine o_eqNil rfl rfl rfl rfl rfl ?_)|(refine gC ?_;first|(refine o_callZ (R:=fun r S' => ∃ Δ, Own r (datesN n) Δ ∧ S' = Δ ++ _) rfl rfl rfl (c97 _ _ n _ _ _ _ _ (hn.sub Sb.h) hV hs2) ?_;rintro r _ ⟨Δo, hoo, rfl⟩;obtain ⟨da, dc, rfl, _, hda⟩ := hoo.slv;refine ⟨inferInstance, ?_⟩))|(refine gI ?_;first|refine o_indexS rfl rfl rfl rfl rfl rfl (by omega) ?_|refine o_index rfl rfl rfl rfl rfl (by omega) ?_)|(refine gS ?_;first|refine o_store rfl rfl rfl rfl rfl rfl ?_|refine o_storeW rfl rfl rfl rfl rfl rfl ?_)|(refine o_allocZ rfl rfl ?_;intro _)|(refine o_box rfl rfl rfl ?_;intro _)|refine o_skip rfl rfl ?_|refine o_skipN rfl rfl ?_|refine o_iface rfl rfl rfl ?_|refine o_build rfl rfl rfl rfl rfl ?_|(refine o_bslice rfl rfl rfl rfl rfl rfl rfl ?_;intro _)|(refine o_splitP rfl ?_ ?_<;>intro h<;>fail_if_success exact Bool.noConfusion h))|refine o_head0 rfl ?_|refine o_end ?_|refine o_head1 rfl ?_|(show WM _ _ _ _ (.seq (.region _ _ _) _) _ _ _ _;refine wm_seqP ?_)|(show WM _ _ _ _ (.block _ _) _ _ _ _;refine wm_block ?_)|refine wp_seq ?_|refine o_region ?_|refine wp_block ?_|refine wp_skip ?_|refine wp_exit ?_|(refine w_condD rfl ?_ ?_<;>intro h)|(refine w_cond rfl ?_ ?_<;>intro h<;>try exact Bool.noConfusion h)|refine w_ret (S) (vs:=[]) rfl Res.nil ?_
  have i1 := SlI.mk hda
  refine wm_loop (fun i' m t ds S' => ∃ (j : Nat) (t0 : Tm), i' = (datesN n).length - j ∧ j ≤ (datesN n).length ∧ [closeD ch #[207] 0 #[false]] = ds ∧ Δo ++ ⟨bt, false, .cells #[.chan (some ch)] 207 (0, 0)⟩ :: ⟨bn, false, .cells #[a, b, c, d, e] 28 (0, 0)⟩ :: ⟨bk, false, .cells #[iv known] 3 (0, 0)⟩ :: R = S' ∧ m = ⟨ro, .send ch ((postsFrom n known j).map postV)⟩ ∧
      t = den [(9, iv j), (8, iv (datesN n).length), (7, .slice da (datesN n).length dc), (0, .pointer (some ⟨bt, 0, none⟩)), (1, .pointer (some ⟨bn, 0, none⟩)), (2, .pointer (some ⟨bk, 0, none⟩))] t0)
    _ ⟨0, _, rfl, Nat.zero_le _, rfl, rfl, rfl, keep ⟨rfl, rfl, rfl, rfl, rfl, rfl, trivial⟩⟩ ?_
  rintro i' m t ds S' ⟨j, t0, rfl, hj, rfl, rfl, rfl, rfl⟩
  change WM _ (Ec ro ch ((postsFrom n known j).map postV)) _ _ _ _ _ _ _
  by_cases hjl : j < (datesN n).length
  · have hat := postsFrom_at (known := known) hjl
    have hdo : 0 ≤ at0 (datesN n) j ∧ at0 (datesN n) j ≤ 100000 := datesN_ok hV (by rw [← at0_get hjl]; exact List.getElem_mem _)
    have hge : (datesN n)[j] = at0 (datesN n) j := at0_get hjl
    repeat' first|(refine gX ?_;first|refine o_v rfl rfl ?_|(refine o_splitD rfl rfl rfl ?_ ?_<;>intro h)|(refine o_split rfl rfl rfl ?_ ?_<;>intro h<;>fail_if_success exact Bool.noConfusion h)|(refine gL ?_;first|refine o_load rfl rfl rfl rfl ?_|refine o_loadR rfl rfl rfl (by omega) rfl rfl ?_|refine o_loadW rfl rfl rfl rfl ?_|refine o_loadK rfl rfl rfl ?_)|(refine gF ?_;first|refine o_fieldI rfl rfl rfl rfl ?_|refine o_field rfl rfl rfl rfl ?_)|(refine gB ?_;first|refine o_add rfl rfl rfl rfl (by omega) ?_|refine o_sub rfl rfl rfl rfl (by omega) ?_|refine o_eqNil rfl rfl rfl rfl rfl ?_)|(refine gI ?_;first|refine o_indexS rfl rfl rfl rfl rfl rfl (by omega) ?_|refine o_index rfl rfl rfl rfl rfl (by omega) ?_)|(refine gS ?_;first|refine o_store rfl rfl rfl rfl rfl rfl ?_|refine o_storeW rfl rfl rfl rfl rfl rfl ?_)|(refine o_allocZ rfl rfl ?_;intro _)|(refine o_box rfl rfl rfl ?_;intro _)|refine o_skip rfl rfl ?_|refine o_skipN rfl rfl ?_|refine o_iface rfl rfl rfl ?_|refine o_build rfl rfl rfl rfl rfl ?_|(refine o_bslice rfl rfl rfl rfl rfl rfl rfl ?_;intro _)|(refine o_splitP rfl ?_ ?_<;>intro h<;>fail_if_success exact Bool.noConfusion h))|refine o_head0 rfl ?_|refine o_end ?_|refine o_head1 rfl ?_|(show WM _ _ _ _ (.seq (.region _ _ _) _) _ _ _ _;refine wm_seqP ?_)|(show WM _ _ _ _ (.seq (.cond _ .skip (.exit _)) _) _ _ _ _;refine wm_seqP ?_)|(show WM _ _ _ _ (.seq _ _) _ _ _ _;refine wm_seq ?_)|(show WM _ _ _ _ (.block _ _) _ _ _ _;refine wm_block ?_)|(refine w_condD rfl ?_ ?_<;>intro h<;>try (exact absurd (by omega) h))|(refine wm_condD rfl ?_ ?_<;>intro h)|(show WM _ _ _ _ (.region 5 _ _) _ _ _ _;refine wm_regionS 3 1 rfl ?_)|refine wm_skip ?_|(show WM _ _ _ _ (.region 6 _ _) _ _ _ _;refine wm_of ?_)|refine wp_seq ?_|refine o_region ?_|refine wp_block ?_|refine wp_skip ?_|refine wp_exit ?_|(refine w_condD rfl ?_ ?_<;>intro h)|(refine w_cond rfl ?_ ?_<;>intro h<;>try exact Bool.noConfusion h)|refine w_ret (S) (vs:=[]) rfl Res.nil ?_
    · rw [hge] at h
      have htag : (postsFrom n known j).map postV = (sendN n (at0 (datesN n) j)).map postV ++ (postsFrom n known (j + 1)).map postV := by rw [hat, if_pos h, List.map_append]
      have hcall : CallM Tryz.prog (Ec ro ch ((postsFrom n known j).map postV)) 156 #[.agg #[a, b, c, d, e], iv (datesN n)[j], .chan (some ch)] (Δo ++ ⟨bt, false, .cells #[.chan (some ch)] 207 (0, 0)⟩ :: ⟨bn, false, .cells #[a, b, c, d, e] 28 (0, 0)⟩ :: ⟨bk, false, .cells #[iv known] 3 (0, 0)⟩ :: R) fun m' r S' => m' = ⟨ro, .send ch ((postsFrom n known (j + 1)).map postV)⟩ ∧ List.Sublist (Δo ++ ⟨bt, false, .cells #[.chan (some ch)] 207 (0, 0)⟩ :: ⟨bn, false, .cells #[a, b, c, d, e] 28 (0, 0)⟩ :: ⟨bk, false, .cells #[iv known] 3 (0, 0)⟩ :: R) S' := by
        rw [htag, hge]
        exact c156 _ n a b c d e ro ch _ _ (hn.sub Sb.h) hV hs hdo
      refine opsM_call rfl rfl rfl hcall ?_
      rintro m' v S' ⟨rfl, hsub⟩
      refine opsM_nil ?_
      repeat' first|(refine gX ?_;first|refine o_v rfl rfl ?_|(refine o_splitD rfl rfl rfl ?_ ?_<;>intro h)|(refine o_split rfl rfl rfl ?_ ?_<;>intro h<;>fail_if_success exact Bool.noConfusion h)|(refine gL ?_;first|refine o_load rfl rfl rfl rfl ?_|refine o_loadR rfl rfl rfl (by omega) rfl rfl ?_|refine o_loadW rfl rfl rfl rfl ?_|refine o_loadK rfl rfl rfl ?_)|(refine gF ?_;first|refine o_fieldI rfl rfl rfl rfl ?_|refine o_field rfl rfl rfl rfl ?_)|(refine gB ?_;first|refine o_add rfl rfl rfl rfl (by omega) ?_|refine o_sub rfl rfl rfl rfl (by omega) ?_|refine o_eqNil rfl rfl rfl rfl rfl ?_)|(refine gI ?_;first|refine o_indexS rfl rfl rfl rfl rfl rfl (by omega) ?_|refine o_index rfl rfl rfl rfl rfl (by omega) ?_)|(refine gS ?_;first|refine o_store rfl rfl rfl rfl rfl rfl ?_|refine o_storeW rfl rfl rfl rfl rfl rfl ?_)|(refine o_allocZ rfl rfl ?_;intro _)|(refine o_box rfl rfl rfl ?_;intro _)|refine o_skip rfl rfl ?_|refine o_skipN rfl rfl ?_|refine o_iface rfl rfl rfl ?_|refine o_build rfl rfl rfl rfl rfl ?_|(refine o_bslice rfl rfl rfl rfl rfl rfl rfl ?_;intro _)|(refine o_splitP rfl ?_ ?_<;>intro h<;>fail_if_success exact Bool.noConfusion h))|refine o_head0 rfl ?_|refine o_end ?_|refine o_head1 rfl ?_|(show WM _ _ _ _ (.region 6 _ _) _ _ _ _;refine wm_of ?_)|refine wp_seq ?_|refine o_region ?_|refine wp_block ?_|refine wp_skip ?_|refine wp_exit ?_|(refine w_condD rfl ?_ ?_<;>intro h)|(refine w_cond rfl ?_ ?_<;>intro h<;>try exact Bool.noConfusion h)|refine w_ret (S) (vs:=[]) rfl Res.nil ?_
      exact ⟨(datesN n).length - (j + 1), by omega, _, hsub, j + 1, _, rfl, by omega, rfl, rfl, rfl, keep ⟨rfl, rfl, rfl, rfl, rfl, rfl, trivial⟩⟩
    · rw [hge] at h
      have hskip : postsFrom n known j = postsFrom n known (j + 1) := by rw [hat, if_neg h]; rfl
      exact ⟨(datesN n).length - (j + 1), by omega, _, List.Sublist.refl _, j + 1, _, rfl, by omega, rfl, rfl, by rw [← hskip], keep ⟨rfl, rfl, rfl, rfl, rfl, rfl, trivial⟩⟩
  · have hje : j = (datesN n).length := by omega
    subst hje
    repeat' first|(refine gX ?_;first|refine o_v rfl rfl ?_|(refine o_splitD rfl rfl rfl ?_ ?_<;>intro h)|(refine o_split rfl rfl rfl ?_ ?_<;>intro h<;>fail_if_success exact Bool.noConfusion h)|(refine gL ?_;first|refine o_load rfl rfl rfl rfl ?_|refine o_loadR rfl rfl rfl (by omega) rfl rfl ?_|refine o_loadW rfl rfl rfl rfl ?_|refine o_loadK rfl rfl rfl ?_)|(refine gF ?_;first|refine o_fieldI rfl rfl rfl rfl ?_|refine o_field rfl rfl rfl rfl ?_)|(refine gB ?_;first|refine o_add rfl rfl rfl rfl (by omega) ?_|refine o_sub rfl rfl rfl rfl (by omega) ?_|refine o_eqNil rfl rfl rfl rfl rfl ?_)|(refine gI ?_;first|refine o_indexS rfl rfl rfl rfl rfl rfl (by omega) ?_|refine o_index rfl rfl rfl rfl rfl (by omega) ?_)|(refine gS ?_;first|refine o_store rfl rfl rfl rfl rfl rfl ?_|refine o_storeW rfl rfl rfl rfl rfl rfl ?_)|(refine o_allocZ rfl rfl ?_;intro _)|(refine o_box rfl rfl rfl ?_;intro _)|refine o_skip rfl rfl ?_|refine o_skipN rfl rfl ?_|refine o_iface rfl rfl rfl ?_|refine o_build rfl rfl rfl rfl rfl ?_|(refine o_bslice rfl rfl rfl rfl rfl rfl rfl ?_;intro _)|(refine o_splitP rfl ?_ ?_<;>intro h<;>fail_if_success exact Bool.noConfusion h))|refine o_head0 rfl ?_|refine o_end ?_|refine o_head1 rfl ?_|(show WM _ _ _ _ (.seq (.region _ _ _) _) _ _ _ _;refine wm_seqP ?_)|(show WM _ _ _ _ (.seq (.cond _ .skip (.exit _)) _) _ _ _ _;refine wm_seqP ?_)|(refine w_condD rfl ?_ ?_<;>intro h<;>try (exact absurd h (by omega)))|refine wp_seq ?_|refine o_region ?_|refine wp_block ?_|refine wp_skip ?_|refine wp_exit ?_|(refine w_condD rfl ?_ ?_<;>intro h)|(refine w_cond rfl ?_ ?_<;>intro h<;>try exact Bool.noConfusion h)|refine w_ret (S) (vs:=[]) rfl Res.nil ?_
    refine ⟨?_, .inl rfl, _, _, _, rfl⟩
    show (⟨ro, .send ch ((postsFrom n known (datesN n).length).map postV)⟩ : Mode) = _
    rw [postsFrom_end (Nat.le_refl _)]
    rfl

/-- Flags may be lowered: what was mine alone is then known as read by others too. -/
inductive LowS : Ents → Ents → Prop
  | refl {S : Ents} : LowS S S
  | keep {e : Ent} {S' S : Ents} : LowS S' S → LowS (e :: S') (e :: S)
  | low {b : Nat} {o : Obj} {S' S : Ents} : LowS S' S → LowS (⟨b, false, o⟩ :: S') (⟨b, true, o⟩ :: S)
theorem LowS.mem {S' S : Ents} (h : LowS S' S) : ∀ e' ∈ S', ∃ e ∈ S, e.blk = e'.blk ∧ e.obj = e'.obj ∧ (e'.mine = true → e.mine = true) ∧ (e.mine = false → e'.mine = false) := by
  induction h with
  | refl => exact fun e he => ⟨e, he, rfl, rfl, id, id⟩
  | keep _ ih =>
    intro e' he
    rcases List.mem_cons.1 he with rfl | he
    · exact ⟨_, .head _, rfl, rfl, id, id⟩
    · obtain ⟨e, h1, h2⟩ := ih e' he; exact ⟨e, .tail _ h1, h2⟩
  | low _ ih =>
    intro e' he
    rcases List.mem_cons.1 he with rfl | he
    · exact ⟨_, .head _, rfl, rfl, fun _ => rfl, fun h => (by cases h)⟩
    · obtain ⟨e, h1, h2⟩ := ih e' he; exact ⟨e, .tail _ h1, h2⟩
theorem LowS.app {S' S : Ents} (h : LowS S' S) (F : Ents) : LowS (S' ++ F) (S ++ F) := by
  induction h with
  | refl => exact .refl
  | keep _ ih => exact .keep ih
  | low _ ih => exact .low ih
theorem LowS.apart {S' S : Ents} (h : LowS S' S) (hp : S.Pairwise fun e e' => (e.mine = true ∨ e'.mine = true) → e.blk ≠ e'.blk) : S'.Pairwise fun e e' => (e.mine = true ∨ e'.mine = true) → e.blk ≠ e'.blk := by
  induction h with
  | refl => exact hp
  | keep h ih =>
    obtain ⟨h1, h2⟩ := List.pairwise_cons.1 hp
    refine List.pairwise_cons.2 ⟨fun e' he hm => ?_, ih h2⟩
    obtain ⟨e, g1, g2, g3, g4, _⟩ := h.mem e' he
    rw [← g2]
    exact h1 e g1 (hm.imp id g4)
  | low h ih =>
    obtain ⟨h1, h2⟩ := List.pairwise_cons.1 hp
    refine List.pairwise_cons.2 ⟨fun e' he hm => ?_, ih h2⟩
    obtain ⟨e, g1, g2, g3, g4, _⟩ := h.mem e' he
    rw [← g2]
    exact h1 e g1 (.inl rfl)
theorem Holds.low {S' S : Ents} {w : World} {O ro : Nat → Prop} (h : Holds S w O ro) (hl : LowS S' S) : Holds S' w O ro :=
  ⟨fun e' he => by
    obtain ⟨e, g1, g2, g3, _, g5⟩ := hl.mem e' he
    obtain ⟨k1, k2⟩ := h.each e g1
    rw [← g2, ← g3]
    exact ⟨k1, k2.imp id fun x => ⟨g5 x.1, x.2⟩⟩, hl.apart h.apart⟩
theorem OpsM.low {P : Program} {E : Env} {fn n : Nat} {ops : Array Oper} {todo : List Nat} {K : Mode → Tm → List Deferred → Ents → Prop} {t : Tm} {ds : List Deferred} {S S' : Ents} (h : OpsM P E fn n ops todo K t ds S') (hl : LowS S' S) : OpsM P E fn n ops todo K t ds S := by
  unfold OpsM at *
  exact fun F b arr k cs w O Stop h1 h2 h3 h4 h5 => h F b arr k cs w O Stop h1 h2 h3 (h4.low (hl.app F)) h5
theorem CallW.low {P : Program} {E : Env} {f : FuncId} {args : Array Value} {R : Value → Ents → Prop} {S S' : Ents} (h : CallW P E f args S' R) (hl : LowS S' S) : CallW P E f args S R := by
  unfold CallW at *
  exact ⟨h.1, fun F c cs w O Stop h1 h2 => h.2 F c cs w O Stop (h1.low (hl.app F)) h2⟩

/-- A channel without room is made. -/
theorem o_chan {E : Env} {fn n : Nat} {K : Tm → List Deferred → Ents → Prop} {l : TL} {t : Tm} {ds : List Deferred} {S Z Zi : Ents} {ops : Array Oper} {i : Nat} {z : Bool} {rest : List (Nat × Bool)} {sq : Bool} {d : Nat} {ty : TypeId} {pos : String} {af : Array Edge} {g : Option (Nat × Bool)} {ct e sz by' : Nat} {x : Operand}
    (hw : wantL ops l t g = some true) (hd : Nat.blt d n = true) (hc : chanT Tryz.prog ct = some e) [he : Eb e sz by'] (hx : evL l t x = some (.int .i64 0))
    (h : ∀ c, OpF Tryz.prog E fn n ops sq rest K (den ((d, .chan (some c)) :: l) t) ds Z (⟨c, true, .chan 0 #[] false 0 0 false⟩ :: S)) : OpX Tryz.prog E fn n ops sq i z rest ⟨some d, .makeChan ct x, ty, pos, af, g⟩ K (den l t) ds Zi Z S := by
  obtain ⟨dir, hu⟩ := chanT_ok hc
  refine o_A rfl (R := fun u S' => ∃ c, u = .chan (some c) ∧ S' = ⟨c, true, .chan 0 #[] false 0 0 false⟩ :: S) (exec_of hw hd rfl rfl ?_) (by rintro _ _ ⟨c, rfl, rfl⟩; exact ⟨Z, fun _ hz => ⟨fun _ => List.Sublist.refl _, .cons _ hz⟩, h c⟩)
  unfold OpH execOp
  refine semH_bind (?_ : SemH Tryz.prog E.m (Instr.makeChan ct (ev (den l t) x)) S _)
  rw [evL_eq hx]
  unfold Instr.makeChan
  refine semH_bind (semH_pure ?_)
  refine semH_bind (semH_underlying hu ?_)
  simp only
  refine semH_bytes he.h.1 fun i hi => ?_
  rw [if_neg (by simp [IntKind.max, IntKind.signed, IntKind.bits])]
  refine semH_bind (semH_new fun c => semH_pure (semH_pure ⟨_, .inl rfl, c, rfl, rfl⟩))
end Go.Proofs.YtpnnmklacialgaaGreat
namespace Go.Proofs.YtpnnmklacialgaaGreat
open Go.Conc
attribute [local irreducible] WP OpF OpX CallW SemH retQ AnyF RoundW WM OpsM CallM

@[reducible] def Em (ro : Nat → Prop) (tg : Tag) (rd : Bool) : Env := ⟨true, XM Tryz.prog, ⟨ro, tg⟩, rd⟩
instance : Eb 66 5 40 := ⟨by kernel_rfl, by decide, by decide⟩
theorem chan207 : chanT Tryz.prog 207 = some 66 := by kernel_rfl
theorem zero66 : zeroV Tryz.prog 66 = some (postV ⟨0, 0, 0, 0, 0⟩) := by kernel_rfl

theorem c92 (ro : Nat → Prop) (rd : Bool) (S R : Ents) (n : NetG) (a b c d e : Value) (known : Int) (hn : NetV R a b c d e n) (hR : ∀ x ∈ R, x.mine = false ∧ x ∈ S) (hV : Valid n) (hs : SortOk (timesL n).flatten) (hs2 : SortOk (nightsL n).flatten) (hlen : (postsN n known).length ≤ 1000000) :
    CallW Tryz.prog (Em ro .plain rd) 92 #[.agg #[a, b, c, d, e], iv known] S fun r S' => ∃ Δ, Own r (postsN n known) Δ ∧ S' = Δ ++ S := by
  refine CallM.callW ?_
  refine callM_in (args := [.agg #[a, b, c, d, e], iv known]) Tryz.func92 (by decide) rfl rfl ?_
  repeat' first|(refine gX ?_;first|refine o_v rfl rfl ?_|(refine o_splitD rfl rfl rfl ?_ ?_<;>intro h)|(refine o_split rfl rfl rfl ?_ ?_<;>intro h<;>fail_if_success exact Bool.noConfusion h)|(refine gL ?_;first|refine o_load rfl rfl rfl rfl ?_|refine o_loadR rfl rfl rfl (by omega) rfl rfl ?_|refine o_loadW rfl rfl rfl rfl ?_|refine o_loadK rfl rfl rfl ?_)|(refine gF ?_;first|refine o_fieldI rfl rfl rfl rfl ?_|refine o_field rfl rfl rfl rfl ?_)|(refine gB ?_;first|refine o_add rfl rfl rfl rfl (by omega) ?_|refine o_sub rfl rfl rfl rfl (by omega) ?_|refine o_eqNil rfl rfl rfl rfl rfl ?_)|(refine gI ?_;first|refine o_indexS rfl rfl rfl rfl rfl rfl (by omega) ?_|refine o_index rfl rfl rfl rfl rfl (by omega) ?_)|(refine gS ?_;first|refine o_store rfl rfl rfl rfl rfl rfl ?_|refine o_storeW rfl rfl rfl rfl rfl rfl ?_)|(refine o_chan rfl rfl chan207 rfl ?_;intro ch)|(refine o_allocZ rfl rfl ?_;intro _)|(refine o_box rfl rfl rfl ?_;intro _)|refine o_skip rfl rfl ?_|refine o_skipN rfl rfl ?_|refine o_iface rfl rfl rfl ?_|refine o_build rfl rfl rfl rfl rfl ?_|(refine o_bslice rfl rfl rfl rfl rfl rfl rfl ?_;intro _)|(refine o_splitP rfl ?_ ?_<;>intro h<;>fail_if_success exact Bool.noConfusion h))|refine o_head0 rfl ?_|refine o_end ?_|refine o_head1 rfl ?_|(show WM _ _ _ _ (.seq (.region 2 _ _) _) _ _ _ _;refine wm_seq ?_)|(show WM _ _ _ _ (.seq (.region _ _ _) _) _ _ _ _;refine wm_seqP ?_)|(show WM _ _ _ _ (.region 2 _ _) _ _ _ _;refine wm_regionS 1 1 rfl ?_)|refine wp_seq ?_|refine o_region ?_|refine wp_block ?_|refine wp_skip ?_|refine wp_exit ?_|(refine w_condD rfl ?_ ?_<;>intro h)|(refine w_cond rfl ?_ ?_<;>intro h<;>try exact Bool.noConfusion h)|refine w_ret (S) (vs:=[_]) rfl (Res.tmp rfl Res.nil) ?_
  rename_i bn bk bt
  refine OpsM.low (S' := ⟨bt, false, .cells #[.chan (some ch)] 207 (0, 0)⟩ :: ⟨ch, true, .chan 0 #[] false 0 0 false⟩ :: ⟨bk, false, .cells #[iv known] 3 (0, 0)⟩ :: ⟨bn, false, .cells #[a, b, c, d, e] 28 (0, 0)⟩ :: S) ?_ (.low (.keep (.low (.low .refl))))
  refine opsM_go (c := ch) (s := 0) (r := 0) (tm := false) (f := 155) (cap := [.pointer (some ⟨bt, 0, none⟩), .pointer (some ⟨bn, 0, none⟩), .pointer (some ⟨bk, 0, none⟩)]) (S0 := ⟨bt, false, .cells #[.chan (some ch)] 207 (0, 0)⟩ :: ⟨bk, false, .cells #[iv known] 3 (0, 0)⟩ :: ⟨bn, false, .cells #[a, b, c, d, e] 28 (0, 0)⟩ :: S)
    (R := ⟨bt, false, .cells #[.chan (some ch)] 207 (0, 0)⟩ :: ⟨bn, false, .cells #[a, b, c, d, e] 28 (0, 0)⟩ :: ⟨bk, false, .cells #[iv known] 3 (0, 0)⟩ :: R) (L := (postsN n known).map postV) rfl ⟨rfl, rfl, rfl⟩ rfl (List.Perm.swap ..) ?_ ?_ ?_
  · intro x hx
    simp only [List.mem_cons] at hx
    rcases hx with rfl | rfl | rfl | hx
    · exact ⟨rfl, by simp⟩
    · exact ⟨rfl, by simp⟩
    · exact ⟨rfl, by simp⟩
    · exact ⟨(hR x hx).1, .tail _ (.tail _ (.tail _ (hR x hx).2))⟩
  · intro ro' w hh
    exact runC_of Tryz.func155 (by decide) rfl rfl rfl (c155 R n a b c d e ro' ch bt bn bk known hn hV hs hs2) hh
  intro ro'
  refine opsM_nil ?_
  change WM _ (Em ro' (.recv ch ((postsN n known).map postV)) rd) _ _ _ _ _ _ _
  repeat' first|(refine gX ?_;first|refine o_v rfl rfl ?_|(refine o_splitD rfl rfl rfl ?_ ?_<;>intro h)|(refine o_split rfl rfl rfl ?_ ?_<;>intro h<;>fail_if_success exact Bool.noConfusion h)|(refine gL ?_;first|refine o_load rfl rfl rfl rfl ?_|refine o_loadR rfl rfl rfl (by omega) rfl rfl ?_|refine o_loadW rfl rfl rfl rfl ?_|refine o_loadK rfl rfl rfl ?_)|(refine gF ?_;first|refine o_fieldI rfl rfl rfl rfl ?_|refine o_field rfl rfl rfl rfl ?_)|(refine gB ?_;first|refine o_add rfl rfl rfl rfl (by omega) ?_|refine o_sub rfl rfl rfl rfl (by omega) ?_|refine o_eqNil rfl rfl rfl rfl rfl ?_)|(refine gI ?_;first|refine o_indexS rfl rfl rfl rfl rfl rfl (by omega) ?_|refine o_index rfl rfl rfl rfl rfl (by omega) ?_)|(refine gS ?_;first|refine o_store rfl rfl rfl rfl rfl rfl ?_|refine o_storeW rfl rfl rfl rfl rfl rfl ?_)|(refine o_allocZ rfl rfl ?_;intro _)|(refine o_box rfl rfl rfl ?_;intro _)|refine o_skip rfl rfl ?_|refine o_skipN rfl rfl ?_|refine o_iface rfl rfl rfl ?_|refine o_build rfl rfl rfl rfl rfl ?_|(refine o_bslice rfl rfl rfl rfl rfl rfl rfl ?_;intro _)|(refine o_splitP rfl ?_ ?_<;>intro h<;>fail_if_success exact Bool.noConfusion h))|refine o_head0 rfl ?_|refine o_end ?_|refine o_head1 rfl ?_|(show WM _ _ _ _ (.seq (.seq (.region _ _ _) (.block _ _)) _) _ _ _ _;refine wm_seq ?_)|(show WM _ _ _ _ (.seq (.region _ _ _) _) _ _ _ _;refine wm_seqP ?_)|(show WM _ _ _ _ (.block _ _) _ _ _ _;refine wm_block ?_)|refine wp_seq ?_|refine o_region ?_|refine wp_block ?_|refine wp_skip ?_|refine wp_exit ?_|(refine w_condD rfl ?_ ?_<;>intro h)|(refine w_cond rfl ?_ ?_<;>intro h<;>try exact Bool.noConfusion h)|refine w_ret (S) (vs:=[_]) rfl (Res.tmp rfl Res.nil) ?_
  refine wm_loop (fun i' m t ds S' => ∃ (j : Nat) (t0 : Tm) (w : Value) (Δ : Ents), i' = (postsN n known).length - j ∧ j ≤ (postsN n known).length ∧ [] = ds ∧ Δ ++ ⟨bt, false, .cells #[.chan (some ch)] 207 (0, 0)⟩ :: ⟨bk, false, .cells #[iv known] 3 (0, 0)⟩ :: ⟨bn, false, .cells #[a, b, c, d, e] 28 (0, 0)⟩ :: S = S' ∧ m = ⟨ro', .recv ch (((postsN n known).drop j).map postV)⟩ ∧
      t = den [(10, .chan (some ch)), (6, w)] t0 ∧ Own w ((postsN n known).take j) Δ)
    _ ⟨0, _, _, [], rfl, Nat.zero_le _, rfl, rfl, rfl, keep ⟨rfl, rfl, trivial⟩, .nil⟩ ?_
  rintro i' m t ds S' ⟨j, t0, w, Δ, rfl, hj, rfl, rfl, rfl, rfl, ho⟩
  change WM _ (Em ro' (.recv ch (((postsN n known).drop j).map postV)) rd) _ _ _ _ _ _ _
  refine wm_seq ?_
  refine wm_regionS 0 2 rfl (o_end ?_)
  have hlt : ((postsN n known).take j).length ≤ 1000000 := by rw [List.length_take]; omega
  by_cases hjl : j < (postsN n known).length
  · have hdr : ((postsN n known).drop j).map postV = postV ((postsN n known)[j]'hjl) :: ((postsN n known).drop (j + 1)).map postV := by rw [List.drop_eq_getElem_cons hjl, List.map_cons]
    refine opsM_recv (ro := ro') (c := ch) (v := postV ((postsN n known)[j]'hjl)) (L := ((postsN n known).drop (j + 1)).map postV) rfl rfl ⟨rfl, rfl, congrArg (fun q => (⟨ro', .recv ch q⟩ : Mode)) hdr⟩ chan207 zero66 rfl (opsM_rest (j := 1) (r := 1) ?_)
    repeat' first|(refine gX ?_;first|refine o_v rfl rfl ?_|(refine o_splitD rfl rfl rfl ?_ ?_<;>intro h)|(refine o_split rfl rfl rfl ?_ ?_<;>intro h<;>fail_if_success exact Bool.noConfusion h)|(refine gL ?_;first|refine o_load rfl rfl rfl rfl ?_|refine o_loadR rfl rfl rfl (by omega) rfl rfl ?_|refine o_loadW rfl rfl rfl rfl ?_|refine o_loadK rfl rfl rfl ?_)|(refine gF ?_;first|refine o_fieldI rfl rfl rfl rfl ?_|refine o_field rfl rfl rfl rfl ?_)|(refine gB ?_;first|refine o_add rfl rfl rfl rfl (by omega) ?_|refine o_sub rfl rfl rfl rfl (by omega) ?_|refine o_eqNil rfl rfl rfl rfl rfl ?_)|(refine gC ?_;first|(refine o_append1 ((postsN n known)[j]'(by first|done|omega)) rfl rfl rfl rfl ho rfl (by omega) rfl rfl rfl rfl ?_;intro w2 Δ2 ho2;refine ⟨inferInstance, ?_⟩))|(refine gI ?_;first|refine o_indexS rfl rfl rfl rfl rfl rfl (by omega) ?_|refine o_index rfl rfl rfl rfl rfl (by omega) ?_)|(refine gS ?_;first|refine o_store rfl rfl rfl rfl rfl rfl ?_|refine o_storeW rfl rfl rfl rfl rfl rfl ?_)|(refine o_allocZ rfl rfl ?_;intro _)|(refine o_box rfl rfl rfl ?_;intro _)|refine o_skip rfl rfl ?_|refine o_skipN rfl rfl ?_|refine o_iface rfl rfl rfl ?_|refine o_build rfl rfl rfl rfl rfl ?_|(refine o_bslice rfl rfl rfl rfl rfl rfl rfl ?_;intro _)|(refine o_splitP rfl ?_ ?_<;>intro h<;>fail_if_success exact Bool.noConfusion h))|refine o_head0 rfl ?_|refine o_end ?_|refine o_head1 rfl ?_|(show WM _ _ _ _ (.seq (.region _ _ _) _) _ _ _ _;refine wm_seqP ?_)|(show WM _ _ _ _ (.seq (.cond _ .skip (.exit _)) _) _ _ _ _;refine wm_seqP ?_)|(show WM _ _ _ _ (.block _ _) _ _ _ _;refine wm_block ?_)|(show WM _ _ _ _ (.region _ _ _) _ _ _ _;refine wm_of ?_)|(refine w_cond rfl ?_ ?_<;>intro h<;>try exact Bool.noConfusion h)|refine wp_seq ?_|refine o_region ?_|refine wp_block ?_|refine wp_skip ?_|refine wp_exit ?_|(refine w_condD rfl ?_ ?_<;>intro h)|(refine w_cond rfl ?_ ?_<;>intro h<;>try exact Bool.noConfusion h)|refine w_ret (S) (vs:=[_]) rfl (Res.tmp rfl Res.nil) ?_
    refine ⟨(postsN n known).length - (j + 1), by omega, _, .append_left (.cons _ (.cons _ (List.Sublist.refl _))) _, j + 1, _, _, Δ2, rfl, by omega, rfl, rfl, rfl, keep ⟨rfl, rfl, trivial⟩, ?_⟩
    rw [List.take_succ_eq_append_getElem hjl]
    exact ho2
  · have hje : j = (postsN n known).length := by omega
    subst hje
    have hdr : ((postsN n known).drop (postsN n known).length).map postV = [] := by rw [List.drop_length]; rfl
    refine opsM_recvEnd ro (ro := ro') (c := ch) rfl rfl ⟨rfl, rfl, congrArg (fun q => (⟨ro', .recv ch q⟩ : Mode)) hdr⟩ chan207 zero66 rfl (opsM_rest (j := 1) (r := 1) ?_)
    rw [List.take_length] at ho
    repeat' first|(refine gX ?_;first|refine o_v rfl rfl ?_|(refine o_splitD rfl rfl rfl ?_ ?_<;>intro h)|(refine o_split rfl rfl rfl ?_ ?_<;>intro h<;>fail_if_success exact Bool.noConfusion h)|(refine gL ?_;first|refine o_load rfl rfl rfl rfl ?_|refine o_loadR rfl rfl rfl (by omega) rfl rfl ?_|refine o_loadW rfl rfl rfl rfl ?_|refine o_loadK rfl rfl rfl ?_)|(refine gF ?_;first|refine o_fieldI rfl rfl rfl rfl ?_|refine o_field rfl rfl rfl rfl ?_)|(refine gB ?_;first|refine o_add rfl rfl rfl rfl (by omega) ?_|refine o_sub rfl rfl rfl rfl (by omega) ?_|refine o_eqNil rfl rfl rfl rfl rfl ?_)|(refine gI ?_;first|refine o_indexS rfl rfl rfl rfl rfl rfl (by omega) ?_|refine o_index rfl rfl rfl rfl rfl (by omega) ?_)|(refine gS ?_;first|refine o_store rfl rfl rfl rfl rfl rfl ?_|refine o_storeW rfl rfl rfl rfl rfl rfl ?_)|(refine o_allocZ rfl rfl ?_;intro _)|(refine o_box rfl rfl rfl ?_;intro _)|refine o_skip rfl rfl ?_|refine o_skipN rfl rfl ?_|refine o_iface rfl rfl rfl ?_|refine o_build rfl rfl rfl rfl rfl ?_|(refine o_bslice rfl rfl rfl rfl rfl rfl rfl ?_;intro _)|(refine o_splitP rfl ?_ ?_<;>intro h<;>fail_if_success exact Bool.noConfusion h))|refine o_head0 rfl ?_|refine o_end ?_|refine o_head1 rfl ?_|(show WM _ _ _ _ (.seq (.region _ _ _) _) _ _ _ _;refine wm_seqP ?_)|(show WM _ _ _ _ (.seq (.cond _ .skip (.exit _)) _) _ _ _ _;refine wm_seqP ?_)|(refine w_cond rfl ?_ ?_<;>intro h<;>try exact Bool.noConfusion h)|(show WM _ _ _ _ .ret _ _ _ _;refine wm_of ?_)|refine wp_seq ?_|refine o_region ?_|refine wp_block ?_|refine wp_skip ?_|refine wp_exit ?_|(refine w_condD rfl ?_ ?_<;>intro h)|(refine w_cond rfl ?_ ?_<;>intro h<;>try exact Bool.noConfusion h)|refine w_ret (Δ ++ S) (vs:=[_]) rfl (Res.tmp rfl Res.nil) ?_|refine w_ret (S) (vs:=[_]) rfl (Res.tmp rfl Res.nil) ?_
    exact ⟨rfl, Δ, ho, rfl⟩

theorem NetV.subset {S S' : Ents} {a b c d e : Value} {n : NetG} (h : NetV S a b c d e n) (hs : ∀ x ∈ S, x ∈ S') : NetV S' a b c d e n := by
  have key : ∀ {α : Type} [En : Enc α] {v : Value} {xs : List α}, SlV S v xs → SlV S' v xs := by
    rintro α En v xs ⟨q, cap, h1, h2, h3⟩
    exact ⟨q, cap, h1, h2, fun h0 => ⟨(h3 h0).1, let ⟨mn, c, ty, fz, h4, h5⟩ := (h3 h0).2; ⟨mn, c, ty, fz, hs _ h4, h5⟩⟩⟩
  exact ⟨key h.mains, key h.uses, key h.readings, key h.faults, key h.prices, h.mains_le, h.uses_le, h.readings_le, h.faults_le, h.prices_le⟩
theorem flat_bd {α β : Type} {f : α → List β} {k : Nat} : ∀ {l : List α}, (∀ x ∈ l, (f x).length ≤ k) → (l.flatMap f).length ≤ k * l.length
  | [], _ => by simp
  | x :: l, h => by
    have h1 := h x (.head _)
    have h2 := flat_bd (f := f) (l := l) fun y hy => h y (.tail _ hy)
    rw [List.flatMap_cons, List.length_append, List.length_cons, Nat.mul_add, Nat.mul_one]
    omega
theorem postAt_len {n : NetG} {d p : Int} {i : Nat} : (postAt n d p i).length ≤ 1 := by
  unfold postAt
  split <;> simp
theorem sendN_len {n : NetG} (h : Valid n) {d : Int} : (sendN n d).length ≤ 2160 := by
  have h1 := timesL_len h
  have h2 : (periodsN n).length ≤ (timesL n).flatten.length := sortedL_len
  have h3 : ∀ i, (sendRow n d i 0).length ≤ 180 := fun i => by
    unfold sendRow
    have := flat_bd (f := fun p => postAt n d p i) (k := 1) (l := (periodsN n).drop 0) fun p _ => postAt_len
    simp only [List.drop_zero] at this ⊢
    omega
  unfold sendN sendFrom
  have := flat_bd (f := fun i => sendRow n d i 0) (k := 180) (l := List.range' 0 (n.mains.length - 0)) fun i _ => h3 i
  have h12 := h.m12
  rw [List.length_range'] at this
  omega
theorem postsN_len {n : NetG} (h : Valid n) {known : Int} : (postsN n known).length ≤ 777600 := by
  have h1 := nightsL_len h
  have h2 : (datesN n).length ≤ (nightsL n).flatten.length := sortedL_len
  unfold postsN postsFrom
  have := flat_bd (f := fun d => if d ≤ known then sendN n d else []) (k := 2160) (l := (datesN n).drop 0) fun d _ => by
    split
    · exact sendN_len h
    · simp
  simp only [List.drop_zero] at this ⊢
  omega
def PostOk (x : PostG) : Prop := -150000000000000000 ≤ x.gas ∧ x.gas ≤ 150000000000000000 ∧ -60000000 ≤ x.penalty ∧ x.penalty ≤ 60000000
theorem postsN_ok {n : NetG} (h : Valid n) {known : Int} {x : PostG} (hx : x ∈ postsN n known) : PostOk x := by
  unfold postsN postsFrom at hx
  obtain ⟨d, _, hx⟩ := List.mem_flatMap.1 hx
  split at hx
  · unfold sendN sendFrom at hx
    obtain ⟨i, _, hx⟩ := List.mem_flatMap.1 hx
    unfold sendRow at hx
    obtain ⟨p, _, hx⟩ := List.mem_flatMap.1 hx
    unfold postAt at hx
    split at hx
    · cases hx
    · rw [List.mem_singleton.1 hx]
      have h1 := billsN_bd h (p := p) (k := d) (i := i)
      have h2 := wasN_bd h (p := p) (d := d) (i := i)
      unfold BillOk at h1 h2
      unfold PostOk
      simp only
      omega
  · cases hx
/-- The postings, and none where a net or a night is not valid. -/
def postsG (n : NetG) (known : Int) : List PostG := if lookE n 0 known = 0 then postsN n known else []
def SortsOk (n : NetG) : Prop := Valid n → SortOk (timesL n).flatten ∧ SortOk (nightsL n).flatten
theorem c21 (ro : Nat → Prop) (rd : Bool) (S R : Ents) (n : NetG) (a b c d e : Value) (known : Int) (hn : NetV R a b c d e n) (hR : ∀ x ∈ R, x.mine = false ∧ x ∈ S) (hs : SortsOk n) :
    CallW Tryz.prog (Em ro .plain rd) 21 #[.agg #[a, b, c, d, e], iv known] S fun r S' => ∃ v Δ, r = .tuple #[v, iv (lookE n 0 known)] ∧ Own v (postsG n known) Δ ∧ S' = Δ ++ S := by
  refine call_in (args := [.agg #[a, b, c, d, e], iv known]) Tryz.func21 (by decide) rfl rfl ?_
  have hnS := hn.subset fun x hx => (hR x hx).2
  repeat' first|(refine gX ?_;first|refine o_v rfl rfl ?_|(refine o_splitD rfl rfl rfl ?_ ?_<;>intro h)|(refine o_split rfl rfl rfl ?_ ?_<;>intro h<;>fail_if_success exact Bool.noConfusion h)|(refine gL ?_;first|refine o_load rfl rfl rfl rfl ?_|refine o_loadR rfl rfl rfl (by omega) rfl rfl ?_|refine o_loadW rfl rfl rfl rfl ?_|refine o_loadK rfl rfl rfl ?_)|(refine gF ?_;first|refine o_fieldI rfl rfl rfl rfl ?_|refine o_field rfl rfl rfl rfl ?_)|(refine gB ?_;first|refine o_add rfl rfl rfl rfl (by omega) ?_|refine o_sub rfl rfl rfl rfl (by omega) ?_|refine o_eqNil rfl rfl rfl rfl rfl ?_)|(refine gC ?_;first|refine o_callF rfl rfl rfl (c72 _ _ n _ _ _ _ _ _ _ (hnS.sub Sb.h)) ?_|(refine o_callZ (R:=fun r S' => ∃ Δ, Own r (postsN n known) Δ ∧ S' = Δ ++ _) rfl rfl rfl (c92 ro rd _ R n _ _ _ _ _ known hn (fun x hx => ⟨(hR x hx).1, .tail _ (hR x hx).2⟩) (look_valid (n := n) (p := 0) (k := known) (by omega)) (hs (look_valid (n := n) (p := 0) (k := known) (by omega))).1 (hs (look_valid (n := n) (p := 0) (k := known) (by omega))).2 (Nat.le_trans (postsN_len (look_valid (n := n) (p := 0) (k := known) (by omega))) (by omega))) ?_;rintro r _ ⟨Δ, ho, rfl⟩;refine ⟨inferInstance, ?_⟩))|(refine gI ?_;first|refine o_indexS rfl rfl rfl rfl rfl rfl (by omega) ?_|refine o_index rfl rfl rfl rfl rfl (by omega) ?_)|(refine gS ?_;first|refine o_store rfl rfl rfl rfl rfl rfl ?_|refine o_storeW rfl rfl rfl rfl rfl rfl ?_)|(refine o_allocZ rfl rfl ?_;intro _)|(refine o_box rfl rfl rfl ?_;intro _)|refine o_skip rfl rfl ?_|refine o_skipN rfl rfl ?_|refine o_iface rfl rfl rfl ?_|refine o_build rfl rfl rfl rfl rfl ?_|(refine o_bslice rfl rfl rfl rfl rfl rfl rfl ?_;intro _)|(refine o_splitP rfl ?_ ?_<;>intro h<;>fail_if_success exact Bool.noConfusion h))|refine o_head0 rfl ?_|refine o_end ?_|refine o_head1 rfl ?_|refine wp_seq ?_|refine o_region ?_|refine wp_block ?_|refine wp_skip ?_|refine wp_exit ?_|(refine w_condD rfl ?_ ?_<;>intro h)|(refine w_cond rfl ?_ ?_<;>intro h<;>try exact Bool.noConfusion h)|refine w_ret (Δ ++ S) (vs:=[_,_]) rfl (Res.tmp rfl (Res.tmp rfl Res.nil)) ?_|refine w_ret (S) (vs:=[_,_]) rfl (Res.tmp rfl (Res.tmp rfl Res.nil)) ?_
  · refine ⟨_, [], rfl, ?_, rfl⟩
    unfold postsG
    rw [if_neg h]
    exact .nil
  · have h0 : lookE n 0 known = 0 := Classical.not_not.1 h
    refine ⟨_, Δ, by rw [h0]; rfl, ?_, rfl⟩
    unfold postsG
    rw [if_pos h0]
    exact ho

/-- What a main owes by the first j postings. -/
def balT (l : List PostG) (main : Int) : Nat → Int
  | 0 => 0
  | j + 1 => balT l main j + (match l[j]? with | some x => if x.main = main then x.gas - x.penalty else 0 | none => 0)
theorem balT_succ {l : List PostG} {main : Int} {j : Nat} (h : j < l.length) : balT l main (j + 1) = balT l main j + if l[j].main = main then l[j].gas - l[j].penalty else 0 := by
  show balT l main j + (match l[j]? with | some x => if x.main = main then x.gas - x.penalty else 0 | none => 0) = _
  rw [List.getElem?_eq_getElem h]
def balE (n : NetG) (main known : Int) : Int := if validB n = true then (if placeF n main < 0 then 70 else lookE n 0 known) else 74
def balG (n : NetG) (main known : Int) : Int := if balE n main known = 0 then balT (postsN n known) main (postsN n known).length else 0
/-- The sums on the way fit. -/
def BalOk (n : NetG) (main known : Int) : Prop := ∀ j, j ≤ (postsN n known).length → -4000000000000000000 ≤ balT (postsN n known) main j ∧ balT (postsN n known) main j ≤ 4000000000000000000
theorem c23 (ro : Nat → Prop) (rd : Bool) (S R : Ents) (n : NetG) (a b c d e : Value) (main known : Int) (hn : NetV R a b c d e n) (hR : ∀ x ∈ R, x.mine = false ∧ x ∈ S) (hs : SortsOk n) (hb : Valid n → BalOk n main known) :
    CallW Tryz.prog (Em ro .plain rd) 23 #[.agg #[a, b, c, d, e], iv main, iv known] S fun r S' => r = .tuple #[iv (balG n main known), iv (balE n main known)] ∧ S' = S := by
  refine call_in (args := [.agg #[a, b, c, d, e], iv main, iv known]) Tryz.func23 (by decide) rfl rfl ?_
  have hnS := hn.subset fun x hx => (hR x hx).2
  repeat' first|(refine gX ?_;first|refine o_v rfl rfl ?_|(refine o_splitD rfl rfl rfl ?_ ?_<;>intro h)|(refine o_split rfl rfl rfl ?_ ?_<;>intro h<;>fail_if_success exact Bool.noConfusion h)|(refine gL ?_;first|refine o_load rfl rfl rfl rfl ?_|refine o_loadR rfl rfl rfl (by omega) rfl rfl ?_|refine o_loadW rfl rfl rfl rfl ?_|refine o_loadK rfl rfl rfl ?_)|(refine gF ?_;first|refine o_fieldI rfl rfl rfl rfl ?_|refine o_field rfl rfl rfl rfl ?_)|(refine gB ?_;first|refine o_add rfl rfl rfl rfl (by omega) ?_|refine o_sub rfl rfl rfl rfl (by omega) ?_|refine o_eqNil rfl rfl rfl rfl rfl ?_)|(refine gC ?_;first|refine o_callF rfl rfl rfl (c71 _ _ n _ _ _ _ _ (hnS.sub Sb.h)) ?_|refine o_callF rfl rfl rfl (c87 _ _ n _ _ _ _ _ _ (hnS.sub Sb.h)) ?_|(refine o_callZ rfl rfl rfl (c21 ro rd _ R n _ _ _ _ _ known hn (fun x hx => ⟨(hR x hx).1, .tail _ (hR x hx).2⟩) hs) ?_;rintro r _ ⟨v, Δ, rfl, ho, rfl⟩;obtain ⟨wa, wc, rfl, _, hra⟩ := ho.slv;have i1 := SlI.mk hra;refine ⟨inferInstance, ?_⟩))|(refine gI ?_;first|refine o_indexS rfl rfl rfl rfl rfl rfl (by omega) ?_|refine o_index rfl rfl rfl rfl rfl (by omega) ?_)|(refine gS ?_;first|refine o_store rfl rfl rfl rfl rfl rfl ?_|refine o_storeW rfl rfl rfl rfl rfl rfl ?_)|(refine o_allocZ rfl rfl ?_;intro _)|(refine o_box rfl rfl rfl ?_;intro _)|refine o_skip rfl rfl ?_|refine o_skipN rfl rfl ?_|refine o_iface rfl rfl rfl ?_|refine o_build rfl rfl rfl rfl rfl ?_|(refine o_bslice rfl rfl rfl rfl rfl rfl rfl ?_;intro _)|(refine o_splitP rfl ?_ ?_<;>intro h<;>fail_if_success exact Bool.noConfusion h))|refine o_head0 rfl ?_|refine o_end ?_|refine o_head1 rfl ?_|refine wp_seq ?_|refine o_region ?_|refine wp_block ?_|refine wp_skip ?_|refine wp_exit ?_|(refine w_condD rfl ?_ ?_<;>intro h)|(refine w_cond rfl ?_ ?_<;>intro h<;>try exact Bool.noConfusion h)|refine w_ret (S) (vs:=[_,_]) rfl (Res.tmp rfl (Res.tmp rfl Res.nil)) ?_
  · have hv : ¬ validB n = true := fun hc => h (if_pos hc)
    have ee : balE n main known = 74 := if_neg hv
    exact ⟨by unfold balG; rw [if_neg hv, if_neg (show ¬ balE n main known = 0 by rw [ee]; decide), ee]; rfl, rfl⟩
  all_goals have hv : validB n = true := Classical.byContradiction fun hc => by simp_all
  · have ee : balE n main known = 70 := by unfold balE; rw [if_pos hv, if_pos h]
    exact ⟨by unfold balG; rw [if_neg (show ¬ balE n main known = 0 by rw [ee]; decide), ee]; rfl, rfl⟩
  · have ee : balE n main known = lookE n 0 known := by unfold balE; rw [if_pos hv, if_neg (by assumption)]
    exact ⟨by unfold balG; rw [if_neg (show ¬ balE n main known = 0 by rw [ee]; exact h), ee]; rfl, rfl⟩
  have hl : lookE n 0 known = 0 := by omega
  have ee : balE n main known = 0 := by unfold balE; rw [if_pos hv, if_neg (by assumption), hl]
  have hpg : postsG n known = postsN n known := if_pos hl
  have hV := look_valid (n := n) (p := 0) (k := known) hl
  have hpl := postsN_len hV (known := known)
  replace hb := hb hV
  rw [hpg] at ho hra
  clear i1
  have i1 := SlI.mk hra
  rename_i b0 _ _ _
  refine wp_loop (fun i' t ds S' => ∃ (j : Nat) (t0 : Tm), i' = (postsN n known).length - j ∧ j ≤ (postsN n known).length ∧ [] = ds ∧ Δ ++ ⟨b0, true, .cells (Value.agg #[a, b, c, d, e]).cells 28 (0, 0)⟩ :: S = S' ∧ t = den [(34, iv j), (33, iv (postsN n known).length), (32, .slice wa (postsN n known).length wc), (11, iv (balT (postsN n known) main j)), (1, iv main), (6, iv 0), (7, iv 0)] t0)
    (postsN n known).length ⟨0, _, rfl, Nat.zero_le _, rfl, rfl, by rw [hpg]; exact keep ⟨rfl, rfl, rfl, rfl, rfl, rfl, rfl, trivial⟩⟩ ?_
  rintro i' t ds S' ⟨j, t0, rfl, hj, rfl, rfl, rfl⟩
  by_cases hjl : j < (postsN n known).length
  · have hpo := postsN_ok hV (List.getElem_mem hjl)
    have hb1 := hb j (by omega)
    have hb2 := hb (j + 1) (by omega)
    have hst := balT_succ (main := main) hjl
    unfold PostOk at hpo
    by_cases hm : (postsN n known)[j].main = main
    · rw [if_pos hm] at hst
      repeat' first|(refine gX ?_;first|refine o_v rfl rfl ?_|(refine o_splitD rfl rfl rfl ?_ ?_<;>intro h)|(refine o_split rfl rfl rfl ?_ ?_<;>intro h<;>fail_if_success exact Bool.noConfusion h)|(refine gL ?_;first|refine o_load rfl rfl rfl rfl ?_|refine o_loadR rfl rfl rfl (by omega) rfl rfl ?_|refine o_loadW rfl rfl rfl rfl ?_|refine o_loadK rfl rfl rfl ?_)|(refine gF ?_;first|refine o_fieldI rfl rfl rfl rfl ?_|refine o_field rfl rfl rfl rfl ?_)|(refine gB ?_;first|refine o_add rfl rfl rfl rfl (by omega) ?_|refine o_sub rfl rfl rfl rfl (by omega) ?_|refine o_eqNil rfl rfl rfl rfl rfl ?_)|(refine gI ?_;first|refine o_indexS rfl rfl rfl rfl rfl rfl (by omega) ?_|refine o_index rfl rfl rfl rfl rfl (by omega) ?_)|(refine gS ?_;first|refine o_store rfl rfl rfl rfl rfl rfl ?_|refine o_storeW rfl rfl rfl rfl rfl rfl ?_)|(refine o_allocZ rfl rfl ?_;intro _)|(refine o_box rfl rfl rfl ?_;intro _)|refine o_skip rfl rfl ?_|refine o_skipN rfl rfl ?_|refine o_iface rfl rfl rfl ?_|refine o_build rfl rfl rfl rfl rfl ?_|(refine o_bslice rfl rfl rfl rfl rfl rfl rfl ?_;intro _)|(refine o_splitP rfl ?_ ?_<;>intro h<;>fail_if_success exact Bool.noConfusion h))|refine o_head0 rfl ?_|refine o_end ?_|refine o_head1 rfl ?_|(refine w_condD rfl ?_ ?_<;>intro h<;>try (first|exact absurd (by omega) h|exact absurd hm h))|refine wp_seq ?_|refine o_region ?_|refine wp_block ?_|refine wp_skip ?_|refine wp_exit ?_|(refine w_condD rfl ?_ ?_<;>intro h)|(refine w_cond rfl ?_ ?_<;>intro h<;>try exact Bool.noConfusion h)|refine w_ret (S) (vs:=[_,_]) rfl (Res.tmp rfl (Res.tmp rfl Res.nil)) ?_
      exact ⟨(postsN n known).length - (j + 1), by omega, _, .cons _ (List.Sublist.refl _), j + 1, _, rfl, by omega, rfl, rfl, keep ⟨rfl, rfl, rfl, congrArg (fun q : Int => some (iv q)) hst.symm, rfl, rfl, rfl, trivial⟩⟩
    · rw [if_neg hm, Int.add_zero] at hst
      repeat' first|(refine gX ?_;first|refine o_v rfl rfl ?_|(refine o_splitD rfl rfl rfl ?_ ?_<;>intro h)|(refine o_split rfl rfl rfl ?_ ?_<;>intro h<;>fail_if_success exact Bool.noConfusion h)|(refine gL ?_;first|refine o_load rfl rfl rfl rfl ?_|refine o_loadR rfl rfl rfl (by omega) rfl rfl ?_|refine o_loadW rfl rfl rfl rfl ?_|refine o_loadK rfl rfl rfl ?_)|(refine gF ?_;first|refine o_fieldI rfl rfl rfl rfl ?_|refine o_field rfl rfl rfl rfl ?_)|(refine gB ?_;first|refine o_add rfl rfl rfl rfl (by omega) ?_|refine o_sub rfl rfl rfl rfl (by omega) ?_|refine o_eqNil rfl rfl rfl rfl rfl ?_)|(refine gI ?_;first|refine o_indexS rfl rfl rfl rfl rfl rfl (by omega) ?_|refine o_index rfl rfl rfl rfl rfl (by omega) ?_)|(refine gS ?_;first|refine o_store rfl rfl rfl rfl rfl rfl ?_|refine o_storeW rfl rfl rfl rfl rfl rfl ?_)|(refine o_allocZ rfl rfl ?_;intro _)|(refine o_box rfl rfl rfl ?_;intro _)|refine o_skip rfl rfl ?_|refine o_skipN rfl rfl ?_|refine o_iface rfl rfl rfl ?_|refine o_build rfl rfl rfl rfl rfl ?_|(refine o_bslice rfl rfl rfl rfl rfl rfl rfl ?_;intro _)|(refine o_splitP rfl ?_ ?_<;>intro h<;>fail_if_success exact Bool.noConfusion h))|refine o_head0 rfl ?_|refine o_end ?_|refine o_head1 rfl ?_|(refine w_condD rfl ?_ ?_<;>intro h<;>try (first|exact absurd (by omega) h|exact absurd h hm))|refine wp_seq ?_|refine o_region ?_|refine wp_block ?_|refine wp_skip ?_|refine wp_exit ?_|(refine w_condD rfl ?_ ?_<;>intro h)|(refine w_cond rfl ?_ ?_<;>intro h<;>try exact Bool.noConfusion h)|refine w_ret (S) (vs:=[_,_]) rfl (Res.tmp rfl (Res.tmp rfl Res.nil)) ?_
      exact ⟨(postsN n known).length - (j + 1), by omega, _, .cons _ (List.Sublist.refl _), j + 1, _, rfl, by omega, rfl, rfl, keep ⟨rfl, rfl, rfl, congrArg (fun q : Int => some (iv q)) hst.symm, rfl, rfl, rfl, trivial⟩⟩
  · have hje : j = (postsN n known).length := by omega
    subst hje
    repeat' first|(refine gX ?_;first|refine o_v rfl rfl ?_|(refine o_splitD rfl rfl rfl ?_ ?_<;>intro h)|(refine o_split rfl rfl rfl ?_ ?_<;>intro h<;>fail_if_success exact Bool.noConfusion h)|(refine gL ?_;first|refine o_load rfl rfl rfl rfl ?_|refine o_loadR rfl rfl rfl (by omega) rfl rfl ?_|refine o_loadW rfl rfl rfl rfl ?_|refine o_loadK rfl rfl rfl ?_)|(refine gF ?_;first|refine o_fieldI rfl rfl rfl rfl ?_|refine o_field rfl rfl rfl rfl ?_)|(refine gB ?_;first|refine o_add rfl rfl rfl rfl (by omega) ?_|refine o_sub rfl rfl rfl rfl (by omega) ?_|refine o_eqNil rfl rfl rfl rfl rfl ?_)|(refine gI ?_;first|refine o_indexS rfl rfl rfl rfl rfl rfl (by omega) ?_|refine o_index rfl rfl rfl rfl rfl (by omega) ?_)|(refine gS ?_;first|refine o_store rfl rfl rfl rfl rfl rfl ?_|refine o_storeW rfl rfl rfl rfl rfl rfl ?_)|(refine o_allocZ rfl rfl ?_;intro _)|(refine o_box rfl rfl rfl ?_;intro _)|refine o_skip rfl rfl ?_|refine o_skipN rfl rfl ?_|refine o_iface rfl rfl rfl ?_|refine o_build rfl rfl rfl rfl rfl ?_|(refine o_bslice rfl rfl rfl rfl rfl rfl rfl ?_;intro _)|(refine o_splitP rfl ?_ ?_<;>intro h<;>fail_if_success exact Bool.noConfusion h))|refine o_head0 rfl ?_|refine o_end ?_|refine o_head1 rfl ?_|(refine w_condD rfl ?_ ?_<;>intro h<;>try (exact absurd h (by omega)))|refine wp_seq ?_|refine o_region ?_|refine wp_block ?_|refine wp_skip ?_|refine wp_exit ?_|(refine w_condD rfl ?_ ?_<;>intro h)|(refine w_cond rfl ?_ ?_<;>intro h<;>try exact Bool.noConfusion h)|refine w_ret (S) (vs:=[_,_]) rfl (Res.tmp rfl (Res.tmp rfl Res.nil)) ?_
    refine ⟨?_, rfl⟩
    rw [ee]
    unfold balG
    rw [if_pos ee]
    rfl
end Go.Proofs.YtpnnmklacialgaaGreat
namespace Go.Proofs.YtpnnmklacialgaaGreat
open Go.Conc
attribute [local irreducible] WP OpF OpX CallW SemH retQ AnyF RoundW WM OpsM CallM

def netS : NetG where
  mains := [⟨1, 0, ⟨0, 10⟩⟩, ⟨2, 1, ⟨0, 5⟩⟩, ⟨3, 1, ⟨0, 5⟩⟩]
  uses := [⟨10, 2, 4, ⟨600, 660⟩, ⟨5, 6⟩, 1, 0⟩, ⟨11, 3, 4, ⟨1200, 1200⟩, ⟨4, 4⟩, 1, 0⟩]
  readings := [⟨20, 2, 4, ⟨55, 60⟩, 5, 0⟩, ⟨21, 1, 4, ⟨130, 150⟩, 6, 0⟩, ⟨22, 1, 4, ⟨160, 170⟩, 9, 12⟩]
  faults := [⟨30, 3, 4, 2, 7, 0⟩]
  prices := [⟨0, 200, 12⟩]
theorem CallW.weakenL {P : Program} {E : Env} {f : FuncId} {args : Array Value} {S : Ents} {R R' : Value → Ents → Prop} (h : CallW P E f args S R) (hr : ∀ v S', R v S' → ∃ S'', LowS S'' S' ∧ R' v S'') : CallW P E f args S R' := by
  unfold CallW at *
  exact ⟨h.1, fun F c cs w O Stop h1 h2 => h.2 F c cs w O Stop h1 fun v S' w' O' q hh => by
    obtain ⟨S'', hl, hq⟩ := hr v S' q
    exact h2 v S'' w' O' hq (hh.low (hl.app F))⟩
theorem c86 (E : Env) (S : Ents) : CallW Tryz.prog E 86 #[] S fun r S' => ∃ a b c d e R, r = .agg #[a, b, c, d, e] ∧ NetV R a b c d e netS ∧ (∀ x ∈ R, x.mine = false) ∧ S' = R ++ S := by
  refine CallW.weakenL (R := fun r S' => ∃ a b c d e R R0, r = .agg #[a, b, c, d, e] ∧ NetV R a b c d e netS ∧ (∀ x ∈ R, x.mine = false) ∧ S' = R0 ++ S ∧ LowS (R ++ S) (R0 ++ S)) ?_ ?_
  · refine call_in (args := []) Tryz.func86 (by decide) rfl rfl ?_
    repeat' first|(refine gX ?_;first|refine o_v rfl rfl ?_|(refine o_splitD rfl rfl rfl ?_ ?_<;>intro h)|(refine o_split rfl rfl rfl ?_ ?_<;>intro h<;>fail_if_success exact Bool.noConfusion h)|(refine gL ?_;first|refine o_load rfl rfl rfl rfl ?_|refine o_loadR rfl rfl rfl (by omega) rfl rfl ?_|refine o_loadW rfl rfl rfl rfl ?_|refine o_loadK rfl rfl rfl ?_)|(refine gF ?_;first|refine o_fieldI rfl rfl rfl rfl ?_|refine o_field rfl rfl rfl rfl ?_)|(refine gB ?_;first|refine o_add rfl rfl rfl rfl (by omega) ?_|refine o_sub rfl rfl rfl rfl (by omega) ?_|refine o_eqNil rfl rfl rfl rfl rfl ?_)|(refine gI ?_;first|refine o_indexS rfl rfl rfl rfl rfl rfl (by omega) ?_|refine o_index rfl rfl rfl rfl rfl (by omega) ?_)|(refine gS ?_;first|refine o_store rfl rfl rfl rfl rfl rfl ?_|refine o_storeW rfl rfl rfl rfl rfl rfl ?_)|(refine o_allocZ rfl rfl ?_;intro _)|(refine o_box rfl rfl rfl ?_;intro _)|refine o_skip rfl rfl ?_|refine o_skipN rfl rfl ?_|refine o_iface rfl rfl rfl ?_|refine o_build rfl rfl rfl rfl rfl ?_|(refine o_bslice rfl rfl rfl rfl rfl rfl rfl ?_;intro _)|(refine o_splitP rfl ?_ ?_<;>intro h<;>fail_if_success exact Bool.noConfusion h))|refine o_head0 rfl ?_|refine o_end ?_|refine o_head1 rfl ?_|refine wp_seq ?_|refine o_region ?_|refine wp_block ?_|refine wp_skip ?_|refine wp_exit ?_|(refine w_condD rfl ?_ ?_<;>intro h)|(refine w_cond rfl ?_ ?_<;>intro h<;>try exact Bool.noConfusion h)|refine w_retA (vs:=[_]) rfl (Res.cell rfl rfl Res.nil) ?_|refine w_ret (S) (vs:=[_]) rfl (Res.cell rfl rfl Res.nil) ?_
    refine ⟨_, _, _, _, _, [⟨_, false, _⟩, ⟨_, false, _⟩, ⟨_, false, _⟩, ⟨_, false, _⟩, ⟨_, false, _⟩, ⟨_, false, _⟩], [_, _, _, _, _, _], rfl, ?_, ?_, rfl, .low (.low (.low (.low (.low (.low .refl)))))⟩
    · refine ⟨slv_one (xs := netS.mains) (.tail _ (.tail _ (.tail _ (.tail _ (.head _))))) rfl (by decide), slv_one (xs := netS.uses) (.tail _ (.tail _ (.tail _ (.head _)))) rfl (by decide), slv_one (xs := netS.readings) (.tail _ (.tail _ (.head _))) rfl (by decide), slv_one (xs := netS.faults) (.tail _ (.head _)) rfl (by decide), slv_one (xs := netS.prices) (.head _) rfl (by decide), ?_, ?_, ?_, ?_, ?_⟩ <;> decide
    · simp
  · rintro _ _ ⟨a, b, c, d, e, R, R0, rfl, hn, hR, rfl, hl⟩
    exact ⟨_, hl, a, b, c, d, e, R, rfl, hn, hR, rfl⟩

/-! what the functions answer of it -/
theorem flow1 : flowG netS 2 4 5 = ⟨55, 60⟩ ∧ flowE netS 2 4 5 = 0 := by decide +kernel
theorem flow2 : flowG netS 1 4 6 = ⟨135, 150⟩ ∧ flowE netS 1 4 6 = 0 := by decide +kernel
theorem used1 : usedG netS 2 4 5 = ⟨50, 60⟩ := by decide +kernel
theorem conf1 : confL netS 4 9 = [20, 22] ∧ confE netS 4 9 = 0 := by decide +kernel
theorem moved1 : movedL netS 1 4 6 = [20, 21] := by decide +kernel
theorem owed1 : owedG netS 3 4 7 = ⟨160, 24⟩ ∧ owedE netS 3 4 7 = 0 := by decide +kernel
theorem lost1 : lostG netS 4 6 = ⟨0, 20⟩ ∧ lostE netS 4 6 = 0 := by decide +kernel
theorem look1 : lookE netS 0 9 = 0 ∧ lookE netS 0 12 = 0 ∧ validB netS = true ∧ placeF netS 3 = 2 := by decide +kernel
theorem srtL_eqP {xs ys : List Int} (h1 : ys.Perm xs) (h2 : ys.Pairwise fun a b => a ≤ b) : srtL xs = ys :=
  (List.Perm.eq_of_pairwise (le := fun a b : Int => a ≤ b) (fun a b _ _ h1 h2 => by omega) h2 (srtL_pair xs) (h1.trans (srtL_perm xs).symm)).symm
theorem dates1 : datesN netS = [1, 5, 6, 7, 9, 12] := by
  have e : srtL (nightsL netS).flatten = [1, 1, 5, 6, 7, 9, 12] := srtL_eqP (by decide) (by decide)
  unfold datesN sortedL
  rw [e]
  decide
theorem periods1 : periodsN netS = [4] := by
  have e : srtL (timesL netS).flatten = [4, 4, 4, 4, 4, 4] := srtL_eqP (by decide) (by decide)
  unfold periodsN sortedL
  rw [e]
  decide
theorem sends1 {d : Int} {l : List PostG} (h : (List.range' 0 3).flatMap (fun i => ([4] : List Int).flatMap fun p => postAt netS d p i) = l) : sendN netS d = l := by
  unfold sendN sendFrom sendRow
  rw [periods1]
  exact h
theorem postsS (known : Int) : postsN netS known = ([1, 5, 6, 7, 9, 12] : List Int).flatMap fun d => if d ≤ known then (List.range' 0 3).flatMap (fun i => ([4] : List Int).flatMap fun p => postAt netS d p i) else [] := by
  unfold postsN postsFrom
  rw [dates1]
  congr 1
  funext d
  rw [sends1 rfl]
def posts9 : List PostG := [⟨1, 2, 4, 100, 0⟩, ⟨1, 3, 4, 160, 0⟩, ⟨7, 3, 4, 0, 24⟩, ⟨9, 2, 4, -100, 0⟩, ⟨9, 3, 4, -160, 0⟩]
def posts12 : List PostG := posts9 ++ [⟨12, 2, 4, 100, 0⟩, ⟨12, 3, 4, 160, 0⟩]
theorem posts9_eq : postsG netS 9 = posts9 := by
  unfold postsG
  rw [if_pos look1.1, postsS]
  decide +kernel
theorem posts12_eq : postsN netS 12 = posts12 := by
  rw [postsS]
  decide +kernel
theorem bal1 : BalOk netS 3 12 := by
  unfold BalOk
  rw [posts12_eq]
  intro j hj
  have : ∀ j, j < 8 → -4000000000000000000 ≤ balT posts12 3 j ∧ balT posts12 3 j ≤ 4000000000000000000 := by decide +kernel
  exact this j (Nat.lt_succ_of_le hj)
theorem bal2 : balE netS 3 12 = 0 := by
  unfold balE
  rw [if_pos look1.2.2.1, look1.2.2.2, if_neg (by decide), look1.2.1]
theorem bal3 : balG netS 3 12 = 136 := by
  unfold balG
  rw [if_pos bal2, posts12_eq]
  decide +kernel
theorem sorts1 : SortsOk netS := fun _ => ⟨sortOk_short (by decide), sortOk_short (by decide)⟩
section
variable (E : Env) (S : Ents) (a b c d e : Value) (hn : NetV S a b c d e netS)
include hn
theorem s37a : CallW Tryz.prog E 37 #[.agg #[a, b, c, d, e], iv 2, iv 4, iv 5] S fun r S' => r = .tuple #[.agg (rangeC ⟨55, 60⟩), iv 0] ∧ S' = S := by
  have := c37 E S netS a b c d e 2 4 5 hn
  rwa [flow1.1, flow1.2] at this
theorem s37b : CallW Tryz.prog E 37 #[.agg #[a, b, c, d, e], iv 1, iv 4, iv 6] S fun r S' => r = .tuple #[.agg (rangeC ⟨135, 150⟩), iv 0] ∧ S' = S := by
  have := c37 E S netS a b c d e 1 4 6 hn
  rwa [flow2.1, flow2.2] at this
theorem s39 : CallW Tryz.prog E 39 #[.agg #[a, b, c, d, e], iv 2, iv 4, iv 5] S fun r S' => r = .tuple #[.agg (rangeC ⟨50, 60⟩), iv 0] ∧ S' = S := by
  have := c39 E S netS a b c d e 2 4 5 hn
  rwa [used1, flow1.2] at this
theorem s11 : CallW Tryz.prog E 11 #[.agg #[a, b, c, d, e], iv 4, iv 9] S fun r S' => ∃ Δ v, Own v ([20, 22] : List Int) Δ ∧ r = .tuple #[v, iv 0] ∧ S' = Δ ++ S := by
  have := c11 E S netS a b c d e 4 9 hn
  rwa [conf1.1, conf1.2] at this
theorem s13 : CallW Tryz.prog E 13 #[.agg #[a, b, c, d, e], iv 1, iv 4, iv 6] S fun r S' => ∃ Δ v, Own v ([20, 21] : List Int) Δ ∧ r = .tuple #[v, iv 0] ∧ S' = Δ ++ S := by
  have := c13 E S netS a b c d e 1 4 6 hn
  rwa [moved1, flow2.2] at this
theorem s19 : CallW Tryz.prog E 19 #[.agg #[a, b, c, d, e], iv 3, iv 4, iv 7] S fun r S' => r = .tuple #[.agg (billC ⟨160, 24⟩), iv 0] ∧ S' = S := by
  have := c19 E S netS a b c d e 3 4 7 hn
  rwa [owed1.1, owed1.2] at this
theorem s43 : CallW Tryz.prog E 43 #[.agg #[a, b, c, d, e], iv 4, iv 6] S fun r S' => r = .tuple #[.agg (rangeC ⟨0, 20⟩), iv 0] ∧ S' = S := by
  have := c43 E S netS a b c d e 4 6 hn
  rwa [lost1.1, lost1.2] at this
end
section
variable (ro : Nat → Prop) (rd : Bool) (S R : Ents) (a b c d e : Value) (hn : NetV R a b c d e netS) (hR : ∀ x ∈ R, x.mine = false) (hs : List.Sublist R S)
include hn hR hs
theorem s21 : CallW Tryz.prog (Em ro .plain rd) 21 #[.agg #[a, b, c, d, e], iv 9] S fun r S' => ∃ v Δ, r = .tuple #[v, iv 0] ∧ Own v posts9 Δ ∧ S' = Δ ++ S := by
  have := c21 ro rd S R netS a b c d e 9 hn (fun x hx => ⟨hR x hx, hs.subset hx⟩) sorts1
  rwa [look1.1, posts9_eq] at this
theorem s23 : CallW Tryz.prog (Em ro .plain rd) 23 #[.agg #[a, b, c, d, e], iv 3, iv 12] S fun r S' => r = .tuple #[iv 136, iv 0] ∧ S' = S := by
  have := c23 ro rd S R netS a b c d e 3 12 hn (fun x hx => ⟨hR x hx, hs.subset hx⟩) sorts1 fun _ => bal1
  rwa [bal3, bal2] at this
end
theorem slv_two {S : Ents} {b : Nat} {x y : Int} {tb : TypeId} : SlV (⟨b, true, .cells #[.int .i64 x, .int .i64 y] tb (0, 0)⟩ :: S) (.slice (some ⟨b, 0, none⟩) 2 2) [x, y] :=
  slv_one (xs := [x, y]) (mn := true) (.head _) rfl (Nat.le_refl _)
instance : IntsT 66 5 := ⟨by kernel_rfl⟩
theorem c18 (ro : Nat → Prop) (rd : Bool) (S : Ents) : CallW Tryz.prog (Em ro .plain rd) 18 #[] S fun r S' => r = .bool true ∧ S' = S := by
  refine call_in (args := []) Tryz.func18 (by decide) rfl rfl ?_
  repeat' first|(refine gX ?_;first|refine o_v rfl rfl ?_|(refine o_splitD rfl rfl rfl ?_ ?_<;>intro h)|(refine o_split rfl rfl rfl ?_ ?_<;>intro h<;>fail_if_success exact Bool.noConfusion h)|(refine gL ?_;first|refine o_load rfl rfl rfl rfl ?_|refine o_loadR rfl rfl rfl (by omega) rfl rfl ?_|refine o_loadW rfl rfl rfl rfl ?_|refine o_loadK rfl rfl rfl ?_)|(refine gF ?_;first|refine o_fieldI rfl rfl rfl rfl ?_|refine o_field rfl rfl rfl rfl ?_)|(refine gB ?_;first|refine o_eqS (k := 2) rfl rfl rfl rfl rfl rfl rfl rfl ?_|refine o_eqS (k := 5) rfl rfl rfl rfl rfl rfl rfl rfl ?_|refine o_add rfl rfl rfl rfl (by omega) ?_|refine o_sub rfl rfl rfl rfl (by omega) ?_|refine o_eqNil rfl rfl rfl rfl rfl ?_)|(refine gC ?_;first|(refine o_callZ rfl rfl rfl (c86 _ _) ?_;rintro r _ ⟨a, b, c, d, e, R, rfl, hn, hR, rfl⟩;obtain ⟨qa, ka, rfl, _, _⟩ := hn.mains;obtain ⟨qb, kb, rfl, _, _⟩ := hn.uses;obtain ⟨qc, kc, rfl, _, _⟩ := hn.readings;obtain ⟨qd, kd, rfl, _, _⟩ := hn.faults;obtain ⟨qe, ke, rfl, _, _⟩ := hn.prices;refine ⟨inferInstance, ?_⟩)|refine o_callF rfl rfl rfl (s37a _ _ _ _ _ _ _ (hn.sub Sb.h)) ?_|refine o_callF rfl rfl rfl (s37b _ _ _ _ _ _ _ (hn.sub Sb.h)) ?_|refine o_callF rfl rfl rfl (s39 _ _ _ _ _ _ _ (hn.sub Sb.h)) ?_|(refine o_callZ rfl rfl rfl (s11 _ _ _ _ _ _ _ (hn.sub Sb.h)) ?_;rintro r _ ⟨Δc, vc, hoc, rfl, rfl⟩;refine ⟨inferInstance, ?_⟩)|(refine o_callZ rfl rfl rfl (s13 _ _ _ _ _ _ _ (hn.sub Sb.h)) ?_;rintro r _ ⟨Δm, vm, hom, rfl, rfl⟩;refine ⟨inferInstance, ?_⟩)|refine o_callF rfl rfl rfl (s19 _ _ _ _ _ _ _ (hn.sub Sb.h)) ?_|(refine o_callZ rfl rfl rfl (s21 ro rd _ R _ _ _ _ _ hn hR Sb.h) ?_;rintro r _ ⟨vp, Δp, rfl, hop, rfl⟩;obtain ⟨qp, kp, rfl, _, hrp⟩ := hop.slv;have i1 := SlI.mk hrp;refine ⟨inferInstance, ?_⟩)|refine o_callF rfl rfl rfl (s23 ro rd _ R _ _ _ _ _ hn hR Sb.h) ?_|refine o_callF rfl rfl rfl (s43 _ _ _ _ _ _ _ (hn.sub Sb.h)) ?_|refine o_callF (v := .bool true) rfl rfl rfl (c15 _ _ [20, 22] [20, 22] _ _ (hoc.slv.sub Sb.h) slv_two (by decide) (by decide)) ?_|refine o_callF (v := .bool true) rfl rfl rfl (c15 _ _ [20, 21] [20, 21] _ _ (hom.slv.sub Sb.h) slv_two (by decide) (by decide)) ?_)|(refine gI ?_;first|refine o_indexZ 3 rfl rfl rfl rfl rfl rfl rfl (by decide) ?_|refine o_indexS rfl rfl rfl rfl rfl rfl (by omega) ?_|refine o_index rfl rfl rfl rfl rfl (by omega) ?_)|(refine gS ?_;first|refine o_store rfl rfl rfl rfl rfl rfl ?_|refine o_storeW rfl rfl rfl rfl rfl rfl ?_)|(refine o_allocZ rfl rfl ?_;intro _)|(refine o_box rfl rfl rfl ?_;intro _)|refine o_skip rfl rfl ?_|refine o_skipN rfl rfl ?_|refine o_iface rfl rfl rfl ?_|refine o_build rfl rfl rfl rfl rfl ?_|(refine o_bslice rfl rfl rfl rfl rfl rfl rfl ?_;intro _)|(refine o_splitP rfl ?_ ?_<;>intro h<;>fail_if_success exact Bool.noConfusion h))|refine o_head0 rfl ?_|refine o_end ?_|refine o_head1 rfl ?_|refine wp_seq ?_|refine o_region ?_|refine wp_block ?_|refine wp_skip ?_|refine wp_exit ?_|(refine w_condD rfl ?_ ?_<;>intro h)|(refine w_cond rfl ?_ ?_<;>intro h<;>try exact Bool.noConfusion h)|refine w_ret (S) (vs:=[_]) rfl (Res.tmp rfl Res.nil) ?_
  all_goals first|exact ⟨rfl, rfl⟩|exact (h rfl).elim
end Go.Proofs.YtpnnmklacialgaaGreat
namespace Go.Proofs.YtpnnmklacialgaaGreat
open Go.Conc
attribute [local irreducible] WP OpF OpX CallW SemH retQ AnyF RoundW WM OpsM CallM

theorem o_boolT {P : Program} {E : Env} {f : FuncId} {args : Array Value} {S : Ents} {b : Bool} (h : CallW P E f args S fun r S' => r = .bool b ∧ S' = S) (hb : b = true) : CallW P E f args S fun r S' => r = .bool true ∧ S' = S := by
  rwa [hb] at h
theorem same_self {xs ys : List Int} (h : ys = xs) : (xs == ys) = true := by
  subst h
  simp
theorem confF_len {ev : List Int → Bool} : ∀ {j : Nat} {l : List Int}, (confF ev j l).length ≤ l.length := by
  intro j
  induction j with
  | zero => intro l; exact Nat.le_refl _
  | succ j ih =>
    intro l
    simp only [confF]
    refine Nat.le_trans ih ?_
    split
    · exact Nat.le_refl _
    · unfold dropAt
      simp
      omega
theorem confL_len {n : NetG} {p k : Int} : (confL n p k).length ≤ n.readings.length := by
  unfold confL
  split
  · exact Nat.le_trans confF_len countSrc_len
  · simp
theorem movedL_len {n : NetG} {main p k : Int} : (movedL n main p k).length ≤ n.readings.length := by
  unfold movedL
  split
  · exact Nat.le_trans (List.length_filter_le _ _) countSrc_len
  · simp
section
variable (E : Env) (S : Ents) (n : NetG) (a b c d e : Value)
theorem c12' (p k : Int) (hn : NetV S a b c d e n) : CallW Tryz.prog E 12 #[.agg #[a, b, c, d, e], .agg #[iv p, iv k]] S fun r S' => ∃ Δ v, Own v (confL n p k) Δ ∧ r = .tuple #[v, iv (confE n p k)] ∧ S' = Δ ++ S := by
  have := c12 E S n a b c d e p k hn
  rwa [conf_err, conf_list] at this
theorem c14' (main p k : Int) (hn : NetV S a b c d e n) : CallW Tryz.prog E 14 #[.agg #[a, b, c, d, e], iv main, .agg #[iv p, iv k]] S fun r S' => ∃ Δ v, Own v (movedL n main p k) Δ ∧ r = .tuple #[v, iv (flowE n main p k)] ∧ S' = Δ ++ S := by
  have := c14 E S n a b c d e main p k hn
  rwa [flow_shown, moved_list] at this
theorem c17' (v : Value) (p k : Int) (l : List Int) (hn : NetV S a b c d e n) (hv : SlV S v l) (hm : l.length ≤ 17592186044416) : CallW Tryz.prog E 17 #[.agg #[a, b, c, d, e], .agg #[iv p, iv k], v] S fun r S' => r = iv (ccE n p k l) ∧ S' = S := by
  have := c17 E S n a b c d e v p k l hn hv hm
  rwa [cc_eq] at this
end
theorem c3 (S : Ents) (n : NetG) (a b c d e v : Value) (main p k : Int) (l : List Int) (hn : NetV S a b c d e n) (hv : SlV S v l) (hm : l.length ≤ 17592186044416) :
    ∃ code, Tryz.f3.body = some code ∧ ∀ ro, WP Tryz.prog (Em ro .plain false) 3 Tryz.f3.ntmps code (retQ Tryz.prog ⟨ro, .plain⟩ Tryz.f3.results fun r S' => r = .bool true ∧ List.Sublist S S') (den (dens [.agg #[a, b, c, d, e], .agg #[iv main, iv p, iv k], v] 0) fun _ => undef) [] S := by
  refine ⟨_, rfl, fun ro => ?_⟩
  have hl1 := confL_len (n := n) (p := p) (k := k)
  have hl2 := movedL_len (n := n) (main := main) (p := p) (k := k)
  have hl3 := hn.readings_le
  repeat' first|(refine gX ?_;first|refine o_v rfl rfl ?_|(refine o_splitD rfl rfl rfl ?_ ?_<;>intro h)|(refine o_split rfl rfl rfl ?_ ?_<;>intro h<;>fail_if_success exact Bool.noConfusion h)|(refine gL ?_;first|refine o_load rfl rfl rfl rfl ?_|refine o_loadR rfl rfl rfl (by omega) rfl rfl ?_|refine o_loadW rfl rfl rfl rfl ?_|refine o_loadK rfl rfl rfl ?_)|(refine gF ?_;first|refine o_fieldI rfl rfl rfl rfl ?_|refine o_field rfl rfl rfl rfl ?_)|(refine gB ?_;first|refine o_add rfl rfl rfl rfl (by omega) ?_|refine o_sub rfl rfl rfl rfl (by omega) ?_|refine o_eqNil rfl rfl rfl rfl rfl ?_)|(refine gC ?_;first|(refine o_callZ rfl rfl rfl (c11 _ _ n _ _ _ _ _ p k (hn.sub Sb.h)) ?_;rintro r _ ⟨Δ1, v1, ho1, rfl, rfl⟩;refine ⟨inferInstance, ?_⟩)|(refine o_callZ rfl rfl rfl (c12' _ _ n _ _ _ _ _ p k (hn.sub Sb.h)) ?_;rintro r _ ⟨Δ2, v2, ho2, rfl, rfl⟩;refine ⟨inferInstance, ?_⟩)|(refine o_callZ rfl rfl rfl (c13 _ _ n _ _ _ _ _ main p k (hn.sub Sb.h)) ?_;rintro r _ ⟨Δ3, v3, ho3, rfl, rfl⟩;refine ⟨inferInstance, ?_⟩)|(refine o_callZ rfl rfl rfl (c14' _ _ n _ _ _ _ _ main p k (hn.sub Sb.h)) ?_;rintro r _ ⟨Δ4, v4, ho4, rfl, rfl⟩;refine ⟨inferInstance, ?_⟩)|refine o_callF (v := .bool true) rfl rfl rfl (o_boolT (c15 _ _ (confL n p k) (confL n p k) _ _ (ho1.slv.sub Sb.h) (ho2.slv.sub Sb.h) (by omega) (by omega)) (same_self rfl)) ?_|refine o_callF (v := .bool true) rfl rfl rfl (o_boolT (c15 _ _ (movedL n main p k) (movedL n main p k) _ _ (ho3.slv.sub Sb.h) (ho4.slv.sub Sb.h) (by omega) (by omega)) (same_self rfl)) ?_|refine o_callF rfl rfl rfl (c16 _ _ n _ _ _ _ _ _ p k l (hn.sub Sb.h) (hv.sub Sb.h) hm) ?_|refine o_callF rfl rfl rfl (c17' _ _ n _ _ _ _ _ _ p k l (hn.sub Sb.h) (hv.sub Sb.h) hm) ?_|refine o_callF rfl rfl rfl (c18 ro false _) ?_)|(refine gI ?_;first|refine o_indexS rfl rfl rfl rfl rfl rfl (by omega) ?_|refine o_index rfl rfl rfl rfl rfl (by omega) ?_)|(refine gS ?_;first|refine o_store rfl rfl rfl rfl rfl rfl ?_|refine o_storeW rfl rfl rfl rfl rfl rfl ?_)|(refine o_allocZ rfl rfl ?_;intro _)|(refine o_box rfl rfl rfl ?_;intro _)|refine o_skip rfl rfl ?_|refine o_skipN rfl rfl ?_|refine o_iface rfl rfl rfl ?_|refine o_build rfl rfl rfl rfl rfl ?_|(refine o_bslice rfl rfl rfl rfl rfl rfl rfl ?_;intro _)|(refine o_splitP rfl ?_ ?_<;>intro h<;>fail_if_success exact Bool.noConfusion h))|refine o_head0 rfl ?_|refine o_end ?_|refine o_head1 rfl ?_|refine wp_seq ?_|refine o_region ?_|refine wp_block ?_|refine wp_skip ?_|refine wp_exit ?_|(refine w_condD rfl ?_ ?_<;>intro h)|(refine w_cond rfl ?_ ?_<;>intro h<;>try exact Bool.noConfusion h)|refine w_retA (vs:=[_]) rfl (Res.tmp rfl Res.nil) ?_|refine w_ret (S) (vs:=[_]) rfl (Res.tmp rfl Res.nil) ?_|(show WP _ _ _ _ (.region 6 _ true) _ _ _ _;refine o_drawn [(0, false), (1, false), (2, true), (3, false), (4, false), (5, false), (6, false), (7, false), (8, false), (9, false), (10, false), (11, true), (12, false), (13, false), (14, false), (15, false), (16, false), (17, false), (18, false), (19, false), (20, false), (21, false), (22, false), (23, false), (24, false), (26, true), (27, true), (28, true), (25, false), (29, true), (30, false), (31, false), (32, false), (33, true), (34, false), (35, false)] mixed (by kernel_rfl) ?_)
  all_goals first|exact ⟨rfl, Sb.h⟩|exact (h rfl).elim
end Go.Proofs.YtpnnmklacialgaaGreat
namespace Go.Proofs.YtpnnmklacialgaaGreat
open Go.Conc
attribute [local irreducible] WP OpF OpX CallW SemH retQ AnyF RoundW WM OpsM CallM

/-! ### the plain law -/
theorem riseF_pair {α : Type} {key : α → Int} {ok : α → Bool} : ∀ {l : List α} {was : Int}, riseF key ok was l = true → (∀ x ∈ l, was < key x) ∧ l.Pairwise fun x y => key x < key y
  | [], _, _ => ⟨fun x hx => absurd hx (by simp), List.Pairwise.nil⟩
  | y :: l, was, h => by
    simp only [riseF, Bool.and_eq_true, decide_eq_true_eq] at h
    obtain ⟨h1, h2⟩ := riseF_pair (l := l) h.2
    refine ⟨fun x hx => ?_, List.Pairwise.cons h1 h2⟩
    rcases List.mem_cons.1 hx with rfl | hx
    · exact h.1.1
    · exact Int.lt_trans h.1.1 (h1 x hx)
theorem look_validB {n : NetG} {p k : Int} (h : lookE n p k = 0) : validB n = true ∧ within p 0 999 = true ∧ within k 0 100000 = true := by
  unfold lookE at h
  split at h
  · split at h
    · split at h
      · exact ⟨‹_›, ‹_›, ‹_›⟩
      · exact absurd h (by decide)
    · exact absurd h (by decide)
  · exact absurd h (by decide)
theorem look_of {n : NetG} {p k : Int} (h1 : validB n = true) (h2 : within p 0 999 = true) (h3 : within k 0 100000 = true) : lookE n p k = 0 := by
  unfold lookE
  rw [if_pos h1, if_pos h2, if_pos h3]
theorem count_pair {n : NetG} {p k : Int} (h : validB n = true) : (countSrc n p k).Pairwise (· < ·) := by
  unfold validB at h
  simp only [Bool.and_eq_true] at h
  have h16 := h.1.2
  have := (riseF_pair h16).2
  unfold countSrc
  rw [List.pairwise_map]
  exact this.sublist List.filter_sublist
theorem ev_mono {n : NetG} {p k : Int} {l l' : List Int} (h12 : n.mains.length ≤ 12) (hs : ∀ x ∈ l', x ∈ l) (h : evL' n p k l = true) : evL' n p k l' = true := by
  refine wid_even (n := n) (m := n) (b1 := fun x => l'.contains x.source) (b2 := fun x => l.contains x.source) rfl rfl ?_ h12 h
  unfold rF
  generalize n.readings.filter (countsR p k) = q
  have e : q.filter (fun x => l'.contains x.source) = (q.filter fun x => l.contains x.source).filter fun x => l'.contains x.source := by
    rw [List.filter_filter]
    apply List.filter_congr
    intro x _
    by_cases hx : x.source ∈ l'
    · simp [hx, hs _ hx]
    · simp [hx]
  rw [e]
  exact List.filter_sublist
theorem dropAt_sub {l : List Int} {i : Nat} : List.Sublist (dropAt l i) l := by
  unfold dropAt
  have h := (List.Sublist.refl (l.take i)).append (List.drop_sublist 1 (l.drop i))
  rw [List.drop_drop, List.take_append_drop] at h
  exact h
theorem dropAt_two {l : List Int} {i j : Nat} (hj : j < l.length) (h : j ≤ i) {x : Int} (hx : x ∈ dropAt (dropAt l j) i) : x ∈ dropAt l (i + 1) := by
  obtain ⟨q, hq, rfl⟩ := List.mem_iff_getElem.1 hx
  have hl : (dropAt l j).length + 1 = l.length := dropAt_len hj
  have key : ∀ (m : List Int) (t q : Nat), (dropAt m t)[q]? = if q < t ∧ q < m.length then m[q]? else if t ≤ m.length then m[q + 1]? else (if m.length ≤ q then none else m[q]?) := by
    intro m t q
    unfold dropAt
    rw [List.getElem?_append, List.length_take]
    by_cases h1 : q < min t m.length
    · rw [if_pos h1, if_pos (by omega), List.getElem?_take, if_pos (by omega)]
    · rw [if_neg h1, if_neg (by omega), List.getElem?_drop]
      by_cases h2 : t ≤ m.length
      · rw [if_pos h2]; congr 1; omega
      · rw [if_neg h2, if_pos (by omega), List.getElem?_eq_none (by omega)]
  have e1 : (dropAt (dropAt l j) i)[q]? = some (dropAt (dropAt l j) i)[q] := List.getElem?_eq_getElem hq
  generalize (dropAt (dropAt l j) i)[q] = v at e1
  have e2 : ∃ q' : Nat, (dropAt l (i + 1))[q']? = some v := by
    rw [key, key] at e1
    by_cases c1 : q < i ∧ q < (dropAt l j).length
    · rw [if_pos c1] at e1
      by_cases c2 : q < j ∧ q < l.length
      · rw [if_pos c2] at e1
        exact ⟨q, by rw [key, if_pos (by omega)]; exact e1⟩
      · rw [if_neg c2, if_pos (by omega)] at e1
        by_cases c3 : q + 1 < i + 1 ∧ q + 1 < l.length
        · exact ⟨q + 1, by rw [key, if_pos c3]; exact e1⟩
        · omega
    · rw [if_neg c1] at e1
      by_cases c4 : i ≤ (dropAt l j).length
      · rw [if_pos c4, key, if_neg (by omega), if_pos (by omega)] at e1
        exact ⟨q + 1, by rw [key, if_neg (by omega), if_pos (by omega)]; exact e1⟩
      · rw [if_neg c4] at e1
        split at e1
        · cases e1
        · omega
  obtain ⟨q', hq'⟩ := e2
  exact List.mem_of_getElem? hq'
/-- What is left is a conflict, and none of it can be spared. -/
theorem conf_min {n : NetG} {p k : Int} (h12 : n.mains.length ≤ 12) : ∀ {j : Nat} {l : List Int}, j ≤ l.length → evL' n p k l = false → (∀ i, j ≤ i → i < l.length → evL' n p k (dropAt l i) = true) →
    List.Sublist (confF (evL' n p k) j l) l ∧ evL' n p k (confF (evL' n p k) j l) = false ∧ ∀ i, i < (confF (evL' n p k) j l).length → evL' n p k (dropAt (confF (evL' n p k) j l) i) = true
  | 0, l, hj, h1, h2 => ⟨List.Sublist.refl _, h1, fun i hi => h2 i (Nat.zero_le _) hi⟩
  | j + 1, l, hj, h1, h2 => by
    rw [confF_succ]
    by_cases hc : evL' n p k (dropAt l j) = true
    · rw [if_pos hc]
      refine conf_min h12 (by omega) h1 fun i hi hl => ?_
      rcases Nat.lt_or_ge j i with h | h
      · exact h2 i (by omega) hl
      · rw [show i = j by omega]; exact hc
    · rw [if_neg hc]
      have hl := dropAt_len (show j < l.length by omega)
      obtain ⟨g1, g2, g3⟩ := conf_min h12 (j := j) (l := dropAt l j) (by omega) (by simpa using hc) fun i hi hl' => ev_mono h12 (fun x hx => dropAt_two (show j < l.length by omega) hi hx) (h2 (i + 1) (by omega) (by omega))
      exact ⟨g1.trans dropAt_sub, g2, g3⟩
theorem either_even {n : NetG} {p k : Int} (h0 : lookE n p k = 0) (he : evenN n tt p k = true) : confE n p k = 77 ∧ confL n p k = [] ∧ ∀ l, ccE n p k l = 77 := by
  have hV := look_valid h0
  rw [ev_count] at he
  have h1 : confE n p k = 77 := by unfold confE; rw [if_pos h0, if_pos he]
  refine ⟨h1, by unfold confL; rw [h1]; rfl, fun l => ?_⟩
  unfold ccE
  rw [if_pos h0]
  split
  · rename_i ha
    rw [if_pos]
    refine ev_mono hV.m12 (fun x hx => ?_) he
    obtain ⟨i, hi, rfl⟩ := List.mem_iff_getElem.1 hx
    have := List.all_eq_true.1 ha i (List.mem_range.2 hi)
    rw [ccAt_eq hi] at this
    simp only [Bool.and_eq_true] at this
    simpa using this.1.1
  · rfl
theorem either_odd {n : NetG} {p k : Int} (h0 : lookE n p k = 0) (he : evenN n tt p k = false) : confE n p k = 0 ∧ ccE n p k (confL n p k) = 0 := by
  have hV := look_valid h0
  have hvb := (look_validB h0).1
  rw [ev_count] at he
  have h1 : confE n p k = 0 := by unfold confE; rw [if_pos h0, if_neg (by rw [he]; decide)]
  refine ⟨h1, ?_⟩
  have h2 : confL n p k = confF (evL' n p k) (countSrc n p k).length (countSrc n p k) := by unfold confL; rw [if_pos h1]
  obtain ⟨g1, g2, g3⟩ := conf_min hV.m12 (Nat.le_refl _) he fun i hi hl => absurd hl (by omega)
  rw [← h2] at g1 g2 g3
  rw [ccE_good h0 fun i hi => ?_, if_neg (by rw [g2]; decide)]
  rw [ccAt_eq hi, g3 i hi]
  have hp := (count_pair (p := p) (k := k) hvb).sublist g1
  have hm := g1.subset (List.getElem_mem hi)
  simp only [Bool.and_eq_true, Bool.or_eq_true, decide_eq_true_eq, and_true]
  refine ⟨by simpa using hm, ?_⟩
  rcases Nat.eq_zero_or_pos i with h | h
  · exact .inl h
  · exact .inr (List.pairwise_iff_getElem.1 hp (i - 1) i (by omega) hi (by omega))

/-! ### the walk -/
theorem c31 (E : Env) (S : Ents) (n : NetG) (a b c d e : Value) (p k : Int) (hn : NetV S a b c d e n) :
    CallW Tryz.prog E 31 #[.agg #[a, b, c, d, e], iv p, iv k] S fun r S' => r = .tuple #[.bool (decide (lookE n p k = 0) && evenN n tt p k), iv (lookE n p k)] ∧ ∃ Δ, S' = Δ ++ S := by
  refine call_in (args := [.agg #[a, b, c, d, e], iv p, iv k]) Tryz.func31 (by decide) rfl rfl ?_
  repeat' first|(refine gX ?_;first|refine o_v rfl rfl ?_|(refine o_splitD rfl rfl rfl ?_ ?_<;>intro h)|(refine o_split rfl rfl rfl ?_ ?_<;>intro h<;>fail_if_success exact Bool.noConfusion h)|(refine gL ?_;first|refine o_load rfl rfl rfl rfl ?_|refine o_loadR rfl rfl rfl (by omega) rfl rfl ?_|refine o_loadW rfl rfl rfl rfl ?_|refine o_loadK rfl rfl rfl ?_)|(refine gF ?_;first|refine o_fieldI rfl rfl rfl rfl ?_|refine o_field rfl rfl rfl rfl ?_)|(refine gB ?_;first|refine o_add rfl rfl rfl rfl (by omega) ?_|refine o_sub rfl rfl rfl rfl (by omega) ?_|refine o_eqNil rfl rfl rfl rfl rfl ?_)|(refine gC ?_;first|refine o_callF rfl rfl rfl (c72 _ _ n _ _ _ _ _ _ _ (hn.sub Sb.h)) ?_|(refine o_callZ rfl rfl rfl (c82 _ _ n _ _ _ _ _ p k 96 #[] #[] tt (hn.sub Sb.h) (look_valid (p := p) (k := k) (Classical.byContradiction fun hc => by simp_all)) (fun E S' x hs => c96 E S' x)) ?_;rintro r _ ⟨bt, c', rfl, rfl, hT⟩;have i3 : CellI c' (0 + 77) (.bool (evenN n tt p k)) := ⟨hT.even⟩;refine ⟨inferInstance, ?_⟩))|(refine gI ?_;first|refine o_indexS rfl rfl rfl rfl rfl rfl (by omega) ?_|refine o_index rfl rfl rfl rfl rfl (by omega) ?_)|(refine gS ?_;first|refine o_store rfl rfl rfl rfl rfl rfl ?_|refine o_storeW rfl rfl rfl rfl rfl rfl ?_)|(refine o_allocZ rfl rfl ?_;intro _)|(refine o_box rfl rfl rfl ?_;intro _)|refine o_skip rfl rfl ?_|refine o_skipN rfl rfl ?_|refine o_iface rfl rfl rfl ?_|refine o_build rfl rfl rfl rfl rfl ?_|(refine o_bslice rfl rfl rfl rfl rfl rfl rfl ?_;intro _)|(refine o_splitP rfl ?_ ?_<;>intro h<;>fail_if_success exact Bool.noConfusion h))|refine o_head0 rfl ?_|refine o_end ?_|refine o_head1 rfl ?_|refine wp_seq ?_|refine o_region ?_|refine wp_block ?_|refine wp_skip ?_|refine wp_exit ?_|(refine w_condD rfl ?_ ?_<;>intro h)|(refine w_cond rfl ?_ ?_<;>intro h<;>try exact Bool.noConfusion h)|refine w_retA (vs:=[_,_]) rfl (Res.tmp rfl (Res.tmp rfl Res.nil)) ?_|refine w_ret (S) (vs:=[_,_]) rfl (Res.tmp rfl (Res.tmp rfl Res.nil)) ?_
  · refine ⟨?_, [_], rfl⟩
    simp [pack, h]
  · have h0 : lookE n p k = 0 := by omega
    refine ⟨?_, [_, _], rfl⟩
    simp [pack, h0, iv]
end Go.Proofs.YtpnnmklacialgaaGreat
namespace Go.Proofs.YtpnnmklacialgaaGreat
open Go.Conc
attribute [local irreducible] WP OpF OpX CallW SemH retQ AnyF RoundW WM OpsM CallM

theorem either_all {n : NetG} {p k : Int} {l : List Int} (h0 : lookE n p k = 0) : (evenN n tt p k = true ∧ confE n p k = 77 ∧ (confL n p k).length = 0 ∧ ccE n p k l = 77) ∨ (evenN n tt p k = false ∧ confE n p k = 0 ∧ ccE n p k (confL n p k) = 0) := by
  cases he : evenN n tt p k with
  | true =>
    obtain ⟨h1, h2, h3⟩ := either_even h0 he
    exact .inl ⟨rfl, h1, by rw [h2]; rfl, h3 l⟩
  | false =>
    obtain ⟨h1, h2⟩ := either_odd h0 he
    exact .inr ⟨rfl, h1, h2⟩
theorem c5 (S : Ents) (n : NetG) (a b c d e v : Value) (p k : Int) (l : List Int) (hn : NetV S a b c d e n) (hv : SlV S v l) (hm : l.length ≤ 17592186044416) :
    ∃ code, Tryz.f5.body = some code ∧ ∀ ro, WP Tryz.prog (Em ro .plain false) 5 Tryz.f5.ntmps code (retQ Tryz.prog ⟨ro, .plain⟩ Tryz.f5.results fun r S' => r = .bool true ∧ List.Sublist S S') (den (dens [.agg #[a, b, c, d, e], .agg #[iv p, iv k], v] 0) fun _ => undef) [] S := by
  obtain ⟨qa, qc, rfl, hqc, hr⟩ := hv
  have hv : SlV S (.slice qa l.length qc) l := ⟨qa, qc, rfl, hqc, hr⟩
  have i0 := SlI.mk hr
  refine ⟨_, rfl, fun ro => ?_⟩
  have hl1 := confL_len (n := n) (p := p) (k := k)
  have hl3 := hn.readings_le
  repeat' first|(refine gX ?_;first|refine o_v rfl rfl ?_|(refine o_splitD rfl rfl rfl ?_ ?_<;>intro h)|(refine o_split rfl rfl rfl ?_ ?_<;>intro h<;>fail_if_success exact Bool.noConfusion h)|(refine gL ?_;first|refine o_load rfl rfl rfl rfl ?_|refine o_loadR rfl rfl rfl (by omega) rfl rfl ?_|refine o_loadW rfl rfl rfl rfl ?_|refine o_loadK rfl rfl rfl ?_)|(refine gF ?_;first|refine o_fieldI rfl rfl rfl rfl ?_|refine o_field rfl rfl rfl rfl ?_)|(refine gB ?_;first|refine o_add rfl rfl rfl rfl (by omega) ?_|refine o_sub rfl rfl rfl rfl (by omega) ?_|refine o_eqNil rfl rfl rfl rfl rfl ?_)|(refine gC ?_;first|refine o_callF rfl rfl rfl (c28 _ _ n _ _ _ _ _ (hn.sub Sb.h)) ?_|refine o_callF rfl rfl rfl (c29 _ _ _ _ _) ?_|refine o_callF rfl rfl rfl (c30 _ _ _) ?_|(refine o_callZ rfl rfl rfl (c31 _ _ n _ _ _ _ _ p k (hn.sub Sb.h)) ?_;rintro r _ ⟨rfl, Δ1, rfl⟩;refine ⟨inferInstance, ?_⟩)|(refine o_callZ rfl rfl rfl (c11 _ _ n _ _ _ _ _ p k (hn.sub Sb.h)) ?_;rintro r _ ⟨Δ2, v2, ho2, rfl, rfl⟩;obtain ⟨w2, wc2, rfl, _, hr2⟩ := ho2.slv;refine ⟨inferInstance, ?_⟩)|refine o_callF rfl rfl rfl (c16 _ _ n _ _ _ _ _ _ p k l (hn.sub Sb.h) (hv.sub Sb.h) hm) ?_|refine o_callF rfl rfl rfl (c16 _ _ n _ _ _ _ _ _ p k (confL n p k) (hn.sub Sb.h) (ho2.slv.sub Sb.h) (by omega)) ?_|refine o_callF rfl rfl rfl (c18 ro false _) ?_)|(refine gI ?_;first|refine o_indexS rfl rfl rfl rfl rfl rfl (by omega) ?_|refine o_index rfl rfl rfl rfl rfl (by omega) ?_)|(refine gS ?_;first|refine o_store rfl rfl rfl rfl rfl rfl ?_|refine o_storeW rfl rfl rfl rfl rfl rfl ?_)|(refine o_allocZ rfl rfl ?_;intro _)|(refine o_box rfl rfl rfl ?_;intro _)|refine o_skip rfl rfl ?_|refine o_skipN rfl rfl ?_|refine o_iface rfl rfl rfl ?_|refine o_build rfl rfl rfl rfl rfl ?_|(refine o_bslice rfl rfl rfl rfl rfl rfl rfl ?_;intro _)|(refine o_splitP rfl ?_ ?_<;>intro h<;>fail_if_success exact Bool.noConfusion h))|refine o_head0 rfl ?_|refine o_end ?_|refine o_head1 rfl ?_|refine wp_seq ?_|refine o_region ?_|refine wp_block ?_|refine wp_skip ?_|refine wp_exit ?_|(refine w_condD rfl ?_ ?_<;>intro h)|(refine w_cond rfl ?_ ?_<;>intro h<;>try exact Bool.noConfusion h)|refine w_retA (vs:=[_]) rfl (Res.tmp rfl Res.nil) ?_|refine w_ret (S) (vs:=[_]) rfl (Res.tmp rfl Res.nil) ?_
  all_goals first|exact ⟨rfl, Sb.h⟩|skip
  all_goals
    exfalso
    have hb : validB n = true := Classical.byContradiction fun hc => (‹¬ (if validB n = true then (0 : Int) else 74) ≠ 0›) (by rw [if_neg hc]; decide)
    have w1 : within p 0 999 = true := by have := ‹(!within p 0 999) = false›; simpa using this
    have w2 : within k 0 100000 = true := by have := ‹(!within k 0 100000) = false›; simpa using this
    have h0 := look_of hb w1 w2
    clear hv hr hn hm hl1 hl3 hqc
    rcases either_all (l := l) h0 with ⟨q1, q2, q3, q4⟩ | ⟨q1, q2, q3⟩ <;> simp_all
end Go.Proofs.YtpnnmklacialgaaGreat
