/- One judgement for both kinds of regions, and the values of the quiet operations, computed.
   Rows of elements: how lists lie in memory.
   The rules of a walk: memory, arithmetic, calls.
   More rules: results, interfaces, struct literals, division.
   More rules: slice literals, appending one.
   More rules: slicing, making slices.
   Splits, returns, and the data. -/
import Derived.Test.YtpnnmklacialgaaGreatP01
set_option linter.unusedVariables false
set_option linter.unusedSimpArgs false
namespace Go.Proofs.YtpnnmklacialgaaGreat
open Go.Conc
@[irreducible] def ix (off j sz k : Nat) : Nat := off + j * sz + k
theorem ix_eq (off j sz k : Nat) : ix off j sz k = off + j * sz + k := by unfold ix; rfl
theorem ix_add (off j sz k f : Nat) : ix off j sz k + f = ix off j sz (k + f) := by simp only [ix_eq]; omega
def OpF (P : Program) (E : Env) (fn n : Nat) (ops : Array Oper) (sq : Bool) (l : List (Nat × Bool)) (K : Tm → List Deferred → Ents → Prop) (t : Tm) (ds : List Deferred) (Z S : Ents) : Prop :=
  (sq = true → OpsW P E fn n ops (l.map (·.1)) K t ds S) ∧ (sq = false → DrF P E n ops l K t ds Z S)
def OpX (P : Program) (E : Env) (fn n : Nat) (ops : Array Oper) (sq : Bool) (i : Nat) (z : Bool) (rest : List (Nat × Bool)) (o : Oper) (K : Tm → List Deferred → Ents → Prop) (t : Tm) (ds : List Deferred) (Zi Z S : Ents) : Prop :=
  ops[i]? = some o → (sq = true → z = false) → (Zi = bif z then Z else S) → OpF P E fn n ops sq ((i, z) :: rest) K t ds Z S ∧
    (sq = false → isAct o.op = true → List.Sublist Z S → ∃ R, Exec P E n ops o t S R ∧ ∀ v S', R v S' → ∃ Z', (z = false → List.Sublist Z Z') ∧ List.Sublist Z' S' ∧ DrF P E n ops rest K (updo t o.dst v) ds Z' S') ∧
    (sq = false → isAct o.op = false → List.Sublist Z S → ∃ v, VOp P E n ops o t Zi v ∧ DrF P E n ops rest K (updo t o.dst v) ds Z S)
def seqL (i : Nat) : Nat → List (Nat × Bool)
  | 0 => []
  | k + 1 => (i, false) :: seqL (i + 1) k
theorem seqL_map : ∀ (k i : Nat), (seqL i k).map (·.1) = List.range' i k
  | 0, i => rfl
  | k + 1, i => by simp only [seqL, List.map_cons, List.range'_succ, seqL_map k]
class KZ (sq : Bool) (Z S : Ents) : Prop where h : sq = false → List.Sublist Z S
instance kz_true {Z S : Ents} : KZ true Z S := ⟨fun h => by cases h⟩
instance kz_nil {sq : Bool} {S : Ents} : KZ sq [] S := ⟨fun _ => List.nil_sublist _⟩
instance kz_refl {sq : Bool} {S : Ents} : KZ sq S S := ⟨fun _ => List.Sublist.refl _⟩
instance (priority := low) kz_cons {sq : Bool} {Z S : Ents} {e : Ent} [i : KZ sq Z S] : KZ sq Z (e :: S) := ⟨fun h => .cons _ (i.h h)⟩
instance (priority := low) kz_app {sq : Bool} {Z S A : Ents} [i : KZ sq Z S] : KZ sq Z (A ++ S) := ⟨fun h => (i.h h).trans (List.sublist_append_right _ _)⟩
instance (priority := low) kz_both {sq : Bool} {Z S : Ents} {e : Ent} [i : KZ sq Z S] : KZ sq (e :: Z) (e :: S) := ⟨fun h => .cons_cons _ (i.h h)⟩
section
variable {P : Program} {E : Env} {fn n : Nat} {Q : Post} {K : Tm → List Deferred → Ents → Prop} {l : TL} {t : Tm} {ds : List Deferred} {S Z Zi : Ents} {ops : Array Oper} {i : Nat} {z : Bool} {rest : List (Nat × Bool)} {o : Oper} {sq : Bool}
theorem o_region {id : Nat} (h : OpF P E fn n ops true (seqL 0 ops.size) (Q .normal) t ds [] S) : WP P E fn n (.region id ops false) Q t ds S :=
  wp_region (by have := h.1 rfl; rwa [seqL_map, ← List.range_eq_range'] at this)
theorem o_drawn {id : Nat} (l : List (Nat × Bool)) (hm : P.follows .mixedOrders = true) (hf : full ops l = true) (h : OpF P E fn n ops false l (Q .normal) t ds S S) : WP P E fn n (.region id ops true) Q t ds S :=
  w_drawn l S hm hf (List.Sublist.refl _) (h.2 rfl)
theorem o_drawnZ {id : Nat} (l : List (Nat × Bool)) (Z : Ents) (hm : P.follows .mixedOrders = true) (hf : full ops l = true) (hz : List.Sublist Z S) (h : OpF P E fn n ops false l (Q .normal) t ds Z S) : WP P E fn n (.region id ops true) Q t ds S :=
  w_drawn l Z hm hf hz (h.2 rfl)
theorem o_head0 (ho : ops[i]? = some o) (h : OpX P E fn n ops sq i false rest o K t ds S Z S) : OpF P E fn n ops sq ((i, false) :: rest) K t ds Z S := (h ho (fun _ => rfl) rfl).1
theorem o_head1 (ho : ops[i]? = some o) (h : OpX P E fn n ops false i true rest o K t ds Z Z S) : OpF P E fn n ops false ((i, true) :: rest) K t ds Z S := (h ho (fun h => by cases h) rfl).1
theorem o_end (h : K t ds S) : OpF P E fn n ops sq [] K t ds Z S := ⟨fun _ => ops_nil h, fun _ => y_end h⟩
theorem o_V {v : Value} (hact : isAct o.op = false) (hv : VOp P E n ops o t Zi v) (h : OpF P E fn n ops sq rest K (updo t o.dst v) ds Z S) : OpX P E fn n ops sq i z rest o K t ds Zi Z S := by
  refine fun ho hz hzi => ⟨⟨fun hs => ?_, fun hs => ?_⟩, fun _ ha => (by rw [hact] at ha; cases ha), fun hs _ _ => ⟨v, hv, h.2 hs⟩⟩
  · have hz' := hz hs
    subst hz'
    simp only [cond_false] at hzi
    subst hzi
    exact ops_exec ho (hv _ (List.Sublist.refl _)) fun u S' hu => by obtain ⟨rfl, rfl⟩ := hu; exact h.1 hs
  · exact y_V hact hv (h.2 hs) ho hzi
theorem o_A {R : Value → Ents → Prop} (hact : isAct o.op = true) (hx : Exec P E n ops o t S R) (h : ∀ v S', R v S' → ∃ Z', (sq = false → List.Sublist Z S → (z = false → List.Sublist Z Z') ∧ List.Sublist Z' S') ∧ OpF P E fn n ops sq rest K (updo t o.dst v) ds Z' S') : OpX P E fn n ops sq i z rest o K t ds Zi Z S := by
  refine fun ho hz hzi => ⟨⟨fun hs => ?_, fun hs => ?_⟩, fun hs _ hsub => ⟨R, hx, fun v S' hr => let ⟨Z', h1, h2⟩ := h v S' hr; ⟨Z', (h1 hs hsub).1, (h1 hs hsub).2, h2.2 hs⟩⟩, fun _ ha => (by rw [hact] at ha; cases ha)⟩
  · exact ops_exec ho hx fun u S' hu => let ⟨Z', _, hk⟩ := h u S' hu; hk.1 hs
  · refine fun B hB hc hsub => y_A hact hx (fun v S' hr => ?_) ho hzi B hB hc hsub
    obtain ⟨Z', h1, h2⟩ := h v S' hr
    exact ⟨Z', (h1 hs hsub).1, (h1 hs hsub).2, h2.2 hs⟩
def AnyF (P : Program) (E : Env) (n : Nat) (ops : Array Oper) (l : List (Nat × Bool)) (K : Tm → List Deferred → Ents → Prop) (t : Tm) (ds : List Deferred) (Z S : Ents) : Prop :=
  ∀ B : Nat → Prop, (∀ p ∈ l, ∀ o, ops[p.1]? = some o → isAct o.op = true → (B p.1 ↔ p.2 = true)) → List.Sublist Z S → Any P E n ops B (fun t S => K t ds S) Z (setOf l) t S
def brk (ops : Array Oper) (l : List (Nat × Bool)) (alts : List (Nat × List (Nat × Bool))) : Bool :=
  (match alts with | [] => false | _ => true) &&
  alts.all (fun a => mems l a.1 && (match ops[a.1]? with | some o => isAct o.op && o.after.all (fun e => !bnd e || !mems l e.on) | none => false) && !mems a.2 a.1 &&
    a.2.all (fun p => mems l p.1 && (!actAt ops p.1 || l.all fun q => !Nat.beq q.1 p.1 || (q.2 == p.2))) && l.all (fun p => Nat.beq p.1 a.1 || mems a.2 p.1)) &&
  l.all fun p => alts.any (fun a => Nat.beq a.1 p.1) || (match ops[p.1]? with | some ok => ok.after.any fun e => bnd e && mems l e.on | none => false)
theorem y_br {l : List (Nat × Bool)} (alts : List (Nat × List (Nat × Bool))) (hb : brk ops l alts = true)
    (h : ∀ a ∈ alts, ∃ o, ops[a.1]? = some o ∧ OpX P E fn n ops false a.1 false [] o (fun t ds S => AnyF P E n ops a.2 K t ds Z S) t ds S Z S) : AnyF P E n ops l K t ds Z S := by
  intro B hB hzs
  simp only [brk, Bool.and_eq_true, List.all_eq_true, Bool.or_eq_true] at hb
  obtain ⟨⟨h0, h1⟩, h2⟩ := hb
  have hready : ∀ a ∈ alts, Rdy ops (setOf l) a.1 := fun a ha => by
    obtain ⟨⟨⟨⟨k1, k2⟩, _⟩, _⟩, _⟩ := h1 a ha
    cases ho : ops[a.1]? with
    | none => rw [ho] at k2; cases k2
    | some o =>
      rw [ho] at k2
      simp only [Bool.and_eq_true, Array.all_eq_true_iff_forall_mem, Bool.or_eq_true, Bool.not_eq_true'] at k2
      refine ⟨k1, o, ho, fun e he hbn hx => ?_⟩
      rcases k2.2 e he with h | h
      · rw [hbn] at h; cases h
      · simp only [setOf] at hx; rw [h] at hx; cases hx
  refine .all ?_ fun j hj => ?_
  · cases alts with
    | nil => cases h0
    | cons a _ => exact ⟨a.1, hready a (.head _)⟩
  · obtain ⟨p, hp, hpj⟩ := mems_iff.1 hj.1
    have hin : ∃ a ∈ alts, a.1 = j := by
      rcases h2 p hp with h | h
      · obtain ⟨a, ha, hx⟩ := List.any_eq_true.1 h
        exact ⟨a, ha, (Nat.eq_of_beq_eq_true hx).trans hpj⟩
      · exfalso
        obtain ⟨_, o, ho, hall⟩ := hj
        rw [hpj, ho] at h
        simp only at h
        obtain ⟨e, he, hx⟩ := Array.any_eq_true'.1 h
        simp only [Bool.and_eq_true] at hx
        exact hall e he hx.1 hx.2
    obtain ⟨a, ha, rfl⟩ := hin
    obtain ⟨⟨⟨⟨k1, k2⟩, k3⟩, k5⟩, k6⟩ := h1 a ha
    obtain ⟨o, ho, hx⟩ := h a ha
    rw [ho] at k2
    simp only [Bool.and_eq_true] at k2
    obtain ⟨R, hexec, hR⟩ := (hx ho (fun _ => rfl) rfl).2.1 rfl k2.1 hzs
    refine ⟨o, ho, k2.1, R, hexec, fun v S' hr => ?_⟩
    obtain ⟨Z', z1, z2, hd⟩ := hR v S' hr
    have hzs' : List.Sublist Z S' := (z1 rfl).trans z2
    refine ⟨Z, fun _ => List.Sublist.refl _, hzs', ?_⟩
    have hset : without (setOf l) a.1 = setOf a.2 := by
      funext x
      refine propext ⟨fun ⟨y1, y2⟩ => ?_, fun y => ⟨?_, fun e => ?_⟩⟩
      · obtain ⟨p, hp, hpx⟩ := mems_iff.1 y1
        rcases k6 p hp with h | h
        · exact absurd ((Nat.eq_of_beq_eq_true h).symm.trans hpx).symm y2
        · exact hpx ▸ h
      · obtain ⟨p, hp, hpx⟩ := mems_iff.1 y
        exact hpx ▸ (k5 p hp).1
      · subst e
        simp only [setOf] at y
        simp only [Bool.not_eq_true'] at k3
        rw [y] at k3; cases k3
    rw [hset]
    have hK : AnyF P E n ops a.2 K (updo t o.dst v) ds Z S' := by
      have := hd (fun _ => False) (fun p hp => by cases hp) rfl z2
      rcases this.ready with ⟨_, hk⟩ | ⟨j, hj⟩
      · exact hk
      · exact absurd hj.1 (by simp [setOf, mems])
    refine hK B (fun p hp o' ho' hact => ?_) hzs'
    obtain ⟨q1, q2⟩ := k5 p hp
    obtain ⟨q, hq, hqp⟩ := mems_iff.1 q1
    have hB' := hB q hq o' (by rw [hqp]; exact ho') hact
    have hflag : q.2 = p.2 := by
      rcases q2 with q2 | q2
      · unfold actAt at q2
        rw [ho'] at q2
        simp [hact] at q2
      · rcases q2 q hq with h | h
        · simp [hqp] at h
        · simpa using h
    rw [← hqp, ← hflag]
    exact hB'
theorem anyF_of {l : List (Nat × Bool)} (hc : chk ops l = true) (h : OpF P E fn n ops false l K t ds Z S) : AnyF P E n ops l K t ds Z S := fun B hB hz => h.2 rfl B hB hc hz
theorem anyF_v {o : Oper} (hc : (chk1 ops i z rest && !actAt ops i) = true) (ho : ops[i]? = some o) (h : OpX P E fn n ops false i z [] o (fun t ds S => AnyF P E n ops rest K t ds Z S) t ds (bif z then Z else S) Z S) : AnyF P E n ops ((i, z) :: rest) K t ds Z S := by
  intro B hB hzs
  simp only [Bool.and_eq_true, Bool.not_eq_true'] at hc
  have hact : isAct o.op = false := by have := hc.2; unfold actAt at this; rw [ho] at this; exact this
  obtain ⟨h1, h2, _, h4⟩ := chk1_spec hc.1 ho
  obtain ⟨v, hv, hd⟩ := (h ho (fun h => by cases h) rfl).2.2 rfl hact hzs
  have hK : AnyF P E n ops rest K (updo t o.dst v) ds Z S := by
    have := hd (fun _ => False) (fun p hp => by cases hp) rfl hzs
    rcases this.ready with ⟨_, hk⟩ | ⟨j, hj⟩
    · exact hk
    · exact absurd hj.1 (by simp [setOf, mems])
  refine .val h2 ho hact hv (by cases z <;> first | exact hzs | exact List.Sublist.refl _) (fun k ok hk hki hok => (h4 hact k ok hk hki hok).imp id fun hx => ⟨hx.1, fun hy => ?_⟩) ?_
  · obtain ⟨hz1, p, hp, hpk, hp2⟩ := hx.2 hy
    subst hpk
    subst hz1
    exact ⟨fun hb => (by have := (hB p (.tail _ hp) ok hok hy).1 hb; rw [hp2] at this; cases this), List.Sublist.refl _⟩
  · rw [setOf_cons h1]
    exact hK B (fun p hp => hB p (.tail _ hp)) hzs
theorem o_br2 {l : List (Nat × Bool)} (i j : Nat) (ri rj : List (Nat × Bool)) {oi oj : Oper} (hb : brk ops l [(i, ri), (j, rj)] = true) (hi : ops[i]? = some oi) (hj : ops[j]? = some oj)
    (h1 : OpX P E fn n ops false i false [] oi (fun t ds S => AnyF P E n ops ri K t ds Z S) t ds S Z S) (h2 : OpX P E fn n ops false j false [] oj (fun t ds S => AnyF P E n ops rj K t ds Z S) t ds S Z S) : AnyF P E n ops l K t ds Z S :=
  y_br [(i, ri), (j, rj)] hb fun a ha => by
    rcases List.mem_cons.1 ha with rfl | ha
    · exact ⟨oi, hi, h1⟩
    · rcases List.mem_cons.1 ha with rfl | ha
      · exact ⟨oj, hj, h2⟩
      · cases ha
def full0 (ops : Array Oper) (l : List (Nat × Bool)) : Bool :=
  chk ops [] && l.all (fun p => Nat.blt p.1 ops.size) && (List.range ops.size).all (mems l) && (ops.all fun o => o.after.all fun e => !bnd e || Nat.blt e.on ops.size) && l.all fun p => l.all fun q => !Nat.beq p.1 q.1 || (p.2 == q.2)
theorem o_drawnA {id : Nat} {Q : Post} (l : List (Nat × Bool)) (hm : P.follows .mixedOrders = true) (hf : full0 ops l = true) (h : AnyF P E n ops l (Q .normal) t ds S S) : WP P E fn n (.region id ops true) Q t ds S := by
  simp only [full0, Bool.and_eq_true, List.all_eq_true] at hf
  obtain ⟨⟨⟨⟨_, f2⟩, f3⟩, f4⟩, f5⟩ := hf
  refine w_drawn0 l (fun k => (k, true) ∈ l) hm f2 f3 f4 (h _ (fun p hp o ho ha => ⟨fun hm => ?_, fun hm => hm ▸ hp⟩) (List.Sublist.refl _))
  have := f5 p hp (p.1, true) hm
  simpa using this
def wantL (ops : Array Oper) (l : TL) (t : Tm) (g : Option (Nat × Bool)) : Option Bool :=
  match g with
  | none => some true
  | some (j, w) => match (ops[j]?).bind (·.dst) with
    | some d => match lk l t d with
      | some (.bool b) => some (bif w then b else !b)
      | some (.tuple _) => some false
      | _ => none
    | none => none
theorem wantL_ok {b : Bool} (h : wantL ops l t o.guard = some b) : wantB ops (den l t) o = b := by
  unfold wantL at h
  unfold wantB
  cases hg : o.guard with
  | none => simp only [hg, Option.some.injEq] at h; exact h
  | some p =>
    obtain ⟨j, w⟩ := p
    simp only [hg] at h ⊢
    cases hd : (ops[j]?).bind (·.dst) with
    | none => simp [hd] at h
    | some d =>
      simp only [hd] at h ⊢
      cases hl : lk l t d with
      | none => simp [hl] at h
      | some v =>
        rw [lk_eq hl]
        cases v <;> simp_all
def tkO : Nat → List Value → Option (List Value)
  | 0, _ => some []
  | _ + 1, [] => none
  | n + 1, v :: l => match tkO n l with
    | some r => some (v :: r)
    | none => none
def ptO : Nat → Nat → List Value → Option (List Value)
  | 0, n, l => tkO n l
  | _ + 1, _, [] => none
  | k + 1, n, _ :: l => ptO k n l
def g1O : Nat → List Value → Option Value
  | 0, v :: _ => some v
  | k + 1, _ :: l => g1O k l
  | _, [] => none
theorem tkO_ok : ∀ {n : Nat} {l r : List Value}, tkO n l = some r → r = l.take n ∧ n ≤ l.length
  | 0, _, _, h => by cases h; simp
  | n + 1, [], _, h => by cases h
  | n + 1, v :: l, r, h => by
    simp only [tkO] at h
    cases h1 : tkO n l with
    | none => simp [h1] at h
    | some r' =>
      simp only [h1, Option.some.injEq] at h
      obtain ⟨h2, h3⟩ := tkO_ok h1
      subst h
      subst h2
      simp; omega
theorem ptO_ok : ∀ {k n : Nat} {l r : List Value}, ptO k n l = some r → r = (l.drop k).take n ∧ k + n ≤ l.length
  | 0, n, l, r, h => by have := tkO_ok h; simpa using this
  | k + 1, n, [], r, h => by cases h
  | k + 1, n, v :: l, r, h => by
    obtain ⟨h1, h2⟩ := ptO_ok (k := k) (l := l) h
    exact ⟨by simpa using h1, by simp only [List.length_cons]; omega⟩
theorem g1O_ok : ∀ {k : Nat} {l : List Value} {v : Value}, g1O k l = some v → l[k]? = some v
  | 0, [], _, h => by cases h
  | k + 1, [], _, h => by cases h
  | 0, v :: l, _, h => by cases h; rfl
  | k + 1, _ :: l, v, h => by simpa using g1O_ok (k := k) (l := l) h
theorem ext_list {c : Array Value} {k n : Nat} : (c.extract k (k + n)) = ((c.toList.drop k).take n).toArray := by
  apply Array.ext'
  simp
theorem bne_dec (a b : Int) : (a != b) = decide (a ≠ b) := by
  by_cases h : a = b <;> simp [h]
def pvI (k : IntKind) (op : BinOp) (a b : Int) : Option Value :=
  match op with
  | .eql => some (.bool (decide (a = b)))
  | .neq => some (.bool (decide (a ≠ b)))
  | .lss => some (.bool (decide (a < b)))
  | .leq => some (.bool (decide (a ≤ b)))
  | .gtr => some (.bool (decide (a > b)))
  | .geq => some (.bool (decide (a ≥ b)))
  | _ => none
def evPs (l : TL) (t : Tm) : List (Nat × Operand) → Option (List (Nat × Value))
  | [] => some []
  | (i, x) :: xs => match evL l t x, evPs l t xs with
    | some v, some vs => some ((i, v) :: vs)
    | _, _ => none
theorem evPs_eq : ∀ {xs : List (Nat × Operand)} {vs : List (Nat × Value)}, evPs l t xs = some vs → xs.map (fun p => (p.1, ev (den l t) p.2)) = vs
  | [], vs, h => Option.some.inj h
  | (i, x) :: xs, vs, h => by
    simp only [evPs] at h
    cases h1 : evL l t x with
    | none => simp [h1] at h
    | some v =>
      cases h2 : evPs l t xs with
      | none => simp [h1, h2] at h
      | some ws =>
        simp only [h1, h2, Option.some.injEq] at h
        subst h
        simp [evL_eq h1, evPs_eq h2]
def pvO (l : TL) (t : Tm) : Op → Option Value
  | .move x => evL l t x
  | .assign x => evL l t x
  | .pick c a b => match evL l t c with
    | some (.bool true) => evL l t a
    | some (.bool false) => evL l t b
    | _ => none
  | .unOp .not _ x => match evL l t x with
    | some (.bool b) => some (.bool (!b))
    | _ => none
  | .binOp op _ x y _ => match evL l t x, evL l t y with
    | some (.int k a), some (.int k' b) => bif decide (k = k') then pvI k op a b else none
    | _, _ => none
  | .extract x i => match evL l t x with
    | some (.tuple vs) => g1O i vs.toList
    | _ => none
  | .makeFunc fn xs ys => match evLs l t xs.toList, evLs l t ys.toList with
    | some us, some vs => some (.func fn us.toArray vs.toArray)
    | _, _ => none
  | .field s x f => match lk3 fpT s f, evL l t x with
    | some (true, off, sz), some (.agg cs) => match ptO off sz cs.toList with
      | some r => some (.agg r.toArray)
      | none => none
    | some (false, off, _), some (.agg cs) => g1O off cs.toList
    | _, _ => none
  | .nilCheck x => match evL l t x with
    | some (.pointer (some a)) => some (.pointer (some a))
    | some (.func (.func f) a b) => some (.func (.func f) a b)
    | some (.func (.yield f) a b) => some (.func (.yield f) a b)
    | _ => none
  | .call c => match c.callee, c.args.toList with
    | .builtin .len, [x] => match c.argTypes.toList with
      | [ty] => match lk1 slT ty, evL l t x with
        | some _, some (.slice _ n _) => some (.int .i64 (n : Int))
        | _, _ => none
      | _ => none
    | .builtin .cap, [x] => match c.argTypes.toList with
      | [ty] => match lk1 slT ty, evL l t x with
        | some _, some (.slice _ _ n) => some (.int .i64 (n : Int))
        | _, _ => none
      | _ => none
    | .builtin .min, [x, y] => match evL l t x, evL l t y with
      | some (.int k a), some (.int _ b) => some (.int k (min a b))
      | _, _ => none
    | .builtin .max, [x, y] => match evL l t x, evL l t y with
      | some (.int k a), some (.int _ b) => some (.int k (max a b))
      | _, _ => none
    | _, _ => none
  | _ => none
def pv (ops : Array Oper) (l : TL) (t : Tm) (op : Op) (g : Option (Nat × Bool)) : Option Value :=
  match wantL ops l t g with
  | some true => pvO l t op
  | some false => bif isAct op then none else some undef
  | none => none
theorem semH_of {α : Type} {s s' : Sem α} {m : Mode} {R : α → Ents → Prop} (e : s = s') (h : SemH P m s' S R) : SemH P m s S R := e ▸ h
theorem pvO_ok {m : Mode} {op : Op} {v : Value} {d : Option Tmp} {ty : TypeId} {pos : String} {af : Array Edge} {g : Option (Nat × Bool)} (h : pvO l t op = some v) :
    isAct op = false ∧ isDefer op = false ∧ isSel op = false ∧ OpH Tryz.prog m ⟨d, op, ty, pos, af, g⟩ (ev (den l t)) S fun u S' => u = v ∧ S' = S := by
  have fin : ∀ (u : Value), u = v → SemH Tryz.prog m (pure (Next.value u) : Sem Next) S fun nx S' => ∃ u, (nx = .value u ∨ (nx = .skip ∧ u = undef)) ∧ u = v ∧ S' = S := fun u hu => semH_pure ⟨u, .inl rfl, hu, rfl⟩
  cases op <;> simp only [pvO] at h <;> try (cases h; done)
  case move x => exact ⟨rfl, rfl, rfl, fin _ (evL_eq h)⟩
  case assign x => exact ⟨rfl, rfl, rfl, fin _ (evL_eq h)⟩
  case pick c a b =>
    refine ⟨rfl, rfl, rfl, ?_⟩
    split at h
    · rename_i hc
      exact op_pure (v := v) (by simp [pureVal, evL_eq hc, evL_eq h]) ⟨rfl, rfl⟩
    · rename_i hc
      exact op_pure (v := v) (by simp [pureVal, evL_eq hc, evL_eq h]) ⟨rfl, rfl⟩
    · cases h
  case unOp u uty x =>
    cases u <;> simp only at h <;> try (cases h; done)
    refine ⟨rfl, rfl, rfl, ?_⟩
    split at h
    · rename_i hc
      cases h
      exact op_pure (v := .bool _) (by simp [pureVal, evL_eq hc]) ⟨rfl, rfl⟩
    · cases h
  case binOp bop bty x y bty2 =>
    refine ⟨rfl, rfl, rfl, ?_⟩
    split at h
    · rename_i k a k' b hx hy
      by_cases hk : k = k'
      · subst hk
        simp only [decide_true, cond_true] at h
        refine op_int (evL_eq hx) (evL_eq hy) (v := v) ?_ ⟨rfl, rfl⟩
        revert h
        cases bop <;> simp only [pvI, intVal] <;> intro h <;> first | exact h | (cases h; done) | (rw [← h, bne_dec])
      · simp [hk] at h
    · cases h
  case extract x i =>
    refine ⟨rfl, rfl, rfl, ?_⟩
    split at h
    · rename_i vs hx
      refine op_pure (v := v) ?_ ⟨rfl, rfl⟩
      have := g1O_ok h
      simp only [pureVal, evL_eq hx]
      simpa using this
    · cases h
  case makeFunc fn' xs ys =>
    refine ⟨rfl, rfl, rfl, ?_⟩
    split at h
    · rename_i us vs h1 h2
      cases h
      refine op_pure ?_ ⟨rfl, rfl⟩
      have h1 := evLs_eq h1
      have h2 := evLs_eq h2
      simp only [pureVal]
      rw [← h1, ← h2]
      congr 2 <;> (apply Array.ext'; simp)
    · cases h
  case field s x f =>
    refine ⟨rfl, rfl, rfl, ?_⟩
    have key : ∀ {a : Bool} {off sz : Nat} {cs : Array Value}, lk3 fpT s f = some (a, off, sz) → evL l t x = some (.agg cs) →
        (bif a then (match ptO off sz cs.toList with | some r => some (Value.agg r.toArray) | none => none) else g1O off cs.toList) = some v → OpH Tryz.prog m ⟨d, .field s x f, ty, pos, af, g⟩ (ev (den l t)) S fun u S' => u = v ∧ S' = S := by
      intro a off sz cs hk hx hv
      have hf := fpT_ok hk
      unfold fpart at hf
      cases hu : Tryz.prog.underlying s with
      | none => simp [hu] at hf
      | some D =>
        cases D <;> simp only [hu] at hf <;> try (cases hf; done)
        rename_i fs
        cases hfs : fs[f]? with
        | none => simp [hfs] at hf
        | some y =>
          simp only [hfs] at hf
          cases ht : tyk Tryz.prog y.type with
          | none => simp [ht] at hf
          | some tk =>
            simp only [ht, Option.map_some, Option.some.injEq, Prod.mk.injEq] at hf
            obtain ⟨rfl, rfl, rfl⟩ := hf
            refine semH_bind (?_ : SemH Tryz.prog m (Instr.field s (ev (den l t) x) f) S _)
            rw [evL_eq hx]
            unfold Instr.field
            refine semH_bind (semH_underlying hu ?_)
            simp only [hfs]
            refine semH_bind (semH_pure ?_)
            unfold part
            refine semH_bind (semH_isAgg ht ?_)
            cases ha : tk.1 with
            | true =>
              simp only [ha, cond_true] at hv
              simp only [if_true]
              refine semH_bind (semH_sizeOf ht ?_)
              refine semH_pure (fin _ ?_)
              cases hp : ptO y.offset tk.2 cs.toList with
              | none => simp [hp] at hv
              | some r =>
                simp only [hp, Option.some.injEq] at hv
                rw [← hv, ext_list, (ptO_ok hp).1]
            | false =>
              simp only [ha, cond_false] at hv
              have := g1O_ok hv
              simp only [Array.getElem?_toList] at this
              simp only [Bool.false_eq_true, if_false, this]
              exact semH_pure (fin _ rfl)
    split at h
    · rename_i off sz cs hk hx
      exact key hk hx (by simpa using h)
    · rename_i off sz cs hk hx
      exact key hk hx (by simpa using h)
    · cases h
  case nilCheck x =>
    refine ⟨rfl, rfl, rfl, ?_⟩
    unfold OpH execOp
    split at h
    · rename_i a hx
      cases h
      simp only [evL_eq hx]
      exact fin _ rfl
    · rename_i f a b hx
      cases h
      simp only [evL_eq hx]
      exact fin _ rfl
    · rename_i f a b hx
      cases h
      simp only [evL_eq hx]
      exact fin _ rfl
    · cases h
  case call c =>
    obtain ⟨callee, args, ats⟩ := c
    have hargs : ∀ xs, args.toList = xs → args = xs.toArray := fun xs hx => by rw [← hx]
    simp only at h
    split at h
    · rename_i x ha
      rw [hargs _ ha]
      split at h
      · rename_i aty hat
        have : ats = #[aty] := by rw [show ats = ats.toList.toArray by simp, hat]
        subst this
        split at h
        · rename_i e a n cp hsl hx
          cases h
          exact ⟨rfl, rfl, rfl, op_len (slT_ok hsl) (evL_eq hx) ⟨rfl, rfl⟩⟩
        · cases h
      · cases h
    · rename_i x ha
      rw [hargs _ ha]
      split at h
      · rename_i aty hat
        have : ats = #[aty] := by rw [show ats = ats.toList.toArray by simp, hat]
        subst this
        split at h
        · rename_i e a n cp hsl hx
          cases h
          refine ⟨rfl, rfl, rfl, ?_⟩
          unfold OpH execOp
          simp only [resolve]
          refine semH_bind (semH_pure ?_)
          simp only [invoke, builtin]
          refine semH_bind ?_
          unfold Builtin.cap_
          simp only [List.map_toArray, List.map_cons, List.map_nil, evL_eq hx, List.getElem?_toArray, List.getElem?_cons_zero]
          refine semH_bind (semH_underlying (slT_ok hsl) ?_)
          exact semH_pure (fin _ rfl)
        · cases h
      · cases h
    · rename_i x y ha
      rw [hargs _ ha]
      split at h
      · rename_i k a k' b hx hy
        cases h
        refine ⟨rfl, rfl, rfl, ?_⟩
        unfold OpH execOp
        simp only [resolve]
        refine semH_bind (semH_pure ?_)
        simp only [invoke, builtin]
        refine semH_bind ?_
        unfold Builtin.min_
        simp only [List.map_toArray, List.map_cons, List.map_nil, evL_eq hx, evL_eq hy, List.foldlM_cons, List.foldlM_nil, Builtin.min2]
        refine semH_bind (semH_pure (semH_pure (fin _ ?_)))
        congr 1
        split <;> omega
      · cases h
    · rename_i x y ha
      rw [hargs _ ha]
      split at h
      · rename_i k a k' b hx hy
        cases h
        refine ⟨rfl, rfl, rfl, ?_⟩
        unfold OpH execOp
        simp only [resolve]
        refine semH_bind (semH_pure ?_)
        simp only [invoke, builtin]
        refine semH_bind ?_
        unfold Builtin.max_
        simp only [List.map_toArray, List.map_cons, List.map_nil, evL_eq hx, evL_eq hy, List.foldlM_cons, List.foldlM_nil, Builtin.max2]
        refine semH_bind (semH_pure (semH_pure (fin _ ?_)))
        congr 1
        split <;> omega
      · cases h
    · cases h
theorem pv_ok {op : Op} {v : Value} {d : Nat} {ty : TypeId} {pos : String} {af : Array Edge} {g : Option (Nat × Bool)} (hd : Nat.blt d n = true) (h : pv ops l t op g = some v) :
    isAct op = false ∧ VOp Tryz.prog E n ops ⟨some d, op, ty, pos, af, g⟩ (den l t) Zi v := by
  unfold pv at h
  split at h
  · rename_i hw
    have h1 := (pvO_ok (S := []) (m := E.m) (d := some d) (ty := ty) (pos := pos) (af := af) (g := g) h)
    exact ⟨h1.1, fun S hS => ⟨hd, .inr ⟨wantL_ok (o := ⟨some d, op, ty, pos, af, g⟩) hw, h1.2.1, h1.2.2.1, .inl (pvO_ok h).2.2.2⟩⟩⟩
  · rename_i hw
    cases ha : isAct op with
    | true => simp [ha] at h
    | false =>
      simp only [ha, cond_false, Option.some.injEq] at h
      exact ⟨rfl, fun S hS => ⟨hd, .inl ⟨wantL_ok (o := ⟨some d, op, ty, pos, af, g⟩) hw, h, rfl⟩⟩⟩
  · cases h
theorem o_v {op : Op} {v : Value} {d : Nat} {ty : TypeId} {pos : String} {af : Array Edge} {g : Option (Nat × Bool)} (h : pv ops l t op g = some v) (hd : Nat.blt d n = true)
    (k : OpF Tryz.prog E fn n ops sq rest K (den ((d, v) :: l) t) ds Z S) : OpX Tryz.prog E fn n ops sq i z rest ⟨some d, op, ty, pos, af, g⟩ K (den l t) ds Zi Z S :=
  let x := pv_ok (E := E) (Zi := Zi) (ty := ty) (pos := pos) (af := af) hd h
  o_V x.1 x.2 k
end
abbrev Zf (n : Nat) : Nat × Bool := (n, false)
abbrev Zt (n : Nat) : Nat × Bool := (n, true)
end Go.Proofs.YtpnnmklacialgaaGreat
namespace Go.Proofs.YtpnnmklacialgaaGreat
open Go.Conc
class Enc (α : Type) where
  sz : Nat
  enc : α → Array Value
  pos : 0 < sz
  size : ∀ x, (enc x).size = sz
  one : ∀ x, ∀ v ∈ (enc x).toList, v.oneCell' = true
instance : Enc Int := ⟨1, fun x => #[.int .i64 x], by decide, fun _ => rfl, fun x v h => by simp at h; subst h; rfl⟩
def IsRow {α : Type} [En : Enc α] (c : Array Value) (off : Nat) (xs : List α) : Prop :=
  ∀ i (h : i < xs.length) k, k < En.sz → c[off + i * En.sz + k]? = (En.enc xs[i])[k]?
section
variable {α : Type} [En : Enc α] {c : Array Value} {off : Nat} {xs ys : List α}
theorem IsRow.le (h : IsRow c off xs) : xs.length = 0 ∨ off + xs.length * En.sz ≤ c.size := by
  rcases Nat.eq_zero_or_pos xs.length with h0 | h0
  · exact .inl h0
  · right
    have hp := En.pos
    have h1 := h (xs.length - 1) (by omega) (En.sz - 1) (by omega)
    have h2 : (En.enc (xs[xs.length - 1]'(by omega)))[En.sz - 1]? ≠ none := by
      have := En.size (xs[xs.length - 1]'(by omega))
      simp; omega
    rw [← h1] at h2
    have h3 : off + (xs.length - 1) * En.sz + (En.sz - 1) < c.size := by
      rcases Nat.lt_or_ge (off + (xs.length - 1) * En.sz + (En.sz - 1)) c.size with h3 | h3
      · exact h3
      · exact absurd (Array.getElem?_eq_none h3) h2
    have h4 : (xs.length - 1) * En.sz + En.sz = xs.length * En.sz := by
      obtain ⟨k, hk⟩ : ∃ k, xs.length = k + 1 := ⟨xs.length - 1, by omega⟩
      rw [hk]; simp [Nat.add_mul]
    omega
theorem IsRow.ext (h : IsRow c off xs) {i : Nat} (hi : i < xs.length) : off + i * En.sz + En.sz ≤ c.size ∧ c.extract (off + i * En.sz) (off + i * En.sz + En.sz) = En.enc xs[i] := by
  have h0 : off + xs.length * En.sz ≤ c.size := h.le.resolve_left (by omega)
  have h1 : i * En.sz + En.sz ≤ xs.length * En.sz := by
    have := Nat.mul_le_mul_right En.sz (show i + 1 ≤ xs.length by omega)
    simpa [Nat.add_mul] using this
  refine ⟨by omega, ?_⟩
  apply Array.ext_getElem?
  intro k
  by_cases hk : k < En.sz
  · rw [← h i hi k hk, Array.getElem?_extract]
    rw [if_pos (by omega)]
  · rw [Array.getElem?_eq_none (by simp; omega), Array.getElem?_eq_none (by rw [En.size]; omega)]
theorem IsRow.get (h : IsRow c off xs) {i k : Nat} (hi : i < xs.length) {v : Value} (hv : g1O k (En.enc xs[i]).toList = some v) : c[off + i * En.sz + k]? = some v := by
  have h1 := g1O_ok hv
  simp only [Array.getElem?_toList] at h1
  have hk : k < En.sz := by
    rw [← En.size xs[i]]
    rcases Nat.lt_or_ge k (En.enc xs[i]).size with h2 | h2
    · exact h2
    · rw [Array.getElem?_eq_none h2] at h1; cases h1
  rw [h i hi k hk, h1]
theorem IsRow.part (h : IsRow c off xs) {i k n : Nat} (hi : i < xs.length) {r : List Value} (hv : ptO k n (En.enc xs[i]).toList = some r) : off + i * En.sz + k + n ≤ c.size ∧ c.extract (off + i * En.sz + k) (off + i * En.sz + k + n) = r.toArray := by
  obtain ⟨h1, h2⟩ := ptO_ok hv
  have h3 := h.ext hi
  simp only [Array.length_toList, En.size] at h2
  refine ⟨by omega, ?_⟩
  rw [h1, ← ext_list, ← h3.2]
  apply Array.ext_getElem?
  intro j
  rw [Array.getElem?_extract, Array.getElem?_extract]
  by_cases hj : j < n
  · rw [if_pos (by omega), if_pos (by simp; omega), Array.getElem?_extract, if_pos (by omega)]
    congr 1; omega
  · rw [if_neg (by omega), if_neg (by simp; omega)]
theorem IsRow.nil : IsRow c off ([] : List α) := fun i h => absurd h (by simp)
def rowL (xs : List α) : List Value := xs.flatMap fun x => (En.enc x).toList
theorem rowL_length : (rowL xs).length = xs.length * En.sz := by
  induction xs with
  | nil => simp [rowL]
  | cons x xs ih =>
    have : rowL (x :: xs) = (En.enc x).toList ++ rowL xs := by simp [rowL]
    rw [this, List.length_append, ih, List.length_cons, Array.length_toList, En.size, Nat.add_mul, Nat.one_mul, Nat.add_comm]
theorem rowL_one : ((rowL xs).all (·.oneCell')) = true := by
  rw [List.all_eq_true]
  intro v hv
  simp only [rowL, List.mem_flatMap] at hv
  obtain ⟨x, _, h⟩ := hv
  exact En.one x v h
theorem rowL_get : ∀ {xs : List α} {i : Nat} (h : i < xs.length) {k : Nat}, k < En.sz → (rowL xs)[i * En.sz + k]? = (En.enc xs[i])[k]?
  | [], i, h, k, hk => absurd h (by simp)
  | x :: xs, 0, h, k, hk => by
    have : rowL (x :: xs) = (En.enc x).toList ++ rowL xs := by simp [rowL]
    rw [this, Nat.zero_mul, Nat.zero_add, List.getElem?_append_left (by rw [Array.length_toList, En.size]; exact hk)]
    simp
  | x :: xs, i + 1, h, k, hk => by
    have e : rowL (x :: xs) = (En.enc x).toList ++ rowL xs := by simp [rowL]
    have h1 : i < xs.length := by simpa using h
    have h2 := rowL_get h1 hk
    have h3 : (i + 1) * En.sz = En.sz + i * En.sz := by rw [Nat.add_mul, Nat.one_mul, Nat.add_comm]
    rw [e, List.getElem?_append_right (by rw [Array.length_toList, En.size]; omega), Array.length_toList, En.size, h3, show En.sz + i * En.sz + k - En.sz = i * En.sz + k by omega, h2]
    simp
theorem IsRow.rowL (h : IsRow c off xs) : c.extract off (off + xs.length * En.sz) = (Go.Proofs.YtpnnmklacialgaaGreat.rowL xs).toArray := by
  apply Array.ext_getElem?
  intro j
  rcases h.le with h0 | h0
  · have : xs = [] := List.length_eq_zero_iff.1 h0
    subst this
    simp [Go.Proofs.YtpnnmklacialgaaGreat.rowL]
    try omega
  · by_cases hj : j < xs.length * En.sz
    · have hp := En.pos
      have hi : j / En.sz < xs.length := Nat.div_lt_of_lt_mul (by rw [Nat.mul_comm]; exact hj)
      have hm : j % En.sz < En.sz := Nat.mod_lt _ hp
      have hd : j / En.sz * En.sz + j % En.sz = j := by rw [Nat.mul_comm]; exact Nat.div_add_mod j En.sz
      have h1 := rowL_get hi hm
      have h2 := h _ hi _ hm
      rw [hd] at h1
      rw [Nat.add_assoc, hd] at h2
      rw [Array.getElem?_extract, if_pos (by omega), h2]
      simp only [List.getElem?_toArray]
      exact h1.symm
    · rw [Array.getElem?_eq_none (by simp; omega), Array.getElem?_eq_none (by simp [rowL_length]; omega)]
theorem isRow_of {l : List Value} {r : List Value} (hc : c.toList = l ++ Go.Proofs.YtpnnmklacialgaaGreat.rowL xs ++ r) : IsRow c l.length xs := by
  intro i h k hk
  have h1 := rowL_get h hk
  have hlt : i * En.sz + k < (Go.Proofs.YtpnnmklacialgaaGreat.rowL xs).length := by
    rw [rowL_length]
    have := Nat.mul_le_mul_right En.sz (show i + 1 ≤ xs.length by omega)
    rw [Nat.add_mul, Nat.one_mul] at this
    omega
  rw [← Array.getElem?_toList, hc, List.append_assoc, List.getElem?_append_right (by omega), List.getElem?_append_left (by omega), ← h1]
  congr 1; omega
theorem rowL_append : Go.Proofs.YtpnnmklacialgaaGreat.rowL (xs ++ ys) = Go.Proofs.YtpnnmklacialgaaGreat.rowL xs ++ Go.Proofs.YtpnnmklacialgaaGreat.rowL ys := by simp [Go.Proofs.YtpnnmklacialgaaGreat.rowL]
end
def Rw {α : Type} [En : Enc α] (S : Ents) (b off : Nat) (xs : List α) : Prop := ∃ mn c ty fz, (⟨b, mn, .cells c ty fz⟩ : Ent) ∈ S ∧ IsRow c off xs
theorem Rw.sub {α : Type} [En : Enc α] {S S' : Ents} {b off : Nat} {xs : List α} (h : Rw S b off xs) (hs : List.Sublist S S') : Rw S' b off xs := by
  obtain ⟨mn, c, ty, fz, h1, h2⟩ := h
  exact ⟨mn, c, ty, fz, hs.subset h1, h2⟩
class RowI (S : Ents) (b : Nat) (off : Nat) (α : outParam Type) (En : outParam (Enc α)) (xs : outParam (List α)) : Prop where h : 0 < xs.length → @Rw α En S b off xs
instance (priority := low) rowI_cons {S : Ents} {b : Nat} {α : Type} {En : Enc α} {off : Nat} {xs : List α} {e : Ent} [i : RowI S b off α En xs] : RowI (e :: S) b off α En xs := ⟨fun h => (i.h h).sub (.cons _ (List.Sublist.refl _))⟩
instance (priority := low) rowI_app {S A : Ents} {b : Nat} {α : Type} {En : Enc α} {off : Nat} {xs : List α} [i : RowI S b off α En xs] : RowI (A ++ S) b off α En xs := ⟨fun h => (i.h h).sub (List.sublist_append_right _ _)⟩
instance (priority := low) rowI_app' {S A : Ents} {b : Nat} {α : Type} {En : Enc α} {off : Nat} {xs : List α} [i : RowI A b off α En xs] : RowI (A ++ S) b off α En xs := ⟨fun h => (i.h h).sub (List.sublist_append_left _ _)⟩
@[reducible] def blkA (a : Option Addr) : Nat := match a with | some x => x.block | none => 0
@[reducible] def offA (a : Option Addr) : Nat := match a with | some x => x.off | none => 0
instance (priority := low) inS_app {b : Nat} {S A : Ents} {mn : Bool} {o : Obj} [i : InS b S mn o] : InS b (A ++ S) mn o := ⟨List.mem_append_right _ i.h⟩
instance (priority := low) ownS_app {b : Nat} {S A : Ents} {o : Obj} {re : Obj → Ents} [i : OwnS b S o re] : OwnS b (A ++ S) o fun o' => A ++ re o' := ⟨fun o' => by
  induction A with
  | nil => exact i.h o'
  | cons a A ih => exact .there ih⟩
def SlA {α : Type} [En : Enc α] (S : Ents) (a : Option Addr) (xs : List α) : Prop := 0 < xs.length → a = some ⟨blkA a, offA a, none⟩ ∧ Rw S (blkA a) (offA a) xs
theorem SlA.sub {α : Type} [En : Enc α] {S S' : Ents} {a : Option Addr} {xs : List α} (h : SlA S a xs) (hs : List.Sublist S S') : SlA S' a xs := fun h0 => ⟨(h h0).1, (h h0).2.sub hs⟩
class SlI (S : Ents) (a : Option Addr) (α : outParam Type) (En : outParam (Enc α)) (xs : outParam (List α)) : Prop where h : @SlA α En S a xs
instance (priority := low) slI_cons {S : Ents} {a : Option Addr} {α : Type} {En : Enc α} {xs : List α} {e : Ent} [i : SlI S a α En xs] : SlI (e :: S) a α En xs := ⟨i.h.sub (.cons _ (List.Sublist.refl _))⟩
instance (priority := low) slI_app {S A : Ents} {a : Option Addr} {α : Type} {En : Enc α} {xs : List α} [i : SlI S a α En xs] : SlI (A ++ S) a α En xs := ⟨i.h.sub (List.sublist_append_right _ _)⟩
instance (priority := low) slI_app' {S A : Ents} {a : Option Addr} {α : Type} {En : Enc α} {xs : List α} [i : SlI A a α En xs] : SlI (A ++ S) a α En xs := ⟨i.h.sub (List.sublist_append_left _ _)⟩
instance slI_row {S : Ents} {a : Option Addr} {α : Type} {En : Enc α} {xs : List α} [i : SlI S a α En xs] : RowI S (blkA a) (offA a) α En xs := ⟨fun h => (i.h h).2⟩
def SlV {α : Type} [En : Enc α] (S : Ents) (v : Value) (xs : List α) : Prop := ∃ a cap, v = .slice a xs.length cap ∧ xs.length ≤ cap ∧ SlA S a xs
theorem SlV.sub {α : Type} [En : Enc α] {S S' : Ents} {v : Value} {xs : List α} (h : SlV S v xs) (hs : List.Sublist S S') : SlV S' v xs := by
  obtain ⟨a, cap, h1, h2, h3⟩ := h
  exact ⟨a, cap, h1, h2, h3.sub hs⟩
theorem SlV.app {α : Type} [En : Enc α] {S A : Ents} {v : Value} {xs : List α} (h : SlV S v xs) : SlV (A ++ S) v xs := h.sub (List.sublist_append_right _ _)
theorem SlV.cons {α : Type} [En : Enc α] {S : Ents} {e : Ent} {v : Value} {xs : List α} (h : SlV S v xs) : SlV (e :: S) v xs := h.sub (.cons _ (List.Sublist.refl _))
inductive Own {α : Type} [En : Enc α] : Value → List α → Ents → Prop
  | nil : Own (.slice none 0 0) [] []
  | some {b cap : Nat} {c : Array Value} {ty : TypeId} {xs : List α} : IsRow c 0 xs → c.size = cap * En.sz → xs.length ≤ cap → Own (.slice (some ⟨b, 0, none⟩) xs.length cap) xs [⟨b, true, .cells c ty (0, 0)⟩]
theorem Own.slv {α : Type} [En : Enc α] {v : Value} {xs : List α} {Δ : Ents} (h : Own v xs Δ) : SlV Δ v xs := by
  cases h with
  | nil => exact ⟨none, 0, rfl, Nat.le_refl _, fun h => absurd h (by simp)⟩
  | some h1 h2 h3 => exact ⟨_, _, rfl, h3, fun _ => ⟨rfl, true, _, _, _, .head _, h1⟩⟩
theorem Own.slvS {α : Type} [En : Enc α] {v : Value} {xs : List α} {Δ S : Ents} (h : Own v xs Δ) : SlV (Δ ++ S) v xs := h.slv.sub (List.sublist_append_left _ _)
class FrS (Δ S : Ents) (rest : outParam Ents) : Prop where h : S.Perm (Δ ++ rest)
instance frS_nil {S : Ents} : FrS [] S S := ⟨List.Perm.refl _⟩
instance frS_app {Δ S : Ents} : FrS Δ (Δ ++ S) S := ⟨List.Perm.refl _⟩
instance frS_one {e : Ent} {S : Ents} : FrS [e] (e :: S) S := ⟨List.Perm.refl _⟩
instance (priority := low) frS_cons {Δ S R : Ents} {e : Ent} [i : FrS Δ S R] : FrS Δ (e :: S) (e :: R) := ⟨(List.Perm.cons e i.h).trans List.perm_middle.symm⟩
instance (priority := low) frS_app' {Δ S R A : Ents} [i : FrS Δ S R] : FrS Δ (A ++ S) (A ++ R) := ⟨by
  refine (List.Perm.append_left A i.h).trans ?_
  rw [← List.append_assoc, ← List.append_assoc]
  exact List.Perm.append_right R List.perm_append_comm⟩
theorem semH_perm {P : Program} {m : Mode} {α : Type} {s : Sem α} {S S' : Ents} {R : α → Ents → Prop} (h : SemH P m s S' R) (hs : S.Perm S') : SemH P m s S R :=
  fun F O w₀ w es hb hh he => h F O w₀ w es hb (hh.perm (hs.append_right F)) he
def eb (P : Program) (e : Nat) : Option (Nat × Nat) := (P.info? e).map fun i => (i.size, i.bytes)
class Eb (e : Nat) (sz by' : outParam Nat) : Prop where h : eb Tryz.prog e = some (sz, by') ∧ 0 < by' ∧ by' ≤ 1000
section
variable {P : Program} {m : Mode} {S : Ents} {α : Type} [En : Enc α]
theorem semH_sizeOf' {e sz by' : Nat} {R : Nat → Ents → Prop} (he : eb P e = some (sz, by')) (h : R sz S) : SemH P m (sizeOf e) S R := by
  unfold eb at he
  cases hi : P.info? e with
  | none => simp [hi] at he
  | some i =>
    simp only [hi, Option.map_some, Option.some.injEq, Prod.mk.injEq] at he
    unfold sizeOf
    exact semH_bind (semH_typeInfo hi (semH_pure (he.1 ▸ h)))
theorem semH_bytes {e sz by' : Nat} {β : Type} {f : TypeInfo → Sem β} {R : β → Ents → Prop} (he : eb P e = some (sz, by')) (h : ∀ i : TypeInfo, i.bytes = by' → SemH P m (f i) S R) : SemH P m (typeInfo e >>= f) S R := by
  unfold eb at he
  cases hi : P.info? e with
  | none => simp [hi] at he
  | some i =>
    simp only [hi, Option.map_some, Option.some.injEq, Prod.mk.injEq] at he
    exact semH_bind (semH_typeInfo hi (h i he.2))
theorem semH_row {v : Value} {xs : List α} {sz : Nat} {R : Array Value → Ents → Prop} (hsz : En.sz = sz) (hv : SlV S v xs) (h : R (rowL xs).toArray S) : SemH P m (Builtin.firstCells sz xs.length v) S R := by
  subst hsz
  obtain ⟨a, cap, rfl, _, hr⟩ := hv
  cases a with
  | none =>
    have : xs = [] := by
      cases xs with
      | nil => rfl
      | cons x xs => have := (hr (by simp)).1; cases this
    subst this
    exact semH_pure (by simpa [rowL] using h)
  | some a =>
    unfold Builtin.firstCells
    rcases Nat.eq_zero_or_pos xs.length with h0 | h0
    · have : xs = [] := List.length_eq_zero_iff.1 h0
      subst this
      simp only [List.length_nil, Nat.zero_mul]
      unfold loadCells
      exact semH_pure (by simpa [rowL] using h)
    · obtain ⟨e, mn, c, ty, fz, hm, hrow⟩ := hr h0
      obtain ⟨ab, ao, asp⟩ := a
      simp only [blkA, offA, Option.some.injEq, Addr.mk.injEq, true_and] at e
      subst e
      simp only [blkA, offA] at hm hrow
      refine semH_loadCells hm _ 0 #[] (by have := hrow.le; omega) ?_
      rw [Nat.add_zero, hrow.rowL]
      simpa using h
theorem growBy_le (need : Nat) : ∀ (r c : Nat), c ≤ need + need / 4 + 192 → Builtin.growBy need r c ≤ need + need / 4 + 192
  | 0, c, h => h
  | r + 1, c, h => by
    unfold Builtin.growBy
    split
    · exact h
    · exact growBy_le need r _ (by omega)
theorem nextslicecap_le {need cap : Nat} (h : cap < need) : Builtin.nextslicecap need cap ≤ need + need / 4 + 1000 := by
  unfold Builtin.nextslicecap
  split
  · omega
  · split
    · omega
    · have := growBy_le need 4 cap (by omega)
      omega
theorem cap_room {need cap by' : Nat} (h : cap < need) (hb : by' ≤ 1000) (hn : need * by' ≤ 140737488355328) : Builtin.nextslicecap need cap * by' ≤ 2 ^ 48 := by
  have h1 := nextslicecap_le h
  have h2 : Builtin.nextslicecap need cap * by' ≤ (need + need / 4 + 1000) * by' := Nat.mul_le_mul_right _ h1
  have h3 : 4 * (need / 4) * by' ≤ need * by' := Nat.mul_le_mul_right _ (by omega)
  have h4 : (need + need / 4 + 1000) * by' = need * by' + need / 4 * by' + 1000 * by' := by rw [Nat.add_mul, Nat.add_mul]
  have h5 : 4 * (need / 4) * by' = 4 * (need / 4 * by') := Nat.mul_assoc ..
  have e : (2 : Nat) ^ 48 = 281474976710656 := by decide
  rw [e]
  omega
theorem need_fits {need by' : Nat} (hb : 0 < by') (hn : need * by' ≤ 140737488355328) : need ≤ 140737488355328 := Nat.le_trans (Nat.le_mul_of_pos_right _ hb) hn
theorem isRow_set {c : Array Value} {xs ys : List α} (h : IsRow c 0 xs) (hs : (xs.length + ys.length) * En.sz ≤ c.size) : IsRow (setCells c (xs.length * En.sz) (rowL ys)) 0 (xs ++ ys) := by
  intro i hi k hk
  have hm : i * En.sz + k < (i + 1) * En.sz := by rw [Nat.add_mul, Nat.one_mul]; omega
  have hm2 : (i + 1) * En.sz ≤ (xs ++ ys).length * En.sz := Nat.mul_le_mul_right _ hi
  rw [List.length_append] at hm2 hi
  rw [setCells_get, rowL_length, ← Nat.add_mul]
  by_cases h1 : i < xs.length
  · have h2 : (i + 1) * En.sz ≤ xs.length * En.sz := Nat.mul_le_mul_right _ h1
    rw [if_neg (by omega), h i h1 k hk]
    simp [List.getElem_append_left h1]
  · have h2 : xs.length * En.sz ≤ i * En.sz := Nat.mul_le_mul_right _ (by omega)
    rw [if_pos (by omega)]
    have h3 : 0 + i * En.sz + k - xs.length * En.sz = (i - xs.length) * En.sz + k := by rw [Nat.sub_mul]; omega
    rw [h3, rowL_get (by omega) hk]
    simp [List.getElem_append_right (Nat.le_of_not_lt h1)]
theorem op_append {ρ : Operand → Value} {d : Option Tmp} {ty sT xT e e2 sz by' : Nat} {pos : String} {af : Array Edge} {g : Option (Nat × Bool)} {x y : Operand} {xs ys : List α} {Δ rest : Ents} {v w : Value} {R : Value → Ents → Prop}
    (hs : P.underlying sT = some (.slice e)) (hs2 : P.underlying xT = some (.slice e2)) (he : eb P e = some (sz, by') ∧ 0 < by' ∧ by' ≤ 1000) (hz : (zeroOf P e).map (·.size) = some sz) (hsz : En.sz = sz) (hx : ρ x = v) (hy : ρ y = w) (hv : Own v xs Δ) [fr : FrS Δ S rest] (hw : SlV rest w ys)
    (hlen : (xs.length + ys.length) * by' ≤ 140737488355328) (h : ∀ v' Δ', Own v' (xs ++ ys) Δ' → R v' (Δ' ++ rest)) :
    OpH P m ⟨d, .call { callee := .builtin .append, args := #[x, y], argTypes := #[sT, xT] }, ty, pos, af, g⟩ ρ S R := by
  subst hsz
  refine semH_perm ?_ fr.h
  obtain ⟨he, hb1, hb2⟩ := he
  have hpos := En.pos
  have hwl : ∃ a cap, w = .slice a ys.length cap := let ⟨a, cap, h1, _⟩ := hw; ⟨a, cap, h1⟩
  obtain ⟨wa, wc, hwe⟩ := hwl
  have hlenOf : Builtin.lenOf w = pure ys.length := by rw [hwe]; rfl
  have hvl : ∃ a cap, v = .slice a xs.length cap ∧ xs.length ≤ cap := let ⟨a, cap, h1, h2, _⟩ := hv.slv; ⟨a, cap, h1, h2⟩
  obtain ⟨va, vc, hve, hvc⟩ := hvl
  unfold execOp
  simp only [resolve]
  refine semH_bind (semH_pure ?_)
  simp only [invoke, builtin]
  refine semH_bind ?_
  unfold Builtin.append_
  simp only [List.map_toArray, List.map_cons, List.map_nil, hx, hy, List.getElem?_toArray, List.getElem?_cons_zero, List.getElem?_cons_succ]
  refine semH_bind (semH_underlying hs ?_)
  simp only [hve]
  refine semH_bind (semH_sizeOf' he ?_)
  refine semH_bind (semH_underlying hs2 ?_)
  refine semH_bind (semH_pure ?_)
  simp only [Bool.false_eq_true, if_false, Bool.not_false, if_true, false_or]
  rw [hlenOf]
  refine semH_bind (semH_pure ?_)
  have hws : SlV (Δ ++ rest) w ys := hw.app
  by_cases hroom : xs.length + ys.length ≤ vc
  · rw [if_pos hroom]
    refine semH_bind (semH_row rfl hws ?_)
    cases hv with
    | nil =>
      cases hve
      have hy0 : ys = [] := by simpa using hroom
      subst hy0
      refine semH_bind (semH_pure (semH_pure (semH_pure ⟨_, .inl rfl, ?_⟩)))
      exact h _ [] .nil
    | @some b cap c ty xs h1 h2 h3 =>
      cases hve
      have hsz : (xs.length + ys.length) * En.sz ≤ c.size := by rw [h2]; exact Nat.mul_le_mul_right _ hroom
      have e : (⟨b, 0, none⟩ : Addr).add (xs.length * En.sz) = ⟨b, xs.length * En.sz, none⟩ := by rw [add_mk, Nat.zero_add]
      have hsz' : xs.length * En.sz + 0 + (rowL ys).length ≤ c.size := by rw [rowL_length, Nat.add_zero, ← Nat.add_mul]; exact hsz
      simp only [e]
      have hu : Upd ([⟨b, true, .cells c ty (0, 0)⟩] ++ rest) b (.cells c ty (0, 0)) (.cells (setCells c (xs.length * En.sz + 0) (rowL ys)) ty (0, 0)) (⟨b, true, .cells (setCells c (xs.length * En.sz) (rowL ys)) ty (0, 0)⟩ :: rest) := .here
      refine semH_bind (semH_storeCells (rowL ys) 0 rowL_one hsz' hu (semH_pure (semH_pure ⟨_, .inl rfl, ?_⟩)))
      have hk := h _ _ (.some (b := b) (ty := ty) (cap := vc) (isRow_set h1 hsz) (by rw [setCells_size 0]; exact h2) (by rw [List.length_append]; exact hroom))
      rw [List.length_append] at hk
      exact hk
  · rw [if_neg hroom]
    have hbig : Builtin.nextslicecap (xs.length + ys.length) vc * by' ≤ 2 ^ 48 := cap_room (by omega) hb2 hlen
    have hfit := need_fits hb1 hlen
    refine semH_bytes he fun i hi => ?_
    rw [if_neg (by rw [hi]; rintro ⟨hh, _⟩; revert hh; simp only [IntKind.max]; intro hh; have : ((xs.length + ys.length : Nat) : Int) ≤ 140737488355328 := by omega
                   revert hh this; generalize ((xs.length + ys.length : Nat) : Int) = z; intro hh hz; simp [IntKind.signed, IntKind.bits] at hh; omega)]
    refine semH_bytes he fun i2 hi2 => ?_
    rw [if_neg (by rw [hi2]; omega)]
    refine semH_bind (semH_choose fun n => ?_)
    obtain ⟨newCap, hnc, hge⟩ : ∃ nc, (if (Question.appendCap (xs.length + ys.length) vc e).forced = true then 0 else (Question.appendCap (xs.length + ys.length) vc e).cut n) = nc ∧ xs.length + ys.length ≤ nc := ⟨_, rfl, by
      simp only [Question.forced, Bool.false_eq_true, if_false, Question.cut]; omega⟩
    rw [hnc]
    refine semH_bytes he fun i3 hi3 => ?_
    have hask : ∀ {R' : Unit → Ents → Prop} {S : Ents} {k : Nat}, R' () S → SemH P m (askRoom k) S R' := fun hR => by
      unfold askRoom
      refine semH_ite (fun _ => semH_mark (.inl rfl) hR) fun _ => semH_pure hR
    refine semH_bind (hask ?_)
    have hvs : SlV (Δ ++ rest) (.slice va xs.length vc) xs := by rw [← hve]; exact hv.slvS
    refine semH_bind (semH_row rfl hvs ?_)
    refine semH_bind (semH_row rfl hws ?_)
    unfold zeroOf at hz
    cases hzi : (P.info? e).bind (·.zero) with
    | none => simp [hzi] at hz
    | some z =>
      have hz' : zeroOf P e = some z.cells := by unfold zeroOf; rw [hzi]; rfl
      simp only [hzi, Option.map_some, Option.some.injEq] at hz
      refine semH_bind (semH_zero hz' fun z' hz2 => ?_)
      unfold newRow
      refine semH_bind (semH_bind (semH_new fun b => semH_pure (semH_pure ?_)))
      have hzs : z'.cells.size = En.sz := by rw [hz2]; exact hz
      generalize hcells : ((rowL xs).toArray ++ (rowL ys).toArray ++ Builtin.zeroCells z'.cells (newCap - (xs.length + ys.length))) = c
      have hcs : c.size = newCap * En.sz := by
        rw [← hcells]
        simp only [Array.size_append, List.size_toArray, rowL_length, Builtin.zeroCells, Array.size_map, Array.size_range, hzs]
        rw [← Nat.add_mul, ← Nat.add_mul]
        congr 1; omega
      have hrow : IsRow c 0 (xs ++ ys) := by
        refine isRow_of (l := []) (r := (Builtin.zeroCells z'.cells (newCap - (xs.length + ys.length))).toList) ?_
        rw [← hcells, rowL_append]
        simp
      have hk := h (.slice (some ⟨b, 0, none⟩) (xs ++ ys).length newCap) _ (.some (b := b) (ty := e) hrow hcs (by rw [List.length_append]; exact hge))
      rw [List.length_append] at hk
      refine semH_drop (S' := [⟨b, true, .cells c e (0, 0)⟩] ++ rest) (semH_pure ⟨_, .inl rfl, hk⟩) ?_
      exact List.Sublist.cons_cons _ (List.sublist_append_right _ _)
end
end Go.Proofs.YtpnnmklacialgaaGreat
namespace Go.Proofs.YtpnnmklacialgaaGreat
open Go.Conc
section
variable {E : Env} {fn n : Nat} {Q : Post} {K : Tm → List Deferred → Ents → Prop} {l : TL} {t : Tm} {ds : List Deferred} {S Z Zi : Ents} {ops : Array Oper} {i : Nat} {z : Bool} {rest : List (Nat × Bool)} {sq : Bool}
variable {d : Nat} {ty : TypeId} {pos : String} {af : Array Edge} {g : Option (Nat × Bool)}
theorem vop_of {op : Op} {v : Value} (hw : wantL ops l t g = some true) (hd : Nat.blt d n = true) (hdf : isDefer op = false) (hsel : isSel op = false)
    (h : ∀ S, List.Sublist Zi S → OpH Tryz.prog E.m ⟨some d, op, ty, pos, af, g⟩ (ev (den l t)) S fun u S' => u = v ∧ S' = S) : VOp Tryz.prog E n ops ⟨some d, op, ty, pos, af, g⟩ (den l t) Zi v :=
  fun S hS => ⟨hd, .inr ⟨wantL_ok (o := ⟨some d, op, ty, pos, af, g⟩) hw, hdf, hsel, .inl (h S hS)⟩⟩
def rdv (a : Bool) (k s : Nat) (c : List Value) : Option Value :=
  match a with
  | true => match ptO k s c with
    | some r => some (.agg r.toArray)
    | none => none
  | false => g1O k c
theorem o_load {ty' s off b : Nat} {a : Bool} {x : Operand} {mn : Bool} {c : Array Value} {tb : TypeId} {fz : Nat × Nat} {v : Value} (hw : wantL ops l t g = some true) (hd : Nat.blt d n = true) [hk : Tyk ty' (a, s)]
    (hx : evL l t x = some (.pointer (some ⟨b, off, none⟩))) [he : InS b Zi mn (.cells c tb fz)] (hv : rdv a off s c.toList = some v)
    (h : OpF Tryz.prog E fn n ops sq rest K (den ((d, v) :: l) t) ds Z S) : OpX Tryz.prog E fn n ops sq i z rest ⟨some d, .load ty' x, ty, pos, af, g⟩ K (den l t) ds Zi Z S := by
  refine o_V rfl (vop_of hw hd rfl rfl fun S hS => ?_) h
  cases a with
  | true =>
    simp only [rdv] at hv
    cases hp : ptO off s c.toList with
    | none => simp [hp] at hv
    | some r =>
      simp only [hp, Option.some.injEq] at hv
      subst hv
      obtain ⟨h1, h2⟩ := ptO_ok hp
      exact op_loadA hk.h (evL_eq hx) (hS.subset he.h) (by simpa using h2) (by rw [ext_list, h1]) ⟨rfl, rfl⟩
  | false =>
    have := g1O_ok hv
    exact op_load1 hk.h (evL_eq hx) (hS.subset he.h) (by simpa using this) ⟨rfl, rfl⟩
theorem o_loadW {ty' s b : Nat} {x : Operand} {mn : Bool} {c : Array Value} {tb : TypeId} {fz : Nat × Nat} (hw : wantL ops l t g = some true) (hd : Nat.blt d n = true) [hk : Tyk ty' (true, s)]
    (hx : evL l t x = some (.pointer (some ⟨b, 0, none⟩))) [he : InS b Zi mn (.cells c tb fz)] (hv : c.size = s)
    (h : OpF Tryz.prog E fn n ops sq rest K (den ((d, .agg c) :: l) t) ds Z S) : OpX Tryz.prog E fn n ops sq i z rest ⟨some d, .load ty' x, ty, pos, af, g⟩ K (den l t) ds Zi Z S :=
  o_V rfl (vop_of hw hd rfl rfl fun S hS => op_loadW hk.h (evL_eq hx) (hS.subset he.h) hv ⟨rfl, rfl⟩) h
theorem o_loadR {α : Type} {En : Enc α} {ty' s off b j sz k : Nat} {a : Bool} {x : Operand} {xs : List α} {v : Value} (hw : wantL ops l t g = some true) (hd : Nat.blt d n = true) [hk : Tyk ty' (a, s)]
    (hx : evL l t x = some (.pointer (some ⟨b, ix off j sz k, none⟩))) [hr : RowI Zi b off α En xs] (hj : j < xs.length) (hsz : En.sz = sz) (hv : rdv a k s (En.enc xs[j]).toList = some v)
    (h : OpF Tryz.prog E fn n ops sq rest K (den ((d, v) :: l) t) ds Z S) : OpX Tryz.prog E fn n ops sq i z rest ⟨some d, .load ty' x, ty, pos, af, g⟩ K (den l t) ds Zi Z S := by
  refine o_V rfl (vop_of hw hd rfl rfl fun S hS => ?_) h
  obtain ⟨mn, c, tb, fz, hm, hrow⟩ := hr.h (by omega)
  have hx' := evL_eq hx
  rw [ix_eq] at hx'
  subst hsz
  cases a with
  | true =>
    simp only [rdv] at hv
    cases hp : ptO k s (En.enc xs[j]).toList with
    | none => simp [hp] at hv
    | some r =>
      simp only [hp, Option.some.injEq] at hv
      subst hv
      obtain ⟨h1, h2⟩ := hrow.part hj hp
      exact op_loadA hk.h hx' (hS.subset hm) h1 h2 ⟨rfl, rfl⟩
  | false => exact op_load1 hk.h hx' (hS.subset hm) (hrow.get hj hv) ⟨rfl, rfl⟩
theorem o_index {ty' e sz b off len cap j : Nat} {a : Bool} {x y : Operand} {k : IntKind} (hw : wantL ops l t g = some true) (hd : Nat.blt d n = true) (hs : lk1 slT ty' = some e) [hk : Tyk e (a, sz)]
    (hx : evL l t x = some (.slice (some ⟨b, off, none⟩) len cap)) (hy : evL l t y = some (.int k (j : Int))) (hj : j < len)
    (h : OpF Tryz.prog E fn n ops sq rest K (den ((d, .pointer (some ⟨b, ix off j sz 0, none⟩)) :: l) t) ds Z S) : OpX Tryz.prog E fn n ops sq i z rest ⟨some d, .indexAddr ty' x y, ty, pos, af, g⟩ K (den l t) ds Zi Z S :=
  o_V rfl (vop_of hw hd rfl rfl fun S hS => op_index (slT_ok hs) hk.h (evL_eq hx) (evL_eq hy) hj ⟨by rw [ix_eq, Nat.add_zero], rfl⟩) h
theorem o_indexS {α : Type} {En : Enc α} {ty' e sz len cap j : Nat} {a : Option Addr} {ag : Bool} {x y : Operand} {xs : List α} {k : IntKind} (hw : wantL ops l t g = some true) (hd : Nat.blt d n = true) (hs : lk1 slT ty' = some e) [hk : Tyk e (ag, sz)]
    (hx : evL l t x = some (.slice a len cap)) (hy : evL l t y = some (.int k (j : Int))) [hr : SlI S a α En xs] (hl : len = xs.length) (hj : j < xs.length)
    (h : OpF Tryz.prog E fn n ops sq rest K (den ((d, .pointer (some ⟨blkA a, ix (offA a) j sz 0, none⟩)) :: l) t) ds Z S) : OpX Tryz.prog E fn n ops sq i z rest ⟨some d, .indexAddr ty' x y, ty, pos, af, g⟩ K (den l t) ds Zi Z S := by
  have e := (hr.h (by omega)).1
  refine o_index (b := blkA a) (off := offA a) (len := len) (cap := cap) hw hd hs ?_ hy (by omega) h
  rw [hx]; exact congrArg (fun q => some (Value.slice q len cap)) e
theorem o_indexZ (j : Nat) {α : Type} {En : Enc α} {ty' e sz len cap : Nat} {a : Option Addr} {ag : Bool} {x y : Operand} {xs : List α} {k : IntKind} {q : Int} (hw : wantL ops l t g = some true) (hd : Nat.blt d n = true) (hs : lk1 slT ty' = some e) [hk : Tyk e (ag, sz)]
    (hx : evL l t x = some (.slice a len cap)) (hy : evL l t y = some (.int k q)) [hr : SlI S a α En xs] (hl : len = xs.length) (hq : q = (j : Int)) (hj : j < xs.length)
    (h : OpF Tryz.prog E fn n ops sq rest K (den ((d, .pointer (some ⟨blkA a, ix (offA a) j sz 0, none⟩)) :: l) t) ds Z S) : OpX Tryz.prog E fn n ops sq i z rest ⟨some d, .indexAddr ty' x y, ty, pos, af, g⟩ K (den l t) ds Zi Z S :=
  o_indexS hw hd hs hx (by rw [hy, hq]) hl hj h
theorem o_indexA {ty' e sz b off len j : Nat} {a : Bool} {x y : Operand} {k : IntKind} (hw : wantL ops l t g = some true) (hd : Nat.blt d n = true) (hs : lk1 arT ty' = some (len, e)) [hk : Tyk e (a, sz)]
    (hx : evL l t x = some (.pointer (some ⟨b, off, none⟩))) (hy : evL l t y = some (.int k (j : Int))) (hj : j < len)
    (h : OpF Tryz.prog E fn n ops sq rest K (den ((d, .pointer (some ⟨b, ix off j sz 0, none⟩)) :: l) t) ds Z S) : OpX Tryz.prog E fn n ops sq i z rest ⟨some d, .indexAddr ty' x y, ty, pos, af, g⟩ K (den l t) ds Zi Z S := by
  refine o_V rfl (vop_of hw hd rfl rfl fun S hS => ?_) h
  have hu := arT_ok hs
  refine semH_bind (?_ : SemH Tryz.prog E.m (Instr.indexAt ty' (ev (den l t) x) (ev (den l t) y)) S _)
  rw [evL_eq hx, evL_eq hy]
  unfold Instr.indexAt
  refine semH_bind (semH_pure ?_)
  refine semH_bind (semH_underlying hu ?_)
  refine semH_bind (semH_pure ?_)
  refine semH_bind (semH_pure ?_)
  refine semH_bind (semH_underlying hu ?_)
  simp only
  rw [if_pos (by omega)]
  refine semH_bind (semH_sizeOf hk.h ?_)
  refine semH_pure (semH_pure ⟨_, .inl rfl, ?_⟩)
  rw [add_mk, Int.toNat_natCast, ix_eq, Nat.add_zero]
  exact ⟨rfl, rfl⟩
theorem o_fieldI {s f b off j sz k f' : Nat} {x : Operand} (hw : wantL ops l t g = some true) (hd : Nat.blt d n = true) (hf : lk2 foT s f = some f') (hx : evL l t x = some (.pointer (some ⟨b, ix off j sz k, none⟩)))
    (h : OpF Tryz.prog E fn n ops sq rest K (den ((d, .pointer (some ⟨b, ix off j sz (k + f'), none⟩)) :: l) t) ds Z S) : OpX Tryz.prog E fn n ops sq i z rest ⟨some d, .fieldAddr s x f, ty, pos, af, g⟩ K (den l t) ds Zi Z S :=
  o_V rfl (vop_of hw hd rfl rfl fun S hS => op_field (foT_ok hf) (evL_eq hx) ⟨by rw [ix_add], rfl⟩) h
theorem o_field {s f b off f' : Nat} {x : Operand} (hw : wantL ops l t g = some true) (hd : Nat.blt d n = true) (hf : lk2 foT s f = some f') (hx : evL l t x = some (.pointer (some ⟨b, off, none⟩)))
    (h : OpF Tryz.prog E fn n ops sq rest K (den ((d, .pointer (some ⟨b, off + f', none⟩)) :: l) t) ds Z S) : OpX Tryz.prog E fn n ops sq i z rest ⟨some d, .fieldAddr s x f, ty, pos, af, g⟩ K (den l t) ds Zi Z S :=
  o_V rfl (vop_of hw hd rfl rfl fun S hS => op_field (foT_ok hf) (evL_eq hx) ⟨rfl, rfl⟩) h
section
variable {P : Program} {dd : Option Nat}
theorem gL {a : TypeId} {x : Operand} (h : OpX P E fn n ops sq i z rest ⟨dd, .load a x, ty, pos, af, g⟩ K t ds Zi Z S) : OpX P E fn n ops sq i z rest ⟨dd, .load a x, ty, pos, af, g⟩ K t ds Zi Z S := h
theorem gF {a b : Nat} {x : Operand} (h : OpX P E fn n ops sq i z rest ⟨dd, .fieldAddr a x b, ty, pos, af, g⟩ K t ds Zi Z S) : OpX P E fn n ops sq i z rest ⟨dd, .fieldAddr a x b, ty, pos, af, g⟩ K t ds Zi Z S := h
theorem gC {c : Call} (h : OpX P E fn n ops sq i z rest ⟨dd, .call c, ty, pos, af, g⟩ K t ds Zi Z S) : OpX P E fn n ops sq i z rest ⟨dd, .call c, ty, pos, af, g⟩ K t ds Zi Z S := h
theorem gI {a : TypeId} {x y : Operand} (h : OpX P E fn n ops sq i z rest ⟨dd, .indexAddr a x y, ty, pos, af, g⟩ K t ds Zi Z S) : OpX P E fn n ops sq i z rest ⟨dd, .indexAddr a x y, ty, pos, af, g⟩ K t ds Zi Z S := h
theorem gB {o : BinOp} {a b : TypeId} {x y : Operand} (h : OpX P E fn n ops sq i z rest ⟨dd, .binOp o a x y b, ty, pos, af, g⟩ K t ds Zi Z S) : OpX P E fn n ops sq i z rest ⟨dd, .binOp o a x y b, ty, pos, af, g⟩ K t ds Zi Z S := h
theorem gS {a : TypeId} {x y : Operand} (h : OpX P E fn n ops sq i z rest ⟨dd, .store a x y, ty, pos, af, g⟩ K t ds Zi Z S) : OpX P E fn n ops sq i z rest ⟨dd, .store a x y, ty, pos, af, g⟩ K t ds Zi Z S := h
theorem gX {o : Oper} (h : OpX P E fn n ops sq i z rest o K t ds Zi Z S) : OpX P E fn n ops sq i z rest o K t ds Zi Z S := h
end
theorem o_add {t1 t2 : TypeId} {x y : Operand} {a b : Int} (hw : wantL ops l t g = some true) (hd : Nat.blt d n = true) (hx : evL l t x = some (.int .i64 a)) (hy : evL l t y = some (.int .i64 b))
    (h1 : -9223372036854775808 ≤ a + b ∧ a + b ≤ 9223372036854775807) (h : OpF Tryz.prog E fn n ops sq rest K (den ((d, .int .i64 (a + b)) :: l) t) ds Z S) : OpX Tryz.prog E fn n ops sq i z rest ⟨some d, .binOp .add t1 x y t2, ty, pos, af, g⟩ K (den l t) ds Zi Z S :=
  o_V rfl (vop_of hw hd rfl rfl fun S hS => op_int (evL_eq hx) (evL_eq hy) (by rw [intVal, wrap_in h1.1 h1.2]) ⟨rfl, rfl⟩) h
theorem o_sub {t1 t2 : TypeId} {x y : Operand} {a b : Int} (hw : wantL ops l t g = some true) (hd : Nat.blt d n = true) (hx : evL l t x = some (.int .i64 a)) (hy : evL l t y = some (.int .i64 b))
    (h1 : -9223372036854775808 ≤ a - b ∧ a - b ≤ 9223372036854775807) (h : OpF Tryz.prog E fn n ops sq rest K (den ((d, .int .i64 (a - b)) :: l) t) ds Z S) : OpX Tryz.prog E fn n ops sq i z rest ⟨some d, .binOp .sub t1 x y t2, ty, pos, af, g⟩ K (den l t) ds Zi Z S :=
  o_V rfl (vop_of hw hd rfl rfl fun S hS => op_int (evL_eq hx) (evL_eq hy) (by rw [intVal, wrap_in h1.1 h1.2]) ⟨rfl, rfl⟩) h
theorem o_mul {t1 t2 : TypeId} {x y : Operand} {a b : Int} (hw : wantL ops l t g = some true) (hd : Nat.blt d n = true) (hx : evL l t x = some (.int .i64 a)) (hy : evL l t y = some (.int .i64 b))
    (h1 : -9223372036854775808 ≤ a * b ∧ a * b ≤ 9223372036854775807) (h : OpF Tryz.prog E fn n ops sq rest K (den ((d, .int .i64 (a * b)) :: l) t) ds Z S) : OpX Tryz.prog E fn n ops sq i z rest ⟨some d, .binOp .mul t1 x y t2, ty, pos, af, g⟩ K (den l t) ds Zi Z S :=
  o_V rfl (vop_of hw hd rfl rfl fun S hS => op_int (evL_eq hx) (evL_eq hy) (by rw [intVal, wrap_in h1.1 h1.2]) ⟨rfl, rfl⟩) h
theorem op_div {P : Program} {m : Mode} {S : Ents} {ρ : Operand → Value} {d : Option Tmp} {op : BinOp} {ty ty' : TypeId} {pos : String} {t' : TypeId} {af : Array Edge} {g : Option (Nat × Bool)} {x y : Operand} {k : IntKind} {a b : Int} {R : Value → Ents → Prop}
    (hx : ρ x = .int k a) (hy : ρ y = .int k b) (hb : b ≠ 0) (hop : op = .quo ∨ op = .rem) (h : R (.int k (if op = .quo then k.wrap (a.tdiv b) else a.tmod b)) S) : OpH P m ⟨d, .binOp op ty x y ty', t', pos, af, g⟩ ρ S R := by
  refine semH_bind (?_ : SemH P m (do eqGuard op ty x y (ρ x) (ρ y); binOp op ty (ρ x) (ρ y)) S _)
  rw [hx, hy]
  have hg : ∀ R' : Unit → Ents → Prop, R' () S → SemH P m (eqGuard op ty x y (.int k a) (.int k b)) S R' := fun R' hR => by
    unfold eqGuard
    rcases hop with rfl | rfl <;> exact semH_pure hR
  refine semH_bind (hg _ ?_)
  rcases hop with rfl | rfl <;>
    · simp only [binOp, ne_eq, not_true_eq_false, if_false, Op.intDiv, hb]
      exact semH_pure (semH_pure ⟨_, .inl rfl, h⟩)
theorem o_quo {t1 t2 : TypeId} {x y : Operand} {a b : Int} (hw : wantL ops l t g = some true) (hd : Nat.blt d n = true) (hx : evL l t x = some (.int .i64 a)) (hy : evL l t y = some (.int .i64 b)) (hb : b ≠ 0)
    (h1 : -9223372036854775808 ≤ a.tdiv b ∧ a.tdiv b ≤ 9223372036854775807) (h : OpF Tryz.prog E fn n ops sq rest K (den ((d, .int .i64 (a.tdiv b)) :: l) t) ds Z S) : OpX Tryz.prog E fn n ops sq i z rest ⟨some d, .binOp .quo t1 x y t2, ty, pos, af, g⟩ K (den l t) ds Zi Z S :=
  o_V rfl (vop_of hw hd rfl rfl fun S hS => op_div (evL_eq hx) (evL_eq hy) hb (.inl rfl) ⟨by rw [if_pos rfl, wrap_in h1.1 h1.2], rfl⟩) h
theorem exec_of {op : Op} {d : Option Nat} {R : Value → Ents → Prop} (hw : wantL ops l t g = some true) (hd : dstOk n d = true) (hdf : isDefer op = false) (hsel : isSel op = false)
    (h : OpH Tryz.prog E.m ⟨d, op, ty, pos, af, g⟩ (ev (den l t)) S R) : Exec Tryz.prog E n ops ⟨d, op, ty, pos, af, g⟩ (den l t) S R :=
  ⟨hd, .inr ⟨wantL_ok (o := ⟨d, op, ty, pos, af, g⟩) hw, hdf, hsel, .inl h⟩⟩
theorem o_skip {op : Op} (hw : wantL ops l t g = some false) (hd : Nat.blt d n = true) (h : OpF Tryz.prog E fn n ops sq rest K (den ((d, undef) :: l) t) ds Z S) : OpX Tryz.prog E fn n ops sq i z rest ⟨some d, op, ty, pos, af, g⟩ K (den l t) ds Zi Z S := by
  cases ha : isAct op with
  | false => exact o_V ha (fun S hS => ⟨hd, .inl ⟨wantL_ok (o := ⟨some d, op, ty, pos, af, g⟩) hw, rfl, rfl⟩⟩) h
  | true => exact o_A ha (R := fun v S' => v = undef ∧ S' = S) ⟨hd, .inl ⟨wantL_ok (o := ⟨some d, op, ty, pos, af, g⟩) hw, rfl, rfl⟩⟩ (by rintro _ _ ⟨rfl, rfl⟩; exact ⟨Z, fun _ hz => ⟨fun _ => List.Sublist.refl _, hz⟩, h⟩)
theorem o_skipN {op : Op} (hw : wantL ops l t g = some false) (ha : isAct op = true) (h : OpF Tryz.prog E fn n ops sq rest K (den l t) ds Z S) : OpX Tryz.prog E fn n ops sq i z rest ⟨none, op, ty, pos, af, g⟩ K (den l t) ds Zi Z S :=
  o_A ha (R := fun v S' => v = undef ∧ S' = S) ⟨rfl, .inl ⟨wantL_ok (o := ⟨none, op, ty, pos, af, g⟩) hw, rfl, rfl⟩⟩ (by rintro _ _ ⟨rfl, rfl⟩; exact ⟨Z, fun _ hz => ⟨fun _ => List.Sublist.refl _, hz⟩, h⟩)
theorem o_box {ty' : TypeId} {x : Operand} {v : Value} (hw : wantL ops l t g = some true) (hd : Nat.blt d n = true) (hx : evL l t x = some v)
    (h : ∀ b, OpF Tryz.prog E fn n ops sq rest K (den ((d, .pointer (some ⟨b, 0, none⟩)) :: l) t) ds (⟨b, true, .cells v.cells ty' (0, 0)⟩ :: S) (⟨b, true, .cells v.cells ty' (0, 0)⟩ :: S)) : OpX Tryz.prog E fn n ops sq i z rest ⟨some d, .box ty' x, ty, pos, af, g⟩ K (den l t) ds Zi Z S :=
  o_A rfl (R := fun u S' => ∃ b, u = .pointer (some ⟨b, 0, none⟩) ∧ S' = ⟨b, true, .cells v.cells ty' (0, 0)⟩ :: S) (exec_of hw hd rfl rfl (op_box (by rw [evL_eq hx]) fun b => ⟨b, rfl, rfl⟩)) (by rintro _ _ ⟨b, rfl, rfl⟩; exact ⟨_, fun _ hz => ⟨fun _ => .cons _ hz, List.Sublist.refl _⟩, h b⟩)
theorem o_allocZ {ty' : TypeId} {cs : Array Value} (hw : wantL ops l t g = some true) (hd : Nat.blt d n = true) [hz : Zo ty' cs]
    (h : ∀ b, OpF Tryz.prog E fn n ops sq rest K (den ((d, .pointer (some ⟨b, 0, none⟩)) :: l) t) ds Z (⟨b, true, .cells cs ty' (0, 0)⟩ :: S)) : OpX Tryz.prog E fn n ops sq i z rest ⟨some d, .alloc ty', ty, pos, af, g⟩ K (den l t) ds Zi Z S :=
  o_A rfl (R := fun u S' => ∃ b, u = .pointer (some ⟨b, 0, none⟩) ∧ S' = ⟨b, true, .cells cs ty' (0, 0)⟩ :: S) (exec_of hw hd rfl rfl (op_alloc hz.h fun b => ⟨b, rfl, rfl⟩)) (by rintro _ _ ⟨b, rfl, rfl⟩; exact ⟨Z, fun _ hz => ⟨fun _ => List.Sublist.refl _, .cons _ hz⟩, h b⟩)
def repO : List Value → List Value → Option (List Value)
  | [], l => some l
  | _ :: _, [] => none
  | v :: vs, _ :: l => match repO vs l with
    | some r => some (v :: r)
    | none => none
def setO : Nat → List Value → List Value → Option (List Value)
  | 0, vs, l => repO vs l
  | _ + 1, _, [] => none
  | k + 1, vs, x :: l => match setO k vs l with
    | some r => some (x :: r)
    | none => none
theorem repO_ok : ∀ {vs l r : List Value}, repO vs l = some r → r = vs ++ l.drop vs.length ∧ vs.length ≤ l.length
  | [], l, r, h => by cases h; simp
  | v :: vs, [], r, h => by cases h
  | v :: vs, x :: l, r, h => by
    simp only [repO] at h
    cases h1 : repO vs l with
    | none => simp [h1] at h
    | some r' =>
      simp only [h1, Option.some.injEq] at h
      subst h
      obtain ⟨h2, h3⟩ := repO_ok h1
      subst h2
      simp; omega
theorem setO_ok : ∀ {k : Nat} {vs l r : List Value}, setO k vs l = some r → r = l.take k ++ vs ++ l.drop (k + vs.length) ∧ k + vs.length ≤ l.length
  | 0, vs, l, r, h => by have := repO_ok h; simpa using this
  | k + 1, vs, [], r, h => by cases h
  | k + 1, vs, x :: l, r, h => by
    simp only [setO] at h
    cases h1 : setO k vs l with
    | none => simp [h1] at h
    | some r' =>
      simp only [h1, Option.some.injEq] at h
      subst h
      obtain ⟨h2, h3⟩ := setO_ok h1
      subst h2
      refine ⟨?_, by simp; omega⟩
      rw [show k + 1 + vs.length = (k + vs.length) + 1 by omega]
      simp
theorem setCells_setO {c : Array Value} {k : Nat} {vs r : List Value} (h : setO k vs c.toList = some r) : setCells c k vs = r.toArray := by
  obtain ⟨h1, h2⟩ := setO_ok h
  simp only [Array.length_toList] at h2
  apply Array.ext_getElem?
  intro j
  rw [setCells_get, h1]
  simp only [List.getElem?_toArray]
  have htk : (c.toList.take k).length = k := by simp; omega
  by_cases hj : k ≤ j ∧ j < k + vs.length ∧ j < c.size
  · rw [if_pos hj, List.append_assoc, List.getElem?_append_right (by omega), List.getElem?_append_left (by omega), htk]
  · rw [if_neg hj]
    by_cases hjk : j < k
    · rw [List.append_assoc, List.getElem?_append_left (by omega), List.getElem?_take_of_lt hjk]; simp
    · by_cases hjs : j < c.size
      · rw [List.getElem?_append_right (by simp; omega), List.getElem?_drop]
        simp only [List.length_append, htk]
        rw [show k + vs.length + (j - (k + vs.length)) = j by omega]; simp
      · rw [Array.getElem?_eq_none (by omega), List.getElem?_eq_none]
        simp; omega
class KA (z sq : Bool) (Z S' : Ents) (Z' : outParam Ents) : Prop where h : sq = false → (z = false → List.Sublist Z Z') ∧ List.Sublist Z' S'
instance ka_true {sq : Bool} {Z S' : Ents} : KA true sq Z S' S' := ⟨fun _ => ⟨fun h => (by cases h), List.Sublist.refl _⟩⟩
instance ka_false {sq : Bool} {Z S' : Ents} [i : KZ sq Z S'] : KA false sq Z S' Z := ⟨fun h => ⟨fun _ => List.Sublist.refl _, i.h h⟩⟩
theorem o_store {ty' s off b : Nat} {a : Bool} {x y : Operand} {c : Array Value} {tb : TypeId} {v : Value} {c' : List Value} {re : Obj → Ents} {Z' : Ents} (hw : wantL ops l t g = some true) [hk : Tyk ty' (a, s)] (hx : evL l t x = some (.pointer (some ⟨b, off, none⟩))) (hy : evL l t y = some v)
    [hu : OwnS b S (.cells c tb (0, 0)) re] (hsz : Nat.beq v.cells.toList.length s = true) (hone : (v.cells.toList.all (·.oneCell')) = true) (hc : setO off v.cells.toList c.toList = some c') [kz : KA z sq Z (re (.cells c'.toArray tb (0, 0))) Z']
    (h : OpF Tryz.prog E fn n ops sq rest K (den l t) ds Z' (re (.cells c'.toArray tb (0, 0)))) : OpX Tryz.prog E fn n ops sq i z rest ⟨none, .store ty' x y, ty, pos, af, g⟩ K (den l t) ds Zi Z S := by
  obtain ⟨h1, h2⟩ := setO_ok hc
  have hs := Nat.eq_of_beq_eq_true hsz
  simp only [Array.length_toList] at h2 hs
  refine o_A rfl (R := fun _ S' => S' = re (.cells c'.toArray tb (0, 0))) (exec_of hw rfl rfl rfl (op_store (c := c) hk.h (evL_eq hx) (by rw [evL_eq hy]) hs hone (by simp only; omega) (by rw [setCells_setO hc]; exact hu.h _) rfl)) ?_
  rintro _ _ rfl
  exact ⟨Z', fun hq _ => kz.h hq, h⟩
theorem o_storeW {ty' s b : Nat} {a : Bool} {x y : Operand} {c : Array Value} {tb : TypeId} {v : Value} {re : Obj → Ents} {Z' : Ents} (hw : wantL ops l t g = some true) [hk : Tyk ty' (a, s)] (hx : evL l t x = some (.pointer (some ⟨b, 0, none⟩))) (hy : evL l t y = some v)
    [hu : OwnS b S (.cells c tb (0, 0)) re] (hsz : v.cells.size = s) (hone : (v.cells.toList.all (·.oneCell')) = true) (hc : c.size = s) [kz : KA z sq Z (re (.cells v.cells tb (0, 0))) Z']
    (h : OpF Tryz.prog E fn n ops sq rest K (den l t) ds Z' (re (.cells v.cells tb (0, 0)))) : OpX Tryz.prog E fn n ops sq i z rest ⟨none, .store ty' x y, ty, pos, af, g⟩ K (den l t) ds Zi Z S := by
  refine o_A rfl (R := fun _ S' => S' = re (.cells v.cells tb (0, 0))) (exec_of hw rfl rfl rfl (op_storeW hk.h (evL_eq hx) (by rw [evL_eq hy]) hsz hone hc (hu.h _) rfl)) ?_
  rintro _ _ rfl
  exact ⟨Z', fun hq _ => kz.h hq, h⟩
theorem o_call {f : FuncId} {args : Array Operand} {ats : Array TypeId} {vs : List Value} {R : Value → Ents → Prop} (hw : wantL ops l t g = some true) (hd : Nat.blt d n = true) (hx : evLs l t args.toList = some vs) (hr : CallW Tryz.prog E f vs.toArray S R)
    (h : ∀ v S', R v S' → KZ sq S S' ∧ OpF Tryz.prog E fn n ops sq rest K (den ((d, v) :: l) t) ds S' S') : OpX Tryz.prog E fn n ops sq i z rest ⟨some d, .call { callee := .value (.func f), args := args, argTypes := ats }, ty, pos, af, g⟩ K (den l t) ds Zi Z S := by
  refine o_A rfl (R := R) ⟨hd, .inr ⟨wantL_ok (o := ⟨some d, .call { callee := .value (.func f), args := args, argTypes := ats }, ty, pos, af, g⟩) hw, rfl, rfl, .inr (.inl ⟨f, vs.toArray, fun w => ?_, hr⟩)⟩⟩ fun v S' hR => ?_
  · unfold execOp
    simp only [resolve, ev, Deferred.ofValue]
    show (Sem.bind _ _).runT Tryz.prog w #[] = _
    rw [Sem.runT_bind']
    simp only [pure, Sem.runT, invoke]
    have e : (#[] ++ Array.map (ev (den l t)) args ++ #[] : Array Value) = vs.toArray := by
      have := evLs_eq hx
      rw [← this]; apply Array.ext'; simp
    rw [e]
    exact run_callFunc hr.1 _ w #[]
  · obtain ⟨h1, h2⟩ := h v S' hR
    exact ⟨S', fun hq hz => ⟨fun _ => hz.trans (h1.h hq), List.Sublist.refl _⟩, h2⟩
theorem o_callZ {f : FuncId} {args : Array Operand} {ats : Array TypeId} {vs : List Value} {R : Value → Ents → Prop} (hw : wantL ops l t g = some true) (hd : Nat.blt d n = true) (hx : evLs l t args.toList = some vs) (hr : CallW Tryz.prog E f vs.toArray S R)
    (h : ∀ v S', R v S' → KZ sq Z S' ∧ OpF Tryz.prog E fn n ops sq rest K (den ((d, v) :: l) t) ds Z S') : OpX Tryz.prog E fn n ops sq i z rest ⟨some d, .call { callee := .value (.func f), args := args, argTypes := ats }, ty, pos, af, g⟩ K (den l t) ds Zi Z S := by
  refine o_A rfl (R := R) ⟨hd, .inr ⟨wantL_ok (o := ⟨some d, .call { callee := .value (.func f), args := args, argTypes := ats }, ty, pos, af, g⟩) hw, rfl, rfl, .inr (.inl ⟨f, vs.toArray, fun w => ?_, hr⟩)⟩⟩ fun v S' hR => ?_
  · unfold execOp
    simp only [resolve, ev, Deferred.ofValue]
    show (Sem.bind _ _).runT Tryz.prog w #[] = _
    rw [Sem.runT_bind']
    simp only [pure, Sem.runT, invoke]
    have e : (#[] ++ Array.map (ev (den l t)) args ++ #[] : Array Value) = vs.toArray := by
      have := evLs_eq hx
      rw [← this]; apply Array.ext'; simp
    rw [e]
    exact run_callFunc hr.1 _ w #[]
  · obtain ⟨h1, h2⟩ := h v S' hR
    exact ⟨Z, fun hq hz => ⟨fun _ => List.Sublist.refl _, h1.h hq⟩, h2⟩
theorem o_append {α : Type} [En : Enc α] {sT xT e e2 sz by' : Nat} {x y : Operand} {xs ys : List α} {Δ rs : Ents} {v w : Value} (hw : wantL ops l t g = some true) (hd : Nat.blt d n = true) (hx : evL l t x = some v) (hy : evL l t y = some w) (hv : Own v xs Δ) (hwv : ∀ S, FrS Δ S rs → SlV rs w ys)
    (hlen : (xs.length + ys.length) * by' ≤ 140737488355328) [fr : FrS Δ S rs] (hs : lk1 slT sT = some e) (hs2 : lk1 slT xT = some e2) [he : Eb e sz by'] {cs : Array Value} [hz : Zo e cs] (hcs : cs.size = sz) (hsz : En.sz = sz)
    (h : ∀ v' Δ', Own v' (xs ++ ys) Δ' → KZ sq Z (Δ' ++ rs) ∧ OpF Tryz.prog E fn n ops sq rest K (den ((d, v') :: l) t) ds Z (Δ' ++ rs)) :
    OpX Tryz.prog E fn n ops sq i z rest ⟨some d, .call { callee := .builtin .append, args := #[x, y], argTypes := #[sT, xT] }, ty, pos, af, g⟩ K (den l t) ds Zi Z S := by
  refine o_A rfl (R := fun u S' => ∃ Δ', Own u (xs ++ ys) Δ' ∧ S' = Δ' ++ rs) (exec_of hw hd rfl rfl (op_append (slT_ok hs) (slT_ok hs2) he.h (by rw [hz.h]; simp [hcs]) hsz (evL_eq hx) (evL_eq hy) hv (fr := fr) (hwv S fr) hlen fun v' Δ' ho => ⟨Δ', ho, rfl⟩)) ?_
  rintro v' _ ⟨Δ', ho, rfl⟩
  obtain ⟨h1, h2⟩ := h v' Δ' ho
  exact ⟨Z, fun hq _ => ⟨fun _ => List.Sublist.refl _, h1.h hq⟩, h2⟩
end
end Go.Proofs.YtpnnmklacialgaaGreat
namespace Go.Proofs.YtpnnmklacialgaaGreat
open Go.Conc
section
variable {E : Env} {fn n : Nat} {Q : Post} {K : Tm → List Deferred → Ents → Prop} {l : TL} {t : Tm} {ds : List Deferred} {S Z Zi : Ents} {ops : Array Oper} {i : Nat} {z : Bool} {rest : List (Nat × Bool)} {sq : Bool}
variable {d : Nat} {ty : TypeId} {pos : String} {af : Array Edge} {g : Option (Nat × Bool)}
theorem o_callF {f : FuncId} {args : Array Operand} {ats : Array TypeId} {vs : List Value} {v : Value} (hw : wantL ops l t g = some true) (hd : Nat.blt d n = true) (hx : evLs l t args.toList = some vs) (hr : CallW Tryz.prog E f vs.toArray S fun r S' => r = v ∧ S' = S)
    (h : OpF Tryz.prog E fn n ops sq rest K (den ((d, v) :: l) t) ds Z S) : OpX Tryz.prog E fn n ops sq i z rest ⟨some d, .call { callee := .value (.func f), args := args, argTypes := ats }, ty, pos, af, g⟩ K (den l t) ds Zi Z S := by
  refine o_A rfl (R := fun r S' => r = v ∧ S' = S) ⟨hd, .inr ⟨wantL_ok (o := ⟨some d, .call { callee := .value (.func f), args := args, argTypes := ats }, ty, pos, af, g⟩) hw, rfl, rfl, .inr (.inl ⟨f, vs.toArray, fun w => ?_, hr⟩)⟩⟩ ?_
  · unfold execOp
    simp only [resolve, ev, Deferred.ofValue]
    show (Sem.bind _ _).runT Tryz.prog w #[] = _
    rw [Sem.runT_bind']
    simp only [pure, Sem.runT, invoke]
    have e : (#[] ++ Array.map (ev (den l t)) args ++ #[] : Array Value) = vs.toArray := by
      have := evLs_eq hx
      rw [← this]; apply Array.ext'; simp
    rw [e]
    exact run_callFunc hr.1 _ w #[]
  · rintro _ _ ⟨rfl, rfl⟩
    exact ⟨Z, fun _ hz => ⟨fun _ => List.Sublist.refl _, hz⟩, h⟩
theorem o_callvF {f : FuncId} {x : Nat} {args : Array Operand} {ats : Array TypeId} {vs : List Value} {first captured : Array Value} {v : Value} (hw : wantL ops l t g = some true) (hd : Nat.blt d n = true) (hf : evL l t (.tmp x) = some (.func (.func f) first captured)) (hx : evLs l t args.toList = some vs)
    (hr : CallW Tryz.prog E f (first ++ vs.toArray ++ captured) S fun r S' => r = v ∧ S' = S)
    (h : OpF Tryz.prog E fn n ops sq rest K (den ((d, v) :: l) t) ds Z S) : OpX Tryz.prog E fn n ops sq i z rest ⟨some d, .call { callee := .value (.tmp x), args := args, argTypes := ats }, ty, pos, af, g⟩ K (den l t) ds Zi Z S := by
  refine o_A rfl (R := fun r S' => r = v ∧ S' = S) ⟨hd, .inr ⟨wantL_ok (o := ⟨some d, .call { callee := .value (.tmp x), args := args, argTypes := ats }, ty, pos, af, g⟩) hw, rfl, rfl, .inr (.inl ⟨f, first ++ vs.toArray ++ captured, fun w => ?_, hr⟩)⟩⟩ ?_
  · unfold execOp
    simp only [resolve, evL_eq hf, Deferred.ofValue]
    show (Sem.bind _ _).runT Tryz.prog w #[] = _
    rw [Sem.runT_bind']
    simp only [pure, Sem.runT, invoke]
    have e : (first ++ Array.map (ev (den l t)) args ++ captured : Array Value) = first ++ vs.toArray ++ captured := by
      have := evLs_eq hx
      rw [← this]; congr 2; apply Array.ext'; simp
    rw [e]
    exact run_callFunc hr.1 _ w #[]
  · rintro _ _ ⟨rfl, rfl⟩
    exact ⟨Z, fun _ hz => ⟨fun _ => List.Sublist.refl _, hz⟩, h⟩
def concT (P : Program) (t : Nat) : Bool := match P.underlying t with | some (.interface _) => false | some _ => true | none => false
class Conc1 (t : Nat) : Prop where h : concT Tryz.prog t = true
theorem o_iface {xt : TypeId} {x : Operand} {v : Value} (hw : wantL ops l t g = some true) (hd : Nat.blt d n = true) (hx : evL l t x = some v) [hc : Conc1 xt]
    (h : OpF Tryz.prog E fn n ops sq rest K (den ((d, .iface xt v) :: l) t) ds Z S) : OpX Tryz.prog E fn n ops sq i z rest ⟨some d, .makeInterface xt x, ty, pos, af, g⟩ K (den l t) ds Zi Z S := by
  refine o_A rfl (R := fun r S' => r = .iface xt v ∧ S' = S) (exec_of hw hd rfl rfl ?_) ?_
  · refine semH_bind (?_ : SemH Tryz.prog E.m (Instr.makeInterface xt (ev (den l t) x)) S _)
    rw [evL_eq hx]
    unfold Instr.makeInterface
    have hc := hc.h
    unfold concT at hc
    cases hu : Tryz.prog.underlying xt with
    | none => simp [hu] at hc
    | some D =>
      refine semH_bind (semH_underlying hu ?_)
      cases D <;> simp only [hu] at hc <;> first | (cases hc; done) | exact semH_pure (semH_pure ⟨_, .inl rfl, rfl, rfl⟩)
  · rintro _ _ ⟨rfl, rfl⟩
    exact ⟨Z, fun _ hz => ⟨fun _ => List.Sublist.refl _, hz⟩, h⟩
theorem depth_succ (n : Nat) : ∃ k, n + Made.depth = k + 1 := ⟨n + 99, rfl⟩
def methOf (P : Program) (t : Nat) (name : String) : Option Nat :=
  match P.underlying t, P.info? t with
  | some (.struct _), some i => match i.methods.find? (·.name == name) with
    | some m => bif m.path.isEmpty then (match m.func with | some (f, false) => some f | _ => none) else none
    | none => none
  | _, _ => none
class Meth (t : Nat) (name : String) (f : outParam Nat) : Prop where h : methOf Tryz.prog t name = some f
theorem run_method {P : Program} {t f k : Nat} {v : Value} {name : String} {w : World} {es : Array Event} (h : methOf P t name = some f) : (method (k + 1) t v name).runT P w es = (.ok (f, v) w, es) := by
  unfold methOf at h
  cases hu : P.underlying t with
  | none => simp [hu] at h
  | some D =>
    cases D <;> simp only [hu] at h <;> try (cases h; done)
    rename_i fs
    cases hi : P.info? t with
    | none => simp [hi] at h
    | some i =>
      simp only [hi] at h
      cases hm : i.methods.find? (·.name == name) with
      | none => simp [hm] at h
      | some m =>
        simp only [hm] at h
        cases hp : m.path.isEmpty with
        | false => simp [hp] at h
        | true =>
          simp only [hp, cond_true] at h
          have hp' : m.path.toList = [] := by simpa using hp
          cases hf : m.func with
          | none => simp [hf] at h
          | some q =>
            obtain ⟨f', b⟩ := q
            cases b with
            | true => simp [hf] at h
            | false =>
              simp only [hf, Option.some.injEq] at h
              subst h
              unfold method
              show (Sem.bind _ _).runT P w es = _
              rw [Sem.runT_bind']
              have h1 : (typeInfo t).runT P w es = (.ok i w, es) := by
                unfold typeInfo
                show (Sem.bind _ _).runT P w es = _
                rw [Sem.runT_bind']
                simp only [program, Sem.runT, hi]; rfl
              simp only [h1, hm, hp', follow]
              show (Sem.bind _ _).runT P w es = _
              rw [Sem.runT_bind']
              simp only [pure, Sem.runT, hf]
              show (Sem.bind _ _).runT P w es = _
              rw [Sem.runT_bind']
              have h2 : (receiverAt t (.val v) false (if m.path.isEmpty = true then some ((name.splitOn ".").getLastD name) else none)).runT P w es = (.ok v w, es) := by
                unfold receiverAt
                show (Sem.bind _ _).runT P w es = _
                rw [Sem.runT_bind']
                have h3 : (underlying t).runT P w es = (.ok (.struct fs) w, es) := by
                  unfold underlying
                  show (Sem.bind _ _).runT P w es = _
                  rw [Sem.runT_bind']
                  simp only [program, Sem.runT, hu]; rfl
                simp only [h3]
                rfl
              rw [h2]
              rfl
theorem o_inv {name : String} {xt f : Nat} {x : Operand} {args : Array Operand} {ats : Array TypeId} {vs : List Value} {v w : Value} (hw : wantL ops l t g = some true) (hd : Nat.blt d n = true) (hx : evL l t x = some (.iface xt v)) (ha : evLs l t args.toList = some vs) [hm : Meth xt name f]
    (hr : CallW Tryz.prog E f (#[v] ++ vs.toArray) S fun r S' => r = w ∧ S' = S)
    (h : OpF Tryz.prog E fn n ops sq rest K (den ((d, w) :: l) t) ds Z S) : OpX Tryz.prog E fn n ops sq i z rest ⟨some d, .call { callee := .invoke x name, args := args, argTypes := ats }, ty, pos, af, g⟩ K (den l t) ds Zi Z S := by
  refine o_A rfl (R := fun r S' => r = w ∧ S' = S) ⟨hd, .inr ⟨wantL_ok (o := ⟨some d, .call { callee := .invoke x name, args := args, argTypes := ats }, ty, pos, af, g⟩) hw, rfl, rfl, .inr (.inl ⟨f, #[v] ++ vs.toArray, fun w => ?_, hr⟩)⟩⟩ ?_
  · unfold execOp
    simp only [resolve, evL_eq hx]
    show (Sem.bind _ _).runT Tryz.prog w #[] = _
    rw [Sem.runT_bind']
    have e : Array.map (ev (den l t)) args = vs.toArray := by
      have := evLs_eq ha
      rw [← this]; apply Array.ext'; simp
    simp only [pure, Sem.runT, invoke, e]
    have e1 : (#[Value.iface xt v] ++ vs.toArray)[0]? = some (.iface xt v) := by simp
    simp only [e1]
    have e2 : (#[Value.iface xt v] ++ vs.toArray).extract 1 (#[Value.iface xt v] ++ vs.toArray).size = vs.toArray := by
      apply Array.ext'; simp
    rw [e2]
    unfold callMethod
    show (Sem.bind _ _).runT Tryz.prog w #[] = _
    rw [Sem.runT_bind']
    simp only [program, Sem.runT]
    show (Sem.bind _ _).runT Tryz.prog w #[] = _
    rw [Sem.runT_bind']
    obtain ⟨k, hk⟩ := depth_succ Tryz.prog.types.size
    rw [hk, run_method hm.h]
    exact run_callFunc hr.1 _ w #[]
  · rintro _ _ ⟨rfl, rfl⟩
    exact ⟨Z, fun _ hz => ⟨fun _ => List.Sublist.refl _, hz⟩, h⟩
theorem o_quoN {t1 t2 : TypeId} {x y : Operand} {a b : Int} (hw : wantL ops l t g = some true) (hd : Nat.blt d n = true) (hx : evL l t x = some (.int .i64 a)) (hy : evL l t y = some (.int .i64 b)) (hb : 0 < b)
    (h1 : 0 ≤ a ∧ a ≤ 9223372036854775807) (h : OpF Tryz.prog E fn n ops sq rest K (den ((d, .int .i64 (a / b)) :: l) t) ds Z S) : OpX Tryz.prog E fn n ops sq i z rest ⟨some d, .binOp .quo t1 x y t2, ty, pos, af, g⟩ K (den l t) ds Zi Z S := by
  have e : a.tdiv b = a / b := Int.tdiv_eq_ediv_of_nonneg h1.1
  have h2 : 0 ≤ a / b := Int.ediv_nonneg h1.1 (by omega)
  have h3 : a / b ≤ a := Int.ediv_le_self _ h1.1
  exact o_quo hw hd hx hy (by omega) (by rw [e]; omega) (by rw [e]; exact h)
def bldO (places : List (Nat × Nat)) : List (Nat × Value) → List Value → Option (List Value)
  | [], c => some c
  | (i, v) :: ps, c => match places[i]? with
    | some (off, sz) => bif Nat.beq v.cells.toList.length sz then (match setO off v.cells.toList c with
      | some c' => bldO places ps c'
      | none => none) else none
    | none => none
theorem zipIdx_set (off : Nat) : ∀ (vs : List Value) (k : Nat) (c : Array Value), (vs.zipIdx k).foldl (fun cs (x : Value × Nat) => cs.setIfInBounds (off + x.2) x.1) c = setCells c (off + k) vs
  | [], k, c => rfl
  | v :: vs, k, c => by
    simp only [List.zipIdx_cons, List.foldl_cons, setCells]
    rw [zipIdx_set off vs (k + 1)]
    rfl
theorem bldO_ok {pl : Nat → Option (Nat × Nat)} {places : List (Nat × Nat)} (hp : ∀ i, pl i = places[i]?) : ∀ {ps : List (Nat × Value)} {c : Array Value} {r : List Value}, bldO places ps c.toList = some r → Instr.fill pl c ps = some r.toArray
  | [], c, r, h => by cases h; simp [Instr.fill]
  | (i, v) :: ps, c, r, h => by
    unfold bldO at h
    unfold Instr.fill
    rw [hp]
    cases hpl : places[i]? with
    | none => simp [hpl] at h
    | some q =>
      obtain ⟨off, sz⟩ := q
      simp only [hpl] at h ⊢
      cases hs : Nat.beq v.cells.toList.length sz with
      | false => simp only [hs, cond_false] at h; cases h
      | true =>
        simp only [hs, cond_true] at h
        have hs' := Nat.eq_of_beq_eq_true hs
        simp only [Array.length_toList] at hs'
        cases ho : setO off v.cells.toList c.toList with
        | none => simp [ho] at h
        | some c' =>
          simp only [ho] at h
          obtain ⟨h1, h2⟩ := setO_ok ho
          simp only [Array.length_toList] at h2
          rw [if_neg (by simp [hs']; omega)]
          have e : v.cells.zipIdx.foldl (fun cs (c, j) => cs.setIfInBounds (off + j) c) c = c'.toArray := by
            rw [← setCells_setO ho, ← Array.foldl_toList, Array.toList_zipIdx]
            have := zipIdx_set off v.cells.toList 0 c
            simpa using this
          rw [e]
          exact bldO_ok hp (by simpa using h)
theorem semH_places {P : Program} {m : Mode} {S : Ents} (fs : Array Field) {ps : List (Nat × Nat)} {R : Array (Nat × Nat) → Ents → Prop} (h : (fs.toList.mapM fun f => (tyk P f.type).map fun k => (f.offset, k.2)) = some ps) (hR : R ps.toArray S) :
    SemH P m (fs.mapM fun f => do pure (f.offset, ← sizeOf f.type)) S R := by
  have hm : ∀ (l : List Field) (ps : List (Nat × Nat)) (R : List (Nat × Nat) → Ents → Prop), (l.mapM fun f => (tyk P f.type).map fun k => (f.offset, k.2)) = some ps → R ps S → SemH P m (l.mapM fun f => do pure (f.offset, ← sizeOf f.type)) S R := by
    intro l
    induction l with
    | nil => intro ps R h hR; simp at h; subst h; simp only [List.mapM_nil]; exact semH_pure hR
    | cons f l ih =>
      intro ps R h hR
      simp only [List.mapM_cons] at h ⊢
      cases hk : tyk P f.type with
      | none => simp [hk] at h
      | some k =>
        cases hr : l.mapM fun f => (tyk P f.type).map fun k => (f.offset, k.2) with
        | none => simp [hk, hr] at h
        | some ps' =>
          simp [hk, hr] at h
          subst h
          exact semH_bind (semH_bind (semH_sizeOf hk (semH_pure (semH_bind (ih ps' _ hr (semH_pure hR))))))
  rw [Array.mapM_eq_mapM_toList]
  refine semH_of (s' := do pure (← fs.toList.mapM fun f => (do pure (f.offset, ← sizeOf f.type) : Sem (Nat × Nat))).toArray) rfl ?_
  exact semH_bind (hm _ _ _ h (semH_pure hR))
theorem semH_build {P : Program} {m : Mode} {S : Ents} {bt : TypeId} {parts : Array (Nat × Value)} {vs : List (Nat × Value)} {places : List (Nat × Nat)} {cs : Array Value} {r : List Value} {R : Value → Ents → Prop} (ep : parts.toList = vs) (hst : stplaces P bt = some places) (hz : zeroOf P bt = some cs) (hb : bldO places vs cs.toList = some r) (hR : R (.agg r.toArray) S) :
    SemH P m (Instr.build bt parts) S R := by
  unfold Instr.build
  refine semH_bind (semH_zero hz fun v hv => ?_)
  unfold stplaces at hst
  cases hu : P.underlying bt with
  | none => simp [hu] at hst
  | some D =>
    refine semH_bind (semH_underlying hu ?_)
    cases D <;> simp only [hu] at hst <;> try (cases hst; done)
    case struct fs =>
      simp only
      refine semH_bind (semH_places fs hst ?_)
      rw [ep]
      have hfill := bldO_ok (pl := (places.toArray[·]?)) (places := places) (fun i => by simp) (c := v.cells) (by rw [hv]; exact hb)
      rw [hfill]
      exact semH_pure hR
    case array nn e =>
      cases hk : tyk P e with
      | none => simp [hk] at hst
      | some k =>
        simp only [hk, Option.map_some, Option.some.injEq] at hst
        simp only
        refine semH_bind (semH_sizeOf hk ?_)
        have hgen : ∀ (ps : List (Nat × Value)) (c : Array Value) (r : List Value), bldO places ps c.toList = some r → Instr.fill (fun i => some (i * k.2, k.2)) c ps = some r.toArray := by
          intro ps
          induction ps with
          | nil => intro c r h; cases h; simp [Instr.fill]
          | cons p ps ih =>
            intro c r h
            obtain ⟨i, v⟩ := p
            unfold bldO at h
            unfold Instr.fill
            cases hpl : places[i]? with
            | none => simp [hpl] at h
            | some q =>
              have hq : q = (i * k.2, k.2) := by
                rw [← hst] at hpl
                simp only [List.getElem?_map] at hpl
                cases hr : (List.range nn)[i]? with
                | none => simp [hr] at hpl
                | some j =>
                  have : j = i := by
                    rw [List.getElem?_range] at hr
                    · exact (Option.some.inj hr).symm
                    · rcases Nat.lt_or_ge i nn with h | h
                      · exact h
                      · rw [List.getElem?_eq_none (by simpa using h)] at hr; cases hr
                  subst this
                  simpa [hr] using hpl.symm
              subst hq
              have h0 := bldO_ok (pl := fun x => if x = i then some (i * k.2, k.2) else none) (places := places) (ps := []) (c := c) (r := c.toList)
              simp only [hpl] at h ⊢
              cases hs : Nat.beq v.cells.toList.length k.2 with
              | false => simp only [hs, cond_false] at h; cases h
              | true =>
                simp only [hs, cond_true] at h
                have hs' := Nat.eq_of_beq_eq_true hs
                simp only [Array.length_toList] at hs'
                cases ho : setO (i * k.2) v.cells.toList c.toList with
                | none => simp [ho] at h
                | some c' =>
                  simp only [ho] at h
                  obtain ⟨h1, h2⟩ := setO_ok ho
                  simp only [Array.length_toList] at h2
                  rw [if_neg (by simp [hs']; omega)]
                  have e : v.cells.zipIdx.foldl (fun cs (c, j) => cs.setIfInBounds (i * k.2 + j) c) c = c'.toArray := by
                    rw [← setCells_setO ho, ← Array.foldl_toList, Array.toList_zipIdx]
                    have := zipIdx_set (i * k.2) v.cells.toList 0 c
                    simpa using this
                  rw [e]
                  exact ih _ _ (by simpa using h)
        rw [ep]
        have hfill := hgen vs v.cells r (by rw [hv]; exact hb)
        rw [hfill]
        exact semH_pure hR
theorem o_build {bt : TypeId} {parts : Array (Nat × Operand)} {vs : List (Nat × Value)} {places : List (Nat × Nat)} {cs : Array Value} {r : List Value} (hw : wantL ops l t g = some true) (hd : Nat.blt d n = true) (hx : evPs l t parts.toList = some vs) (hp : lk1 stT bt = some places) [hz : Zo bt cs]
    (hb : bldO places vs cs.toList = some r) (h : OpF Tryz.prog E fn n ops sq rest K (den ((d, .agg r.toArray) :: l) t) ds Z S) : OpX Tryz.prog E fn n ops sq i z rest ⟨some d, .build bt parts, ty, pos, af, g⟩ K (den l t) ds Zi Z S := by
  refine o_V rfl (vop_of hw hd rfl rfl fun S hS => ?_) h
  refine semH_bind (?_ : SemH Tryz.prog E.m (Instr.build bt (parts.map fun (i, x) => (i, ev (den l t) x))) S _)
  exact semH_build (by rw [← evPs_eq hx]; simp) (stT_ok hp) hz.h hb (semH_pure ⟨_, .inl rfl, rfl, rfl⟩)
theorem o_indexK (j : Nat) {ty' e sz b off len : Nat} {a : Bool} {x y : Operand} {k : IntKind} (hw : wantL ops l t g = some true) (hd : Nat.blt d n = true) (hs : lk1 arT ty' = some (len, e)) [hk : Tyk e (a, sz)]
    (hx : evL l t x = some (.pointer (some ⟨b, off, none⟩))) (hy : evL l t y = some (.int k (j : Int))) (hj : Nat.blt j len = true)
    (h : OpF Tryz.prog E fn n ops sq rest K (den ((d, .pointer (some ⟨b, off + j * sz, none⟩)) :: l) t) ds Z S) : OpX Tryz.prog E fn n ops sq i z rest ⟨some d, .indexAddr ty' x y, ty, pos, af, g⟩ K (den l t) ds Zi Z S :=
  o_indexA hw hd hs hx hy (by simp [Nat.blt] at hj; omega) (by rw [ix_eq, Nat.add_zero]; exact h)
inductive Res (S : Ents) (l : TL) (t : Tm) : List ResultVar → List Value → Prop
  | nil : Res S l t [] []
  | tmp {r : Nat} {v : Value} {rs : List ResultVar} {vs : List Value} : lk l t r = some v → Res S l t rs vs → Res S l t (.tmp r :: rs) (v :: vs)
  | cell {r ty s b off : Nat} {a mn : Bool} {c : Array Value} {tb : TypeId} {fz : Nat × Nat} {v : Value} {rs : List ResultVar} {vs : List Value} : lk l t r = some (.pointer (some ⟨b, off, none⟩)) → [Tyk ty (a, s)] → [InS b S mn (.cells c tb fz)] → rdv a off s c.toList = some v → Res S l t rs vs → Res S l t (.cell r ty :: rs) (v :: vs)
def pack : List Value → Value
  | [v] => v
  | vs => .tuple vs.toArray
def resF (t : Tm) : ResultVar → Sem Value
  | .tmp r => pure (t r)
  | .cell a ty => do loadVar ty (← asAddr (t a))
theorem resultsT_eq (rs : Array ResultVar) (t : Tm) : resultsT rs t = (do let vs ← rs.mapM (resF t); pure (if h : vs.size = 1 then vs[0] else .tuple vs)) := rfl
theorem res_sem {rs : Array ResultVar} {vs : List Value} {m : Mode} {R : Value → Ents → Prop} (h : Res S l t rs.toList vs) (hR : R (pack vs) S) : SemH Tryz.prog m (resultsT rs (den l t)) S R := by
  rw [resultsT_eq]
  have key : ∀ (rs : List ResultVar) (vs : List Value), Res S l t rs vs → ∀ R' : List Value → Ents → Prop, R' vs S → SemH Tryz.prog m (rs.mapM (resF (den l t))) S R' := by
    intro rs vs h
    induction h with
    | nil => intro R' hR'; simp only [List.mapM_nil]; exact semH_pure hR'
    | tmp hv _ ih =>
      intro R' hR'
      simp only [List.mapM_cons]
      refine semH_bind (semH_pure (semH_bind (ih _ (semH_pure ?_))))
      rw [lk_eq hv]
      exact hR'
    | @cell r ty s b off a mn c tb fz v rs vs hv hk he hr _ ih =>
      intro R' hR'
      simp only [List.mapM_cons]
      refine semH_bind (semH_bind ?_)
      rw [lk_eq hv]
      refine semH_pure ?_
      unfold loadVar
      refine semH_bind (semH_isAgg hk.h ?_)
      cases a with
      | true =>
        simp only [rdv] at hr
        cases hp : ptO off s c.toList with
        | none => simp [hp] at hr
        | some q =>
          simp only [hp, Option.some.injEq] at hr
          subst hr
          obtain ⟨h1, h2⟩ := ptO_ok hp
          simp only [if_true]
          refine semH_bind (semH_sizeOf hk.h ?_)
          refine semH_bind (semH_loadCells he.h s 0 #[] (by simpa using h2) ?_)
          refine semH_pure (semH_bind (ih _ (semH_pure ?_)))
          have : (#[] ++ c.extract (off + 0) (off + 0 + s)) = q.toArray := by rw [h1, Nat.add_zero, ext_list]; simp
          rw [this]
          exact hR'
      | false =>
        have := g1O_ok hr
        simp only [Bool.false_eq_true, if_false]
        exact semH_load he.h rfl rfl rfl (by simpa using this) (semH_bind (ih _ (semH_pure hR')))
  rw [Array.mapM_eq_mapM_toList]
  refine semH_of (s' := do let vs ← (do pure (← rs.toList.mapM (resF (den l t))).toArray : Sem (Array Value)); pure (if h : vs.size = 1 then vs[0] else .tuple vs)) rfl ?_
  refine semH_bind (semH_bind (key _ _ h _ (semH_pure (semH_pure ?_))))
  cases vs with
  | nil => exact hR
  | cons v vs =>
    cases vs with
    | nil => exact hR
    | cons u us => simpa [pack] using hR
end
end Go.Proofs.YtpnnmklacialgaaGreat
namespace Go.Proofs.YtpnnmklacialgaaGreat
open Go.Conc
def catO (sz : Nat) : Nat → List (Nat × Value) → Option (List Value)
  | _, [] => some []
  | i, (j, v) :: ps => bif Nat.beq j i && Nat.beq v.cells.toList.length sz then (match catO sz (i + 1) ps with
    | some r => some (v.cells.toList ++ r)
    | none => none) else none
theorem fill_cat {sz : Nat} : ∀ (ps : List (Nat × Value)) (i : Nat) (c : Array Value) (r pre : List Value), catO sz i ps = some r → pre.length = i * sz → c.toList.take (i * sz) = pre → c.size = (i + ps.length) * sz →
    Instr.fill (fun i => some (i * sz, sz)) c ps = some (pre ++ r).toArray
  | [], i, c, r, pre, h, hp, ht, hc => by
    cases h
    simp only [List.length_nil, Nat.add_zero] at hc
    have : c.toList.take (i * sz) = c.toList := List.take_of_length_le (by simp [hc])
    rw [this] at ht
    simp only [Instr.fill, List.append_nil, ← ht]
  | (j, v) :: ps, i, c, r, pre, h, hp, ht, hc => by
    unfold catO at h
    cases hb : (Nat.beq j i && Nat.beq v.cells.toList.length sz) with
    | false => simp only [hb, cond_false] at h; cases h
    | true =>
      simp only [hb, cond_true] at h
      simp only [Bool.and_eq_true] at hb
      have hj := Nat.eq_of_beq_eq_true hb.1
      have hv := Nat.eq_of_beq_eq_true hb.2
      subst hj
      cases hr : catO sz (j + 1) ps with
      | none => simp [hr] at h
      | some r' =>
        simp only [hr, Option.some.injEq] at h
        subst h
        unfold Instr.fill
        simp only [Array.length_toList] at hv
        have hle : (j + 1) * sz ≤ c.size := by rw [hc]; exact Nat.mul_le_mul_right _ (by simp)
        rw [Nat.add_mul, Nat.one_mul] at hle
        simp only
        rw [if_neg (by simp [hv]; omega)]
        have e : v.cells.zipIdx.foldl (fun cs (c, k) => cs.setIfInBounds (j * sz + k) c) c = setCells c (j * sz) v.cells.toList := by
          rw [← Array.foldl_toList, Array.toList_zipIdx]
          have := zipIdx_set (j * sz) v.cells.toList 0 c
          simpa using this
        rw [e]
        have := fill_cat ps (j + 1) (setCells c (j * sz) v.cells.toList) r' (pre ++ v.cells.toList) hr (by simp [hp, hv, Nat.add_mul]) ?_ (by rw [setCells_size 0, hc]; simp; congr 1; omega)
        · rw [this, List.append_assoc]
        · apply List.ext_getElem?
          intro k
          rw [List.getElem?_take]
          simp only [Array.getElem?_toList, setCells_get, Array.length_toList, hv]
          split
          · rename_i hk
            rw [Nat.add_mul, Nat.one_mul] at hk
            by_cases h1 : j * sz ≤ k
            · rw [if_pos (by omega), List.getElem?_append_right (by omega), hp]; simp
            · rw [if_neg (by omega), List.getElem?_append_left (by omega), ← ht, List.getElem?_take_of_lt (by omega)]
              simp
          · rename_i hk
            rw [Nat.add_mul, Nat.one_mul] at hk
            rw [List.getElem?_eq_none]
            simp [hp, hv]; omega
theorem semH_buildSlice {P : Program} {m : Mode} {S : Ents} {t e sz by' len : Nat} {parts : Array (Nat × Value)} {cs : Array Value} {r : List Value} {R : Value → Ents → Prop} (hu : P.underlying t = some (.slice e)) (he : eb P e = some (sz, by')) (hz : zeroOf P e = some cs) (hlen : len = parts.toList.length) (hb : len * sz ≤ 2 ^ 24)
    (hc : catO sz 0 parts.toList = some r) (h : ∀ b, R (.slice (some ⟨b, 0, none⟩) len len) (⟨b, true, .cells r.toArray e (0, 0)⟩ :: S)) : SemH P m (Instr.buildSlice t len parts) S R := by
  unfold Instr.buildSlice
  refine semH_bind (semH_underlying hu ?_)
  simp only
  refine semH_bind (semH_sizeOf' he ?_)
  rw [if_neg (by omega)]
  have key : ∀ zero : Array Value, SemH P m (do
      let some cells := Instr.fill (fun i => some (i * sz, sz)) ((Array.range (len * sz)).map (zero[· % zero.size]!)) parts.toList
        | stuck "buildSlice: a part of the wrong size"
      pure (.slice (some (← newRow e cells)) len len)) S R := fun zero => by
    rw [fill_cat parts.toList 0 _ r [] hc (by simp) (by simp) (by simp [hlen])]
    unfold newRow
    exact semH_bind (semH_bind (semH_new fun b => semH_pure (semH_pure (by simpa using h b))))
  by_cases h0 : len * sz = 0
  · rw [if_pos h0]
    exact semH_bind (semH_pure (key _))
  · rw [if_neg h0]
    exact semH_bind (semH_zero hz fun v hv => semH_bind (semH_pure (key _)))
section
variable {E : Env} {fn n : Nat} {Q : Post} {K : Tm → List Deferred → Ents → Prop} {l : TL} {t : Tm} {ds : List Deferred} {S Z Zi : Ents} {ops : Array Oper} {i : Nat} {z : Bool} {rest : List (Nat × Bool)} {sq : Bool}
variable {d : Nat} {ty : TypeId} {pos : String} {af : Array Edge} {g : Option (Nat × Bool)}
theorem o_bslice {bt e len sz by' : Nat} {parts : Array (Nat × Operand)} {vs : List (Nat × Value)} {cs : Array Value} {r : List Value} (hw : wantL ops l t g = some true) (hd : Nat.blt d n = true) (hx : evPs l t parts.toList = some vs) (hs : lk1 slT bt = some e) [he : Eb e sz by'] [hz : Zo e cs]
    (hl : Nat.beq len vs.length = true) (hb : Nat.ble (len * sz) 1000 = true) (hc : catO sz 0 vs = some r)
    (h : ∀ b, OpF Tryz.prog E fn n ops sq rest K (den ((d, .slice (some ⟨b, 0, none⟩) len len) :: l) t) ds Z (⟨b, true, .cells r.toArray e (0, 0)⟩ :: S)) : OpX Tryz.prog E fn n ops sq i z rest ⟨some d, .buildSlice bt len parts, ty, pos, af, g⟩ K (den l t) ds Zi Z S := by
  refine o_A rfl (R := fun u S' => ∃ b, u = .slice (some ⟨b, 0, none⟩) len len ∧ S' = ⟨b, true, .cells r.toArray e (0, 0)⟩ :: S) (exec_of hw hd rfl rfl ?_) (by rintro _ _ ⟨b, rfl, rfl⟩; exact ⟨Z, fun _ hz => ⟨fun _ => List.Sublist.refl _, .cons _ hz⟩, h b⟩)
  have ep : (parts.map fun (i, x) => (i, ev (den l t) x)).toList = vs := by
    rw [← evPs_eq hx]; simp
  have hl' := Nat.eq_of_beq_eq_true hl
  have hb' := Nat.le_of_ble_eq_true hb
  refine semH_bind (?_ : SemH Tryz.prog E.m (Instr.buildSlice bt len (parts.map fun (i, x) => (i, ev (den l t) x))) S _)
  exact semH_buildSlice (slT_ok hs) he.h.1 hz.h (by rw [ep]; exact hl') (by omega) (by rw [ep]; exact hc) fun b => semH_pure ⟨_, .inl rfl, b, rfl, rfl⟩
theorem slv_one {α : Type} [En : Enc α] {b : Nat} {mn : Bool} {c : Array Value} {tb : TypeId} {fz : Nat × Nat} (hi : (⟨b, mn, .cells c tb fz⟩ : Ent) ∈ S) {xs : List α} (hc : c.toList = rowL xs) {cap : Nat} (hcap : xs.length ≤ cap) : SlV S (.slice (some ⟨b, 0, none⟩) xs.length cap) xs :=
  ⟨_, _, rfl, hcap, fun _ => ⟨rfl, mn, c, tb, fz, hi, isRow_of (l := []) (r := []) (by simpa using hc)⟩⟩
theorem len_room {a by' : Nat} (hb : by' ≤ 1000) (h : a ≤ 3999999) {α : Type} {u : α} : (a + [u].length) * by' ≤ 140737488355328 := by
  have h1 : (a + [u].length) * by' ≤ 4000000 * 1000 := Nat.mul_le_mul (by simp; omega) hb
  omega
theorem o_append1 {α : Type} [En : Enc α] {sT xT e e2 sz by' b : Nat} {x y : Operand} {xs : List α} (u : α) {Δ rs : Ents} {v : Value} {mn : Bool} {c : Array Value} {tb : TypeId} {fz : Nat × Nat} {cs : Array Value} (hw : wantL ops l t g = some true) (hd : Nat.blt d n = true) (hx : evL l t x = some v) (hy : evL l t y = some (.slice (some ⟨b, 0, none⟩) 1 1)) (hv : Own v xs Δ)
    [fr : FrS Δ S rs] [hi : InS b rs mn (.cells c tb fz)] (hc : c = En.enc u) (hlen : xs.length ≤ 3999999) (hs : lk1 slT sT = some e) (hs2 : lk1 slT xT = some e2) [he : Eb e sz by'] [hz : Zo e cs] (hcs : cs.size = sz) (hsz : En.sz = sz)
    (h : ∀ v' Δ', Own v' (xs ++ [u]) Δ' → KZ sq Z (Δ' ++ rs) ∧ OpF Tryz.prog E fn n ops sq rest K (den ((d, v') :: l) t) ds Z (Δ' ++ rs)) :
    OpX Tryz.prog E fn n ops sq i z rest ⟨some d, .call { callee := .builtin .append, args := #[x, y], argTypes := #[sT, xT] }, ty, pos, af, g⟩ K (den l t) ds Zi Z S := by
  subst hc
  exact o_append (ys := [u]) hw hd hx hy hv (fun _ _ => slv_one (xs := [u]) hi.h (by simp [rowL]) (Nat.le_refl _)) (len_room he.h.2.2 hlen) (fr := fr) hs hs2 (he := he) (hz := hz) hcs hsz h
end
theorem w_drop {P : Program} {E : Env} {fn n : Nat} {c : Code} {Q : Post} {t : Tm} {ds : List Deferred} {S : Ents} (S' : Ents) (hs : List.Sublist S' S) (h : WP P E fn n c Q t ds S') : WP P E fn n c Q t ds S := h.sub hs
end Go.Proofs.YtpnnmklacialgaaGreat
namespace Go.Proofs.YtpnnmklacialgaaGreat
open Go.Conc
def slVal (a : Option Addr) (sz l h m : Nat) : Value := .slice (if m = l then a else a.map (·.add (l * sz))) (h - l) (m - l)
section
variable {P : Program} {m : Mode} {S : Ents}
theorem semH_bound {x : Option Value} {v : Value} {k : IntKind} {y n : Nat} {code : BoundsCode} {R : Nat → Ents → Prop} (hv : v = .int k (n : Int)) (hn : n ≤ y) (h : R n S) : SemH P m (Instr.sliceBound v y code) S R := by
  subst hv
  unfold Instr.sliceBound
  refine semH_bind (semH_pure ?_)
  simp only
  rw [if_pos ⟨by omega, by omega⟩]
  exact semH_pure (by simpa using h)
theorem semH_slice {t e sz : Nat} {ag : Bool} {a : Option Addr} {len cap l h q : Nat} {lo hi mx : Option Value} {k k2 k3 : IntKind} {R : Value → Ents → Prop} (hu : P.underlying t = some (.slice e)) (hk : tyk P e = some (ag, sz))
    (hlo : lo = some (.int k (l : Int)) ∨ (lo = none ∧ l = 0)) (hhi : hi = some (.int k2 (h : Int)) ∨ (hi = none ∧ h = len ∧ mx = none)) (hmx : mx = some (.int k3 (q : Int)) ∨ (mx = none ∧ q = cap)) (h1 : l ≤ h) (h2 : h ≤ q) (h3 : q ≤ cap)
    (hR : R (slVal a sz l h q) S) : SemH P m (Instr.sliceAt t (.slice a len cap) lo hi mx) S R := by
  unfold Instr.sliceAt
  refine semH_bind (semH_underlying hu ?_)
  simp only
  unfold Instr.slice
  refine semH_bind (semH_underlying hu ?_)
  simp only
  have key : SemH P m (Instr.sliceBounds true len cap lo hi mx) S fun r S' => r = (l, h, q) ∧ S' = S := by
    unfold Instr.sliceBounds
    have fin : ∀ {R' : Nat × Nat × Nat → Ents → Prop}, R' (l, h, q) S → SemH P m (do
        let l ← match lo with
          | some v => Instr.sliceBound v h (if mx.isSome = true then .slice3C else .sliceB)
          | none => pure 0
        pure (l, h, q)) S R' := fun hR' => by
      rcases hlo with rfl | ⟨rfl, rfl⟩
      · exact semH_bind (semH_bound (x := none) rfl h1 (semH_pure hR'))
      · exact semH_bind (semH_pure (semH_pure hR'))
    rcases hmx with rfl | ⟨rfl, rfl⟩
    · refine semH_bind (semH_bound (x := none) rfl h3 ?_)
      rcases hhi with rfl | ⟨_, _, hx⟩
      · exact semH_bind (semH_bound (x := none) rfl h2 (fin ⟨rfl, rfl⟩))
      · cases hx
    · refine semH_bind (semH_pure ?_)
      rcases hhi with rfl | ⟨rfl, rfl, _⟩
      · exact semH_bind (semH_bound (x := none) rfl h2 (fin ⟨rfl, rfl⟩))
      · exact semH_bind (semH_pure (fin ⟨rfl, rfl⟩))
  refine semH_bind (semH_mono key ?_)
  rintro _ _ ⟨rfl, rfl⟩
  exact semH_bind (semH_sizeOf hk (semH_pure hR))
end
def evO (l : TL) (t : Tm) : Option Operand → Option (Option Value)
  | none => some none
  | some x => match evL l t x with
    | some v => some (some v)
    | none => none
theorem evO_eq {l : TL} {t : Tm} {x : Option Operand} {v : Option Value} (h : evO l t x = some v) : x.map (ev (den l t)) = v := by
  cases x with
  | none => exact Option.some.inj h
  | some x =>
    simp only [evO] at h
    cases hx : evL l t x with
    | none => simp [hx] at h
    | some w =>
      simp only [hx, Option.some.injEq] at h
      subst h
      simp [evL_eq hx]
section
variable {E : Env} {fn n : Nat} {Q : Post} {K : Tm → List Deferred → Ents → Prop} {l : TL} {t : Tm} {ds : List Deferred} {S Z Zi : Ents} {ops : Array Oper} {i : Nat} {z : Bool} {rest : List (Nat × Bool)} {sq : Bool}
variable {d : Nat} {ty : TypeId} {pos : String} {af : Array Edge} {g : Option (Nat × Bool)}
theorem o_slice (lo' hi' mx' : Nat) {st e sz len cap : Nat} {ag : Bool} {a : Option Addr} {x : Operand} {lo hi mx : Option Operand} {vl vh vm : Option Value} (hw : wantL ops l t g = some true) (hd : Nat.blt d n = true) (hs : lk1 slT st = some e) [hk : Tyk e (ag, sz)]
    (hx : evL l t x = some (.slice a len cap)) (hl : evO l t lo = some vl) (hh : evO l t hi = some vh) (hm : evO l t mx = some vm) (hlo : vl = some (.int .i64 (lo' : Int)) ∨ (vl = none ∧ lo' = 0)) (hhi : vh = some (.int .i64 (hi' : Int)) ∨ (vh = none ∧ hi' = len ∧ vm = none)) (hmx : vm = some (.int .i64 (mx' : Int)) ∨ (vm = none ∧ mx' = cap))
    (h1 : lo' ≤ hi') (h2 : hi' ≤ mx') (h3 : mx' ≤ cap)
    (h : OpF Tryz.prog E fn n ops sq rest K (den ((d, slVal a sz lo' hi' mx') :: l) t) ds Z S) : OpX Tryz.prog E fn n ops sq i z rest ⟨some d, .slice st x lo hi mx, ty, pos, af, g⟩ K (den l t) ds Zi Z S := by
  refine o_V rfl (vop_of hw hd rfl rfl fun S hS => ?_) h
  refine semH_bind (?_ : SemH Tryz.prog E.m (Instr.sliceAt st (ev (den l t) x) (lo.map (ev (den l t))) (hi.map (ev (den l t))) (mx.map (ev (den l t)))) S _)
  rw [evL_eq hx, evO_eq hl, evO_eq hh, evO_eq hm]
  exact semH_slice (k := .i64) (k2 := .i64) (k3 := .i64) (slT_ok hs) hk.h hlo hhi hmx h1 h2 h3 (semH_pure ⟨_, .inl rfl, rfl, rfl⟩)
end
theorem op_eqNil {P : Program} {m : Mode} {S : Ents} {ρ : Operand → Value} {d : Option Tmp} {op : BinOp} {t e t2 : TypeId} {pos : String} {t' : TypeId} {af : Array Edge} {g : Option (Nat × Bool)} {x y : Operand} {a : Option Addr} {len cap : Nat} {R : Value → Ents → Prop}
    (hop : op = .eql) (hu : P.underlying t = some (.slice e)) (hx : ρ x = .slice a len cap) (hy : ρ y = .slice none 0 0) (h : R (.bool a.isNone) S) : OpH P m ⟨d, .binOp op t x y t2, t', pos, af, g⟩ ρ S R := by
  subst hop
  refine semH_bind (?_ : SemH P m (do eqGuard .eql t x y (ρ x) (ρ y); binOp .eql t (ρ x) (ρ y)) S _)
  rw [hx, hy]
  have hg : ∀ R' : Unit → Ents → Prop, R' () S → SemH P m (eqGuard .eql t x y (.slice a len cap) (.slice none 0 0)) S R' := fun R' hR => by
    unfold eqGuard
    exact semH_pure hR
  refine semH_bind (hg _ ?_)
  simp only [binOp]
  refine semH_bind ?_
  unfold Op.equal Op.maxDepth Op.equalIn
  refine semH_bind (semH_underlying hu ?_)
  cases a with
  | none => exact semH_pure (semH_pure (semH_pure ⟨_, .inl rfl, h⟩))
  | some a => exact semH_pure (semH_pure (semH_pure ⟨_, .inl rfl, h⟩))
theorem o_eqNil {E : Env} {fn n : Nat} {K : Tm → List Deferred → Ents → Prop} {l : TL} {t : Tm} {ds : List Deferred} {S Z Zi : Ents} {ops : Array Oper} {i : Nat} {z : Bool} {rest : List (Nat × Bool)} {sq : Bool} {d : Nat} {ty : TypeId} {pos : String} {af : Array Edge} {g : Option (Nat × Bool)} {st e t2 : TypeId} {x y : Operand} {a : Option Addr} {len cap : Nat}
    (hw : wantL ops l t g = some true) (hd : Nat.blt d n = true) (hs : lk1 slT st = some e) (hx : evL l t x = some (.slice a len cap)) (hy : evL l t y = some (.slice none 0 0))
    (h : OpF Tryz.prog E fn n ops sq rest K (den ((d, .bool a.isNone) :: l) t) ds Z S) : OpX Tryz.prog E fn n ops sq i z rest ⟨some d, .binOp .eql st x y t2, ty, pos, af, g⟩ K (den l t) ds Zi Z S :=
  o_V rfl (vop_of hw hd rfl rfl fun S hS => op_eqNil rfl (slT_ok hs) (evL_eq hx) (evL_eq hy) ⟨rfl, rfl⟩) h
theorem IsRow.drop {α : Type} [En : Enc α] {c : Array Value} {off : Nat} {xs : List α} (h : IsRow c off xs) (l k : Nat) : IsRow c (off + l * En.sz) ((xs.drop l).take k) := by
  intro i hi j hj
  simp only [List.length_take, List.length_drop] at hi
  have := h (l + i) (by omega) j hj
  rw [Nat.add_mul] at this
  rw [show off + l * En.sz + i * En.sz + j = off + (l * En.sz + i * En.sz) + j by omega, this]
  simp
theorem SlV.slice {α : Type} [En : Enc α] {S : Ents} {a : Option Addr} {len cap : Nat} {xs : List α} (h : SlV S (.slice a len cap) xs) {l hi q : Nat} (h1 : l ≤ hi) (h2 : hi ≤ len) (h3 : hi ≤ q) : SlV S (slVal a En.sz l hi q) ((xs.drop l).take (hi - l)) := by
  obtain ⟨a', cap', e, hcap, hr⟩ := h
  cases e
  have hlen : ((xs.drop l).take (hi - l)).length = hi - l := by simp; omega
  refine ⟨_, _, by unfold slVal; rw [hlen], by omega, fun hpos => ?_⟩
  rw [hlen] at hpos
  obtain ⟨ea, mn, c, ty, fz, hm, hrow⟩ := hr (by omega)
  have hq : q ≠ l := by omega
  rw [if_neg hq]
  obtain ⟨b, off, sp⟩ : ∃ b off, a = some ⟨b, off, none⟩ := ⟨_, _, ea⟩
  subst sp
  simp only [Option.map_some, add_mk]
  exact ⟨trivial, mn, c, ty, fz, hm, hrow.drop l _⟩
end Go.Proofs.YtpnnmklacialgaaGreat
namespace Go.Proofs.YtpnnmklacialgaaGreat
open Go.Conc
theorem mixed : Tryz.prog.follows .mixedOrders = true := by kernel_rfl
section
variable {E : Env} {fn n : Nat} {Q : Post} {K : Tm → List Deferred → Ents → Prop} {l : TL} {t : Tm} {ds : List Deferred} {S Z Zi : Ents} {ops : Array Oper} {i : Nat} {z : Bool} {rest : List (Nat × Bool)} {sq : Bool} {P : Program}
theorem o_split {o : Oper} {g d : Nat} {w b : Bool} (hg : o.guard = some (g, w)) (hd : (ops[g]?).bind (·.dst) = some d) (hb : lk l t d = some (.bool b))
    (h1 : b = true → OpX P E fn n ops sq i z rest o K (den ((d, .bool true) :: l) t) ds Zi Z S) (h2 : b = false → OpX P E fn n ops sq i z rest o K (den ((d, .bool false) :: l) t) ds Zi Z S) : OpX P E fn n ops sq i z rest o K (den l t) ds Zi Z S :=
  t_split (M := fun t => OpX P E fn n ops sq i z rest o K t ds Zi Z S) d hb h1 h2
theorem o_splitD {o : Oper} {g d : Nat} {w : Bool} {p : Prop} [Decidable p] (hg : o.guard = some (g, w)) (hd : (ops[g]?).bind (·.dst) = some d) (hb : lk l t d = some (.bool (decide p)))
    (h1 : p → OpX P E fn n ops sq i z rest o K (den ((d, .bool true) :: l) t) ds Zi Z S) (h2 : ¬ p → OpX P E fn n ops sq i z rest o K (den ((d, .bool false) :: l) t) ds Zi Z S) : OpX P E fn n ops sq i z rest o K (den l t) ds Zi Z S :=
  o_split hg hd hb (fun h => h1 (of_decide_eq_true h)) fun h => h2 (of_decide_eq_false h)
theorem o_splitP {d c : Nat} {x y : Operand} {ty : TypeId} {pos : String} {af : Array Edge} {g : Option (Nat × Bool)} {b : Bool} (hb : lk l t c = some (.bool b))
    (h1 : b = true → OpX P E fn n ops sq i z rest ⟨some d, .pick (.tmp c) x y, ty, pos, af, g⟩ K (den ((c, .bool true) :: l) t) ds Zi Z S) (h2 : b = false → OpX P E fn n ops sq i z rest ⟨some d, .pick (.tmp c) x y, ty, pos, af, g⟩ K (den ((c, .bool false) :: l) t) ds Zi Z S) : OpX P E fn n ops sq i z rest ⟨some d, .pick (.tmp c) x y, ty, pos, af, g⟩ K (den l t) ds Zi Z S :=
  t_split (M := fun t => OpX P E fn n ops sq i z rest ⟨some d, .pick (.tmp c) x y, ty, pos, af, g⟩ K t ds Zi Z S) c hb h1 h2
end
theorem w_condD {E : Env} {fn n : Nat} {l : TL} {t : Tm} {ds : List Deferred} {S : Ents} {Q : Post} {P : Program} {c : Operand} {x y : Code} {p : Prop} [Decidable p] (hc : evL l t c = some (.bool (decide p))) (h1 : p → WP P E fn n x Q (den l t) ds S) (h2 : ¬ p → WP P E fn n y Q (den l t) ds S) : WP P E fn n (.cond c x y) Q (den l t) ds S :=
  w_cond hc (fun h => h1 (of_decide_eq_true h)) fun h => h2 (of_decide_eq_false h)
class Sb (S' S : Ents) : Prop where h : List.Sublist S' S
instance sb_refl {S : Ents} : Sb S S := ⟨List.Sublist.refl _⟩
instance (priority := low) sb_cons {S' S : Ents} {e : Ent} [i : Sb S' S] : Sb S' (e :: S) := ⟨.cons _ i.h⟩
instance (priority := low) sb_app {S' S A : Ents} [i : Sb S' S] : Sb S' (A ++ S) := ⟨i.h.trans (List.sublist_append_right _ _)⟩
instance (priority := low) sb_both {S' S A : Ents} [i : Sb S' S] : Sb (A ++ S') (A ++ S) := ⟨List.Sublist.append_left i.h _⟩
instance (priority := low) sb_both1 {S' S : Ents} {e : Ent} [i : Sb S' S] : Sb (e :: S') (e :: S) := ⟨.cons_cons _ i.h⟩
theorem semH_less {P : Program} {m : Mode} {α : Type} {s : Sem α} {S S' : Ents} {R : α → Ents → Prop} {a : α} (h : SemH P m s S fun b S1 => b = a ∧ S1 = S) (hs : List.Sublist S' S) (hR : R a S') : SemH P m s S R := by
  intro F O w₀ w es hb hh he
  obtain ⟨b, w', es', S1, x1, x2, x3, x4, rfl, rfl⟩ := h F O w₀ w es hb hh he
  exact ⟨b, w', es', S', x1, x2, x3.sub (hs.append_right F), x4, hR⟩
instance sb_left {S A : Ents} : Sb A (A ++ S) := ⟨List.sublist_append_left _ _⟩
theorem w_ret {E : Env} {fn n : Nat} {l : TL} {t : Tm} {S : Ents} {Q : Post} {rs : Array ResultVar} {vs : List Value} {R : Value → Ents → Prop} (S' : Ents) [hs : Sb S' S] (hq : Q .ret = retQ Tryz.prog E.m rs R .ret) (hv : Res S l t rs.toList vs) (h : R (pack vs) S') : WP Tryz.prog E fn n .ret Q (den l t) [] S :=
  wp_ret (by rw [hq]; exact ⟨rfl, semH_less (res_sem hv ⟨rfl, rfl⟩) hs.h h⟩)
instance : Zo 185 #[.int .i64 0, .int .i64 0, .int .i64 0] := ⟨by kernel_rfl⟩
instance : Meth 159 "gasolier/gas.told" 227 := ⟨by kernel_rfl⟩
instance : Meth 183 "gasolier/gas.told" 228 := ⟨by kernel_rfl⟩
instance : Meth 186 "gasolier/gas.told" 229 := ⟨by kernel_rfl⟩
instance : Conc1 159 := ⟨by kernel_rfl⟩
instance : Conc1 183 := ⟨by kernel_rfl⟩
instance : Conc1 186 := ⟨by kernel_rfl⟩
instance : Eb 3 1 8 := ⟨by kernel_rfl, by decide, by decide⟩
instance : Eb 70 2 16 := ⟨by kernel_rfl, by decide, by decide⟩
instance : Eb 72 4 32 := ⟨by kernel_rfl, by decide, by decide⟩
instance : Eb 74 9 72 := ⟨by kernel_rfl, by decide, by decide⟩
instance : Eb 183 9 72 := ⟨by kernel_rfl, by decide, by decide⟩
instance : Eb 76 7 56 := ⟨by kernel_rfl, by decide, by decide⟩
instance : Eb 159 7 56 := ⟨by kernel_rfl, by decide, by decide⟩
instance : Eb 78 6 48 := ⟨by kernel_rfl, by decide, by decide⟩
instance : Eb 186 6 48 := ⟨by kernel_rfl, by decide, by decide⟩
instance : Eb 104 3 24 := ⟨by kernel_rfl, by decide, by decide⟩
instance : Eb 66 5 40 := ⟨by kernel_rfl, by decide, by decide⟩
instance : Eb 47 2 16 := ⟨by kernel_rfl, by decide, by decide⟩
instance : Eb 33 1 24 := ⟨by kernel_rfl, by decide, by decide⟩
instance : Eb 144 1 24 := ⟨by kernel_rfl, by decide, by decide⟩
structure RangeG where
  lo : Int
  hi : Int
  deriving DecidableEq
structure MainG where
  id : Int
  up : Int
  leak : RangeG
  deriving DecidableEq
structure UseG where
  source : Int
  main : Int
  period : Int
  minutes : RangeG
  rate : RangeG
  known : Int
  til : Int
  deriving DecidableEq
structure ReadG where
  source : Int
  main : Int
  period : Int
  volume : RangeG
  known : Int
  til : Int
  deriving DecidableEq
structure FaultG where
  source : Int
  main : Int
  period : Int
  many : Int
  known : Int
  til : Int
  deriving DecidableEq
structure PriceG where
  since : Int
  feet : Int
  fault : Int
  deriving DecidableEq
structure BillG where
  gas : Int
  penalty : Int
  deriving DecidableEq
structure PostG where
  known : Int
  main : Int
  period : Int
  gas : Int
  penalty : Int
  deriving DecidableEq
structure NetG where
  mains : List MainG
  uses : List UseG
  readings : List ReadG
  faults : List FaultG
  prices : List PriceG
  deriving DecidableEq
def iv (n : Int) : Value := .int .i64 n
def rangeC (x : RangeG) : Array Value := #[.int .i64 x.lo, .int .i64 x.hi]
def mainC (x : MainG) : Array Value := #[.int .i64 x.id, .int .i64 x.up, .int .i64 x.leak.lo, .int .i64 x.leak.hi]
def useC (x : UseG) : Array Value := #[.int .i64 x.source, .int .i64 x.main, .int .i64 x.period, .int .i64 x.minutes.lo, .int .i64 x.minutes.hi, .int .i64 x.rate.lo, .int .i64 x.rate.hi, .int .i64 x.known, .int .i64 x.til]
def readC (x : ReadG) : Array Value := #[.int .i64 x.source, .int .i64 x.main, .int .i64 x.period, .int .i64 x.volume.lo, .int .i64 x.volume.hi, .int .i64 x.known, .int .i64 x.til]
def faultC (x : FaultG) : Array Value := #[.int .i64 x.source, .int .i64 x.main, .int .i64 x.period, .int .i64 x.many, .int .i64 x.known, .int .i64 x.til]
def priceC (x : PriceG) : Array Value := #[.int .i64 x.since, .int .i64 x.feet, .int .i64 x.fault]
def billC (x : BillG) : Array Value := #[.int .i64 x.gas, .int .i64 x.penalty]
def postC (x : PostG) : Array Value := #[.int .i64 x.known, .int .i64 x.main, .int .i64 x.period, .int .i64 x.gas, .int .i64 x.penalty]
theorem one_of {c : Array Value} (h : (c.toList.all (·.oneCell')) = true) : ∀ v ∈ c.toList, v.oneCell' = true := List.all_eq_true.1 h
instance encRange : Enc RangeG := ⟨2, rangeC, by decide, fun _ => rfl, fun x => one_of rfl⟩
instance encMain : Enc MainG := ⟨4, mainC, by decide, fun _ => rfl, fun x => one_of rfl⟩
instance encUse : Enc UseG := ⟨9, useC, by decide, fun _ => rfl, fun x => one_of rfl⟩
instance encRead : Enc ReadG := ⟨7, readC, by decide, fun _ => rfl, fun x => one_of rfl⟩
instance encFault : Enc FaultG := ⟨6, faultC, by decide, fun _ => rfl, fun x => one_of rfl⟩
instance encPrice : Enc PriceG := ⟨3, priceC, by decide, fun _ => rfl, fun x => one_of rfl⟩
instance encBill : Enc BillG := ⟨2, billC, by decide, fun _ => rfl, fun x => one_of rfl⟩
instance encPost : Enc PostG := ⟨5, postC, by decide, fun _ => rfl, fun x => one_of rfl⟩
structure NetV (S : Ents) (a b c d e : Value) (n : NetG) : Prop where
  mains : SlV S a n.mains
  uses : SlV S b n.uses
  readings : SlV S c n.readings
  faults : SlV S d n.faults
  prices : SlV S e n.prices
  mains_le : n.mains.length ≤ 17592186044416
  uses_le : n.uses.length ≤ 17592186044416
  readings_le : n.readings.length ≤ 17592186044416
  faults_le : n.faults.length ≤ 17592186044416
  prices_le : n.prices.length ≤ 17592186044416
theorem NetV.app {S A : Ents} {a b c d e : Value} {n : NetG} (h : NetV S a b c d e n) : NetV (A ++ S) a b c d e n :=
  ⟨h.1.app, h.2.app, h.3.app, h.4.app, h.5.app, h.6, h.7, h.8, h.9, h.10⟩
theorem NetV.cons {S : Ents} {x : Ent} {a b c d e : Value} {n : NetG} (h : NetV S a b c d e n) : NetV (x :: S) a b c d e n :=
  ⟨h.1.cons, h.2.cons, h.3.cons, h.4.cons, h.5.cons, h.6, h.7, h.8, h.9, h.10⟩
def Fit (n : Int) : Prop := -9223372036854775808 ≤ n ∧ n ≤ 9223372036854775807
end Go.Proofs.YtpnnmklacialgaaGreat
