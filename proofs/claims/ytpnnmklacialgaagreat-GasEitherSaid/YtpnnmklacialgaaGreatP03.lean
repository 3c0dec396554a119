/- More rules: results, interfaces, struct literals, division.
   More rules: slice literals, appending one.
   More rules: slicing, making slices.
   Splits, returns, and the data.
   Small checks. -/
import Derived.Test.YtpnnmklacialgaaGreatP02
set_option linter.unusedVariables false
set_option linter.unusedSimpArgs false
namespace Go.Proofs.YtpnnmklacialgaaGreat
open Go.Conc

section
variable {E : Env} {fn n : Nat} {Q : Post} {K : Tm → List Deferred → Ents → Prop} {l : TL} {t : Tm} {ds : List Deferred} {S Z Zi : Ents} {ops : Array Oper} {i : Nat} {z : Bool} {rest : List (Nat × Bool)} {sq : Bool}
variable {d : Nat} {ty : TypeId} {pos : String} {af : Array Edge} {g : Option (Nat × Bool)}

/-- A call whose contract tells the value, and leaves what is known as it is. -/
theorem o_callF {f : FuncId} {args : Array Operand} {ats : Array TypeId} {vs : List Value} {v : Value} (hw : wantL ops l t g = some true) (hd : Nat.blt d n = true) (hx : evLs l t args.toList = some vs) (hr : CallW Tryz.prog E f vs.toArray S fun r S' => r = v ∧ S' = S)
    (h : OpF Tryz.prog E fn n ops sq rest K (den ((d, v) :: l) t) ds Z S) : OpX Tryz.prog E fn n ops sq i z rest ⟨some d, .call { callee := .value (.func f), args := args, argTypes := ats }, ty, pos, af, g⟩ K (den l t) ds Zi Z S := by
  refine o_A rfl (R := fun r S' => r = v ∧ S' = S) ⟨hd, .inr ⟨wantL_ok (o := ⟨some d, .call { callee := .value (.func f), args := args, argTypes := ats }, ty, pos, af, g⟩) hw, rfl, rfl, .inr (.inl ⟨f, vs.toArray, fun w => ?_, hr⟩)⟩⟩ ?_
  · unfold execOp
    simp only [resolve, ev, Deferred.ofValue]
    show (Sem.bind _ _).runT Tryz.prog w #[] = _
    rw [Sem.runT_bind']
    simp only [pure, Sem.runT, invoke]
    have e : (#[] ++ Array.map (ev (den l t)) args ++ #[] : Array Value) = vs.toArray := by
      have := evLs_eq hx
      rw [← this]; apply Array.ext'; simp
    rw [e]
    exact run_callFunc hr.1 _ w #[]
  · rintro _ _ ⟨rfl, rfl⟩
    exact ⟨Z, fun _ hz => ⟨fun _ => List.Sublist.refl _, hz⟩, h⟩
theorem o_callvF {f : FuncId} {x : Nat} {args : Array Operand} {ats : Array TypeId} {vs : List Value} {first captured : Array Value} {v : Value} (hw : wantL ops l t g = some true) (hd : Nat.blt d n = true) (hf : evL l t (.tmp x) = some (.func (.func f) first captured)) (hx : evLs l t args.toList = some vs)
    (hr : CallW Tryz.prog E f (first ++ vs.toArray ++ captured) S fun r S' => r = v ∧ S' = S)
    (h : OpF Tryz.prog E fn n ops sq rest K (den ((d, v) :: l) t) ds Z S) : OpX Tryz.prog E fn n ops sq i z rest ⟨some d, .call { callee := .value (.tmp x), args := args, argTypes := ats }, ty, pos, af, g⟩ K (den l t) ds Zi Z S := by
  refine o_A rfl (R := fun r S' => r = v ∧ S' = S) ⟨hd, .inr ⟨wantL_ok (o := ⟨some d, .call { callee := .value (.tmp x), args := args, argTypes := ats }, ty, pos, af, g⟩) hw, rfl, rfl, .inr (.inl ⟨f, first ++ vs.toArray ++ captured, fun w => ?_, hr⟩)⟩⟩ ?_
  · unfold execOp
    simp only [resolve, evL_eq hf, Deferred.ofValue]
    show (Sem.bind _ _).runT Tryz.prog w #[] = _
    rw [Sem.runT_bind']
    simp only [pure, Sem.runT, invoke]
    have e : (first ++ Array.map (ev (den l t)) args ++ captured : Array Value) = first ++ vs.toArray ++ captured := by
      have := evLs_eq hx
      rw [← this]; congr 2; apply Array.ext'; simp
    rw [e]
    exact run_callFunc hr.1 _ w #[]
  · rintro _ _ ⟨rfl, rfl⟩
    exact ⟨Z, fun _ hz => ⟨fun _ => List.Sublist.refl _, hz⟩, h⟩

def concT (P : Program) (t : Nat) : Bool := match P.underlying t with | some (.interface _) => false | some _ => true | none => false
class Conc1 (t : Nat) : Prop where h : concT Tryz.prog t = true
theorem o_iface {xt : TypeId} {x : Operand} {v : Value} (hw : wantL ops l t g = some true) (hd : Nat.blt d n = true) (hx : evL l t x = some v) [hc : Conc1 xt]
    (h : OpF Tryz.prog E fn n ops sq rest K (den ((d, .iface xt v) :: l) t) ds Z S) : OpX Tryz.prog E fn n ops sq i z rest ⟨some d, .makeInterface xt x, ty, pos, af, g⟩ K (den l t) ds Zi Z S := by
  refine o_A rfl (R := fun r S' => r = .iface xt v ∧ S' = S) (exec_of hw hd rfl rfl ?_) ?_
  · refine semH_bind (?_ : SemH Tryz.prog E.m (Instr.makeInterface xt (ev (den l t) x)) S _)
    rw [evL_eq hx]
    unfold Instr.makeInterface
    have hc := hc.h
    unfold concT at hc
    cases hu : Tryz.prog.underlying xt with
    | none => simp [hu] at hc
    | some D =>
      refine semH_bind (semH_underlying hu ?_)
      cases D <;> simp only [hu] at hc <;> first | (cases hc; done) | exact semH_pure (semH_pure ⟨_, .inl rfl, rfl, rfl⟩)
  · rintro _ _ ⟨rfl, rfl⟩
    exact ⟨Z, fun _ hz => ⟨fun _ => List.Sublist.refl _, hz⟩, h⟩

theorem depth_succ (n : Nat) : ∃ k, n + Made.depth = k + 1 := ⟨n + 99, rfl⟩
/-- The function behind a method of a type. -/
def methOf (P : Program) (t : Nat) (name : String) : Option Nat :=
  match P.underlying t, P.info? t with
  | some (.struct _), some i => match i.methods.find? (·.name == name) with
    | some m => bif m.path.isEmpty then (match m.func with | some (f, false) => some f | _ => none) else none
    | none => none
  | _, _ => none
class Meth (t : Nat) (name : String) (f : outParam Nat) : Prop where h : methOf Tryz.prog t name = some f

theorem run_method {P : Program} {t f k : Nat} {v : Value} {name : String} {w : World} {es : Array Event} (h : methOf P t name = some f) : (method (k + 1) t v name).runT P w es = (.ok (f, v) w, es) := by
  unfold methOf at h
  cases hu : P.underlying t with
  | none => simp [hu] at h
  | some D =>
    cases D <;> simp only [hu] at h <;> try (cases h; done)
    rename_i fs
    cases hi : P.info? t with
    | none => simp [hi] at h
    | some i =>
      simp only [hi] at h
      cases hm : i.methods.find? (·.name == name) with
      | none => simp [hm] at h
      | some m =>
        simp only [hm] at h
        cases hp : m.path.isEmpty with
        | false => simp [hp] at h
        | true =>
          simp only [hp, cond_true] at h
          have hp' : m.path.toList = [] := by simpa using hp
          cases hf : m.func with
          | none => simp [hf] at h
          | some q =>
            obtain ⟨f', b⟩ := q
            cases b with
            | true => simp [hf] at h
            | false =>
              simp only [hf, Option.some.injEq] at h
              subst h
              unfold method
              show (Sem.bind _ _).runT P w es = _
              rw [Sem.runT_bind']
              have h1 : (typeInfo t).runT P w es = (.ok i w, es) := by
                unfold typeInfo
                show (Sem.bind _ _).runT P w es = _
                rw [Sem.runT_bind']
                simp only [program, Sem.runT, hi]; rfl
              simp only [h1, hm, hp', follow]
              show (Sem.bind _ _).runT P w es = _
              rw [Sem.runT_bind']
              simp only [pure, Sem.runT, hf]
              show (Sem.bind _ _).runT P w es = _
              rw [Sem.runT_bind']
              have h2 : (receiverAt t (.val v) false (if m.path.isEmpty = true then some ((name.splitOn ".").getLastD name) else none)).runT P w es = (.ok v w, es) := by
                unfold receiverAt
                show (Sem.bind _ _).runT P w es = _
                rw [Sem.runT_bind']
                have h3 : (underlying t).runT P w es = (.ok (.struct fs) w, es) := by
                  unfold underlying
                  show (Sem.bind _ _).runT P w es = _
                  rw [Sem.runT_bind']
                  simp only [program, Sem.runT, hu]; rfl
                simp only [h3]
                rfl
              rw [h2]
              rfl

theorem o_inv {name : String} {xt f : Nat} {x : Operand} {args : Array Operand} {ats : Array TypeId} {vs : List Value} {v w : Value} (hw : wantL ops l t g = some true) (hd : Nat.blt d n = true) (hx : evL l t x = some (.iface xt v)) (ha : evLs l t args.toList = some vs) [hm : Meth xt name f]
    (hr : CallW Tryz.prog E f (#[v] ++ vs.toArray) S fun r S' => r = w ∧ S' = S)
    (h : OpF Tryz.prog E fn n ops sq rest K (den ((d, w) :: l) t) ds Z S) : OpX Tryz.prog E fn n ops sq i z rest ⟨some d, .call { callee := .invoke x name, args := args, argTypes := ats }, ty, pos, af, g⟩ K (den l t) ds Zi Z S := by
  refine o_A rfl (R := fun r S' => r = w ∧ S' = S) ⟨hd, .inr ⟨wantL_ok (o := ⟨some d, .call { callee := .invoke x name, args := args, argTypes := ats }, ty, pos, af, g⟩) hw, rfl, rfl, .inr (.inl ⟨f, #[v] ++ vs.toArray, fun w => ?_, hr⟩)⟩⟩ ?_
  · unfold execOp
    simp only [resolve, evL_eq hx]
    show (Sem.bind _ _).runT Tryz.prog w #[] = _
    rw [Sem.runT_bind']
    have e : Array.map (ev (den l t)) args = vs.toArray := by
      have := evLs_eq ha
      rw [← this]; apply Array.ext'; simp
    simp only [pure, Sem.runT, invoke, e]
    have e1 : (#[Value.iface xt v] ++ vs.toArray)[0]? = some (.iface xt v) := by simp
    simp only [e1]
    have e2 : (#[Value.iface xt v] ++ vs.toArray).extract 1 (#[Value.iface xt v] ++ vs.toArray).size = vs.toArray := by
      apply Array.ext'; simp
    rw [e2]
    unfold callMethod
    show (Sem.bind _ _).runT Tryz.prog w #[] = _
    rw [Sem.runT_bind']
    simp only [program, Sem.runT]
    show (Sem.bind _ _).runT Tryz.prog w #[] = _
    rw [Sem.runT_bind']
    obtain ⟨k, hk⟩ := depth_succ Tryz.prog.types.size
    rw [hk, run_method hm.h]
    exact run_callFunc hr.1 _ w #[]
  · rintro _ _ ⟨rfl, rfl⟩
    exact ⟨Z, fun _ hz => ⟨fun _ => List.Sublist.refl _, hz⟩, h⟩

theorem o_quoN {t1 t2 : TypeId} {x y : Operand} {a b : Int} (hw : wantL ops l t g = some true) (hd : Nat.blt d n = true) (hx : evL l t x = some (.int .i64 a)) (hy : evL l t y = some (.int .i64 b)) (hb : 0 < b)
    (h1 : 0 ≤ a ∧ a ≤ 9223372036854775807) (h : OpF Tryz.prog E fn n ops sq rest K (den ((d, .int .i64 (a / b)) :: l) t) ds Z S) : OpX Tryz.prog E fn n ops sq i z rest ⟨some d, .binOp .quo t1 x y t2, ty, pos, af, g⟩ K (den l t) ds Zi Z S := by
  have e : a.tdiv b = a / b := Int.tdiv_eq_ediv_of_nonneg h1.1
  have h2 : 0 ≤ a / b := Int.ediv_nonneg h1.1 (by omega)
  have h3 : a / b ≤ a := Int.ediv_le_self _ h1.1
  exact o_quo hw hd hx hy (by omega) (by rw [e]; omega) (by rw [e]; exact h)

/-! struct literals -/

def bldO (places : List (Nat × Nat)) : List (Nat × Value) → List Value → Option (List Value)
  | [], c => some c
  | (i, v) :: ps, c => match places[i]? with
    | some (off, sz) => bif Nat.beq v.cells.toList.length sz then (match setO off v.cells.toList c with
      | some c' => bldO places ps c'
      | none => none) else none
    | none => none

theorem zipIdx_set (off : Nat) : ∀ (vs : List Value) (k : Nat) (c : Array Value), (vs.zipIdx k).foldl (fun cs (x : Value × Nat) => cs.setIfInBounds (off + x.2) x.1) c = setCells c (off + k) vs
  | [], k, c => rfl
  | v :: vs, k, c => by
    simp only [List.zipIdx_cons, List.foldl_cons, setCells]
    rw [zipIdx_set off vs (k + 1)]
    rfl

theorem bldO_ok {pl : Nat → Option (Nat × Nat)} {places : List (Nat × Nat)} (hp : ∀ i, pl i = places[i]?) : ∀ {ps : List (Nat × Value)} {c : Array Value} {r : List Value}, bldO places ps c.toList = some r → Instr.fill pl c ps = some r.toArray
  | [], c, r, h => by cases h; simp [Instr.fill]
  | (i, v) :: ps, c, r, h => by
    unfold bldO at h
    unfold Instr.fill
    rw [hp]
    cases hpl : places[i]? with
    | none => simp [hpl] at h
    | some q =>
      obtain ⟨off, sz⟩ := q
      simp only [hpl] at h ⊢
      cases hs : Nat.beq v.cells.toList.length sz with
      | false => simp only [hs, cond_false] at h; cases h
      | true =>
        simp only [hs, cond_true] at h
        have hs' := Nat.eq_of_beq_eq_true hs
        simp only [Array.length_toList] at hs'
        cases ho : setO off v.cells.toList c.toList with
        | none => simp [ho] at h
        | some c' =>
          simp only [ho] at h
          obtain ⟨h1, h2⟩ := setO_ok ho
          simp only [Array.length_toList] at h2
          rw [if_neg (by simp [hs']; omega)]
          have e : v.cells.zipIdx.foldl (fun cs (c, j) => cs.setIfInBounds (off + j) c) c = c'.toArray := by
            rw [← setCells_setO ho, ← Array.foldl_toList, Array.toList_zipIdx]
            have := zipIdx_set off v.cells.toList 0 c
            simpa using this
          rw [e]
          exact bldO_ok hp (by simpa using h)

theorem semH_places {P : Program} {m : Mode} {S : Ents} (fs : Array Field) {ps : List (Nat × Nat)} {R : Array (Nat × Nat) → Ents → Prop} (h : (fs.toList.mapM fun f => (tyk P f.type).map fun k => (f.offset, k.2)) = some ps) (hR : R ps.toArray S) :
    SemH P m (fs.mapM fun f => do pure (f.offset, ← sizeOf f.type)) S R := by
  have hm : ∀ (l : List Field) (ps : List (Nat × Nat)) (R : List (Nat × Nat) → Ents → Prop), (l.mapM fun f => (tyk P f.type).map fun k => (f.offset, k.2)) = some ps → R ps S → SemH P m (l.mapM fun f => do pure (f.offset, ← sizeOf f.type)) S R := by
    intro l
    induction l with
    | nil => intro ps R h hR; simp at h; subst h; simp only [List.mapM_nil]; exact semH_pure hR
    | cons f l ih =>
      intro ps R h hR
      simp only [List.mapM_cons] at h ⊢
      cases hk : tyk P f.type with
      | none => simp [hk] at h
      | some k =>
        cases hr : l.mapM fun f => (tyk P f.type).map fun k => (f.offset, k.2) with
        | none => simp [hk, hr] at h
        | some ps' =>
          simp [hk, hr] at h
          subst h
          exact semH_bind (semH_bind (semH_sizeOf hk (semH_pure (semH_bind (ih ps' _ hr (semH_pure hR))))))
  rw [Array.mapM_eq_mapM_toList]
  refine semH_of (s' := do pure (← fs.toList.mapM fun f => (do pure (f.offset, ← sizeOf f.type) : Sem (Nat × Nat))).toArray) rfl ?_
  exact semH_bind (hm _ _ _ h (semH_pure hR))

theorem semH_build {P : Program} {m : Mode} {S : Ents} {bt : TypeId} {parts : Array (Nat × Value)} {vs : List (Nat × Value)} {places : List (Nat × Nat)} {cs : Array Value} {r : List Value} {R : Value → Ents → Prop} (ep : parts.toList = vs) (hst : stplaces P bt = some places) (hz : zeroOf P bt = some cs) (hb : bldO places vs cs.toList = some r) (hR : R (.agg r.toArray) S) :
    SemH P m (Instr.build bt parts) S R := by
  unfold Instr.build
  refine semH_bind (semH_zero hz fun v hv => ?_)
  unfold stplaces at hst
  cases hu : P.underlying bt with
  | none => simp [hu] at hst
  | some D =>
    refine semH_bind (semH_underlying hu ?_)
    cases D <;> simp only [hu] at hst <;> try (cases hst; done)
    case struct fs =>
      simp only
      refine semH_bind (semH_places fs hst ?_)
      rw [ep]
      have hfill := bldO_ok (pl := (places.toArray[·]?)) (places := places) (fun i => by simp) (c := v.cells) (by rw [hv]; exact hb)
      rw [hfill]
      exact semH_pure hR
    case array nn e =>
      cases hk : tyk P e with
      | none => simp [hk] at hst
      | some k =>
        simp only [hk, Option.map_some, Option.some.injEq] at hst
        simp only
        refine semH_bind (semH_sizeOf hk ?_)
        have hgen : ∀ (ps : List (Nat × Value)) (c : Array Value) (r : List Value), bldO places ps c.toList = some r → Instr.fill (fun i => some (i * k.2, k.2)) c ps = some r.toArray := by
          intro ps
          induction ps with
          | nil => intro c r h; cases h; simp [Instr.fill]
          | cons p ps ih =>
            intro c r h
            obtain ⟨i, v⟩ := p
            unfold bldO at h
            unfold Instr.fill
            cases hpl : places[i]? with
            | none => simp [hpl] at h
            | some q =>
              have hq : q = (i * k.2, k.2) := by
                rw [← hst] at hpl
                simp only [List.getElem?_map] at hpl
                cases hr : (List.range nn)[i]? with
                | none => simp [hr] at hpl
                | some j =>
                  have : j = i := by
                    rw [List.getElem?_range] at hr
                    · exact (Option.some.inj hr).symm
                    · rcases Nat.lt_or_ge i nn with h | h
                      · exact h
                      · rw [List.getElem?_eq_none (by simpa using h)] at hr; cases hr
                  subst this
                  simpa [hr] using hpl.symm
              subst hq
              have h0 := bldO_ok (pl := fun x => if x = i then some (i * k.2, k.2) else none) (places := places) (ps := []) (c := c) (r := c.toList)
              simp only [hpl] at h ⊢
              cases hs : Nat.beq v.cells.toList.length k.2 with
              | false => simp only [hs, cond_false] at h; cases h
              | true =>
                simp only [hs, cond_true] at h
                have hs' := Nat.eq_of_beq_eq_true hs
                simp only [Array.length_toList] at hs'
                cases ho : setO (i * k.2) v.cells.toList c.toList with
                | none => simp [ho] at h
                | some c' =>
                  simp only [ho] at h
                  obtain ⟨h1, h2⟩ := setO_ok ho
                  simp only [Array.length_toList] at h2
                  rw [if_neg (by simp [hs']; omega)]
                  have e : v.cells.zipIdx.foldl (fun cs (c, j) => cs.setIfInBounds (i * k.2 + j) c) c = c'.toArray := by
                    rw [← setCells_setO ho, ← Array.foldl_toList, Array.toList_zipIdx]
                    have := zipIdx_set (i * k.2) v.cells.toList 0 c
                    simpa using this
                  rw [e]
                  exact ih _ _ (by simpa using h)
        rw [ep]
        have hfill := hgen vs v.cells r (by rw [hv]; exact hb)
        rw [hfill]
        exact semH_pure hR


theorem o_build {bt : TypeId} {parts : Array (Nat × Operand)} {vs : List (Nat × Value)} {places : List (Nat × Nat)} {cs : Array Value} {r : List Value} (hw : wantL ops l t g = some true) (hd : Nat.blt d n = true) (hx : evPs l t parts.toList = some vs) (hp : lk1 stT bt = some places) [hz : Zo bt cs]
    (hb : bldO places vs cs.toList = some r) (h : OpF Tryz.prog E fn n ops sq rest K (den ((d, .agg r.toArray) :: l) t) ds Z S) : OpX Tryz.prog E fn n ops sq i z rest ⟨some d, .build bt parts, ty, pos, af, g⟩ K (den l t) ds Zi Z S := by
  refine o_V rfl (vop_of hw hd rfl rfl fun S hS => ?_) h
  refine semH_bind (?_ : SemH Tryz.prog E.m (Instr.build bt (parts.map fun (i, x) => (i, ev (den l t) x))) S _)
  exact semH_build (by rw [← evPs_eq hx]; simp) (stT_ok hp) hz.h hb (semH_pure ⟨_, .inl rfl, rfl, rfl⟩)

/-- A constant index of an array whose cells are told one by one. -/
theorem o_indexK (j : Nat) {ty' e sz b off len : Nat} {a : Bool} {x y : Operand} {k : IntKind} (hw : wantL ops l t g = some true) (hd : Nat.blt d n = true) (hs : lk1 arT ty' = some (len, e)) [hk : Tyk e (a, sz)]
    (hx : evL l t x = some (.pointer (some ⟨b, off, none⟩))) (hy : evL l t y = some (.int k (j : Int))) (hj : Nat.blt j len = true)
    (h : OpF Tryz.prog E fn n ops sq rest K (den ((d, .pointer (some ⟨b, off + j * sz, none⟩)) :: l) t) ds Z S) : OpX Tryz.prog E fn n ops sq i z rest ⟨some d, .indexAddr ty' x y, ty, pos, af, g⟩ K (den l t) ds Zi Z S :=
  o_indexA hw hd hs hx hy (by simp [Nat.blt] at hj; omega) (by rw [ix_eq, Nat.add_zero]; exact h)

/-! results -/

inductive Res (S : Ents) (l : TL) (t : Tm) : List ResultVar → List Value → Prop
  | nil : Res S l t [] []
  | tmp {r : Nat} {v : Value} {rs : List ResultVar} {vs : List Value} : lk l t r = some v → Res S l t rs vs → Res S l t (.tmp r :: rs) (v :: vs)
  | cell {r ty s b off : Nat} {a mn : Bool} {c : Array Value} {tb : TypeId} {fz : Nat × Nat} {v : Value} {rs : List ResultVar} {vs : List Value} : lk l t r = some (.pointer (some ⟨b, off, none⟩)) → [Tyk ty (a, s)] → [InS b S mn (.cells c tb fz)] → rdv a off s c.toList = some v → Res S l t rs vs → Res S l t (.cell r ty :: rs) (v :: vs)

def pack : List Value → Value
  | [v] => v
  | vs => .tuple vs.toArray

def resF (t : Tm) : ResultVar → Sem Value
  | .tmp r => pure (t r)
  | .cell a ty => do loadVar ty (← asAddr (t a))
theorem resultsT_eq (rs : Array ResultVar) (t : Tm) : resultsT rs t = (do let vs ← rs.mapM (resF t); pure (if h : vs.size = 1 then vs[0] else .tuple vs)) := rfl
theorem res_sem {rs : Array ResultVar} {vs : List Value} {m : Mode} {R : Value → Ents → Prop} (h : Res S l t rs.toList vs) (hR : R (pack vs) S) : SemH Tryz.prog m (resultsT rs (den l t)) S R := by
  rw [resultsT_eq]
  have key : ∀ (rs : List ResultVar) (vs : List Value), Res S l t rs vs → ∀ R' : List Value → Ents → Prop, R' vs S → SemH Tryz.prog m (rs.mapM (resF (den l t))) S R' := by
    intro rs vs h
    induction h with
    | nil => intro R' hR'; simp only [List.mapM_nil]; exact semH_pure hR'
    | tmp hv _ ih =>
      intro R' hR'
      simp only [List.mapM_cons]
      refine semH_bind (semH_pure (semH_bind (ih _ (semH_pure ?_))))
      rw [lk_eq hv]
      exact hR'
    | @cell r ty s b off a mn c tb fz v rs vs hv hk he hr _ ih =>
      intro R' hR'
      simp only [List.mapM_cons]
      refine semH_bind (semH_bind ?_)
      rw [lk_eq hv]
      refine semH_pure ?_
      unfold loadVar
      refine semH_bind (semH_isAgg hk.h ?_)
      cases a with
      | true =>
        simp only [rdv] at hr
        cases hp : ptO off s c.toList with
        | none => simp [hp] at hr
        | some q =>
          simp only [hp, Option.some.injEq] at hr
          subst hr
          obtain ⟨h1, h2⟩ := ptO_ok hp
          simp only [if_true]
          refine semH_bind (semH_sizeOf hk.h ?_)
          refine semH_bind (semH_loadCells he.h s 0 #[] (by simpa using h2) ?_)
          refine semH_pure (semH_bind (ih _ (semH_pure ?_)))
          have : (#[] ++ c.extract (off + 0) (off + 0 + s)) = q.toArray := by rw [h1, Nat.add_zero, ext_list]; simp
          rw [this]
          exact hR'
      | false =>
        have := g1O_ok hr
        simp only [Bool.false_eq_true, if_false]
        exact semH_load he.h rfl rfl rfl (by simpa using this) (semH_bind (ih _ (semH_pure hR')))
  rw [Array.mapM_eq_mapM_toList]
  refine semH_of (s' := do let vs ← (do pure (← rs.toList.mapM (resF (den l t))).toArray : Sem (Array Value)); pure (if h : vs.size = 1 then vs[0] else .tuple vs)) rfl ?_
  refine semH_bind (semH_bind (key _ _ h _ (semH_pure (semH_pure ?_))))
  cases vs with
  | nil => exact hR
  | cons v vs =>
    cases vs with
    | nil => exact hR
    | cons u us => simpa [pack] using hR
end
end Go.Proofs.YtpnnmklacialgaaGreat
namespace Go.Proofs.YtpnnmklacialgaaGreat
open Go.Conc

/-- Forced: the cells of parts 0, 1, .. -/
def catO (sz : Nat) : Nat → List (Nat × Value) → Option (List Value)
  | _, [] => some []
  | i, (j, v) :: ps => bif Nat.beq j i && Nat.beq v.cells.toList.length sz then (match catO sz (i + 1) ps with
    | some r => some (v.cells.toList ++ r)
    | none => none) else none

theorem catO_len {sz : Nat} : ∀ {ps : List (Nat × Value)} {i : Nat} {r : List Value}, catO sz i ps = some r → r.length = ps.length * sz
  | [], i, r, h => by cases h; simp
  | (j, v) :: ps, i, r, h => by
    unfold catO at h
    cases hb : (Nat.beq j i && Nat.beq v.cells.toList.length sz) with
    | false => simp only [hb, cond_false] at h; cases h
    | true =>
      simp only [hb, cond_true] at h
      simp only [Bool.and_eq_true] at hb
      cases hr : catO sz (i + 1) ps with
      | none => simp [hr] at h
      | some r' =>
        simp only [hr, Option.some.injEq] at h
        subst h
        have := catO_len hr
        have h2 := Nat.eq_of_beq_eq_true hb.2
        rw [List.length_append, this, h2, List.length_cons, Nat.add_mul, Nat.one_mul, Nat.add_comm]

theorem fill_cat {sz : Nat} : ∀ (ps : List (Nat × Value)) (i : Nat) (c : Array Value) (r pre : List Value), catO sz i ps = some r → pre.length = i * sz → c.toList.take (i * sz) = pre → c.size = (i + ps.length) * sz →
    Instr.fill (fun i => some (i * sz, sz)) c ps = some (pre ++ r).toArray
  | [], i, c, r, pre, h, hp, ht, hc => by
    cases h
    simp only [List.length_nil, Nat.add_zero] at hc
    have : c.toList.take (i * sz) = c.toList := List.take_of_length_le (by simp [hc])
    rw [this] at ht
    simp only [Instr.fill, List.append_nil, ← ht]
  | (j, v) :: ps, i, c, r, pre, h, hp, ht, hc => by
    unfold catO at h
    cases hb : (Nat.beq j i && Nat.beq v.cells.toList.length sz) with
    | false => simp only [hb, cond_false] at h; cases h
    | true =>
      simp only [hb, cond_true] at h
      simp only [Bool.and_eq_true] at hb
      have hj := Nat.eq_of_beq_eq_true hb.1
      have hv := Nat.eq_of_beq_eq_true hb.2
      subst hj
      cases hr : catO sz (j + 1) ps with
      | none => simp [hr] at h
      | some r' =>
        simp only [hr, Option.some.injEq] at h
        subst h
        unfold Instr.fill
        simp only [Array.length_toList] at hv
        have hle : (j + 1) * sz ≤ c.size := by rw [hc]; exact Nat.mul_le_mul_right _ (by simp)
        rw [Nat.add_mul, Nat.one_mul] at hle
        simp only
        rw [if_neg (by simp [hv]; omega)]
        have e : v.cells.zipIdx.foldl (fun cs (c, k) => cs.setIfInBounds (j * sz + k) c) c = setCells c (j * sz) v.cells.toList := by
          rw [← Array.foldl_toList, Array.toList_zipIdx]
          have := zipIdx_set (j * sz) v.cells.toList 0 c
          simpa using this
        rw [e]
        have := fill_cat ps (j + 1) (setCells c (j * sz) v.cells.toList) r' (pre ++ v.cells.toList) hr (by simp [hp, hv, Nat.add_mul]) ?_ (by rw [setCells_size 0, hc]; simp; congr 1; omega)
        · rw [this, List.append_assoc]
        · apply List.ext_getElem?
          intro k
          rw [List.getElem?_take]
          simp only [Array.getElem?_toList, setCells_get, Array.length_toList, hv]
          split
          · rename_i hk
            rw [Nat.add_mul, Nat.one_mul] at hk
            by_cases h1 : j * sz ≤ k
            · rw [if_pos (by omega), List.getElem?_append_right (by omega), hp]; simp
            · rw [if_neg (by omega), List.getElem?_append_left (by omega), ← ht, List.getElem?_take_of_lt (by omega)]
              simp
          · rename_i hk
            rw [Nat.add_mul, Nat.one_mul] at hk
            rw [List.getElem?_eq_none]
            simp [hp, hv]; omega

theorem semH_buildSlice {P : Program} {m : Mode} {S : Ents} {t e sz by' len : Nat} {parts : Array (Nat × Value)} {cs : Array Value} {r : List Value} {R : Value → Ents → Prop} (hu : P.underlying t = some (.slice e)) (he : eb P e = some (sz, by')) (hz : zeroOf P e = some cs) (hlen : len = parts.toList.length) (hb : len * sz ≤ 2 ^ 24)
    (hc : catO sz 0 parts.toList = some r) (h : ∀ b, R (.slice (some ⟨b, 0, none⟩) len len) (⟨b, true, .cells r.toArray e (0, 0)⟩ :: S)) : SemH P m (Instr.buildSlice t len parts) S R := by
  unfold Instr.buildSlice
  refine semH_bind (semH_underlying hu ?_)
  simp only
  refine semH_bind (semH_sizeOf' he ?_)
  rw [if_neg (by omega)]
  have key : ∀ zero : Array Value, SemH P m (do
      let some cells := Instr.fill (fun i => some (i * sz, sz)) ((Array.range (len * sz)).map (zero[· % zero.size]!)) parts.toList
        | stuck "buildSlice: a part of the wrong size"
      pure (.slice (some (← newRow e cells)) len len)) S R := fun zero => by
    rw [fill_cat parts.toList 0 _ r [] hc (by simp) (by simp) (by simp [hlen])]
    unfold newRow
    exact semH_bind (semH_bind (semH_new fun b => semH_pure (semH_pure (by simpa using h b))))
  by_cases h0 : len * sz = 0
  · rw [if_pos h0]
    exact semH_bind (semH_pure (key _))
  · rw [if_neg h0]
    exact semH_bind (semH_zero hz fun v hv => semH_bind (semH_pure (key _)))

section
variable {E : Env} {fn n : Nat} {Q : Post} {K : Tm → List Deferred → Ents → Prop} {l : TL} {t : Tm} {ds : List Deferred} {S Z Zi : Ents} {ops : Array Oper} {i : Nat} {z : Bool} {rest : List (Nat × Bool)} {sq : Bool}
variable {d : Nat} {ty : TypeId} {pos : String} {af : Array Edge} {g : Option (Nat × Bool)}

theorem o_bslice {bt e len sz by' : Nat} {parts : Array (Nat × Operand)} {vs : List (Nat × Value)} {cs : Array Value} {r : List Value} (hw : wantL ops l t g = some true) (hd : Nat.blt d n = true) (hx : evPs l t parts.toList = some vs) (hs : lk1 slT bt = some e) [he : Eb e sz by'] [hz : Zo e cs]
    (hl : Nat.beq len vs.length = true) (hb : Nat.ble (len * sz) 1000 = true) (hc : catO sz 0 vs = some r)
    (h : ∀ b, OpF Tryz.prog E fn n ops sq rest K (den ((d, .slice (some ⟨b, 0, none⟩) len len) :: l) t) ds Z (⟨b, true, .cells r.toArray e (0, 0)⟩ :: S)) : OpX Tryz.prog E fn n ops sq i z rest ⟨some d, .buildSlice bt len parts, ty, pos, af, g⟩ K (den l t) ds Zi Z S := by
  refine o_A rfl (R := fun u S' => ∃ b, u = .slice (some ⟨b, 0, none⟩) len len ∧ S' = ⟨b, true, .cells r.toArray e (0, 0)⟩ :: S) (exec_of hw hd rfl rfl ?_) (by rintro _ _ ⟨b, rfl, rfl⟩; exact ⟨Z, fun _ hz => ⟨fun _ => List.Sublist.refl _, .cons _ hz⟩, h b⟩)
  have ep : (parts.map fun (i, x) => (i, ev (den l t) x)).toList = vs := by
    rw [← evPs_eq hx]; simp
  have hl' := Nat.eq_of_beq_eq_true hl
  have hb' := Nat.le_of_ble_eq_true hb
  refine semH_bind (?_ : SemH Tryz.prog E.m (Instr.buildSlice bt len (parts.map fun (i, x) => (i, ev (den l t) x))) S _)
  exact semH_buildSlice (slT_ok hs) he.h.1 hz.h (by rw [ep]; exact hl') (by omega) (by rw [ep]; exact hc) fun b => semH_pure ⟨_, .inl rfl, b, rfl, rfl⟩

theorem slv_one {α : Type} [En : Enc α] {b : Nat} {mn : Bool} {c : Array Value} {tb : TypeId} {fz : Nat × Nat} (hi : (⟨b, mn, .cells c tb fz⟩ : Ent) ∈ S) {xs : List α} (hc : c.toList = rowL xs) {cap : Nat} (hcap : xs.length ≤ cap) : SlV S (.slice (some ⟨b, 0, none⟩) xs.length cap) xs :=
  ⟨_, _, rfl, hcap, fun _ => ⟨rfl, mn, c, tb, fz, hi, isRow_of (l := []) (r := []) (by simpa using hc)⟩⟩

theorem len_room {a by' : Nat} (hb : by' ≤ 1000) (h : a ≤ 3999999) {α : Type} {u : α} : (a + [u].length) * by' ≤ 140737488355328 := by
  have h1 : (a + [u].length) * by' ≤ 4000000 * 1000 := Nat.mul_le_mul (by simp; omega) hb
  omega
/-- One more element, told by a slice literal. -/
theorem o_append1 {α : Type} [En : Enc α] {sT xT e e2 sz by' b : Nat} {x y : Operand} {xs : List α} (u : α) {Δ rs : Ents} {v : Value} {mn : Bool} {c : Array Value} {tb : TypeId} {fz : Nat × Nat} {cs : Array Value} (hw : wantL ops l t g = some true) (hd : Nat.blt d n = true) (hx : evL l t x = some v) (hy : evL l t y = some (.slice (some ⟨b, 0, none⟩) 1 1)) (hv : Own v xs Δ)
    [fr : FrS Δ S rs] [hi : InS b rs mn (.cells c tb fz)] (hc : c = En.enc u) (hlen : xs.length ≤ 3999999) (hs : lk1 slT sT = some e) (hs2 : lk1 slT xT = some e2) [he : Eb e sz by'] [hz : Zo e cs] (hcs : cs.size = sz) (hsz : En.sz = sz)
    (h : ∀ v' Δ', Own v' (xs ++ [u]) Δ' → KZ sq Z (Δ' ++ rs) ∧ OpF Tryz.prog E fn n ops sq rest K (den ((d, v') :: l) t) ds Z (Δ' ++ rs)) :
    OpX Tryz.prog E fn n ops sq i z rest ⟨some d, .call { callee := .builtin .append, args := #[x, y], argTypes := #[sT, xT] }, ty, pos, af, g⟩ K (den l t) ds Zi Z S := by
  subst hc
  exact o_append (ys := [u]) hw hd hx hy hv (fun _ _ => slv_one (xs := [u]) hi.h (by simp [rowL]) (Nat.le_refl _)) (len_room he.h.2.2 hlen) (fr := fr) hs hs2 (he := he) (hz := hz) hcs hsz h
end

theorem w_drop {P : Program} {E : Env} {fn n : Nat} {c : Code} {Q : Post} {t : Tm} {ds : List Deferred} {S : Ents} (S' : Ents) (hs : List.Sublist S' S) (h : WP P E fn n c Q t ds S') : WP P E fn n c Q t ds S := h.sub hs
end Go.Proofs.YtpnnmklacialgaaGreat
namespace Go.Proofs.YtpnnmklacialgaaGreat
open Go.Conc

/-- What slicing yields. -/
def slVal (a : Option Addr) (sz l h m : Nat) : Value := .slice (if m = l then a else a.map (·.add (l * sz))) (h - l) (m - l)

section
variable {P : Program} {m : Mode} {S : Ents}
theorem semH_bound {x : Option Value} {v : Value} {k : IntKind} {y n : Nat} {code : BoundsCode} {R : Nat → Ents → Prop} (hv : v = .int k (n : Int)) (hn : n ≤ y) (h : R n S) : SemH P m (Instr.sliceBound v y code) S R := by
  subst hv
  unfold Instr.sliceBound
  refine semH_bind (semH_pure ?_)
  simp only
  rw [if_pos ⟨by omega, by omega⟩]
  exact semH_pure (by simpa using h)

theorem semH_slice {t e sz : Nat} {ag : Bool} {a : Option Addr} {len cap l h q : Nat} {lo hi mx : Option Value} {k k2 k3 : IntKind} {R : Value → Ents → Prop} (hu : P.underlying t = some (.slice e)) (hk : tyk P e = some (ag, sz))
    (hlo : lo = some (.int k (l : Int)) ∨ (lo = none ∧ l = 0)) (hhi : hi = some (.int k2 (h : Int)) ∨ (hi = none ∧ h = len ∧ mx = none)) (hmx : mx = some (.int k3 (q : Int)) ∨ (mx = none ∧ q = cap)) (h1 : l ≤ h) (h2 : h ≤ q) (h3 : q ≤ cap)
    (hR : R (slVal a sz l h q) S) : SemH P m (Instr.sliceAt t (.slice a len cap) lo hi mx) S R := by
  unfold Instr.sliceAt
  refine semH_bind (semH_underlying hu ?_)
  simp only
  unfold Instr.slice
  refine semH_bind (semH_underlying hu ?_)
  simp only
  have key : SemH P m (Instr.sliceBounds true len cap lo hi mx) S fun r S' => r = (l, h, q) ∧ S' = S := by
    unfold Instr.sliceBounds
    have fin : ∀ {R' : Nat × Nat × Nat → Ents → Prop}, R' (l, h, q) S → SemH P m (do
        let l ← match lo with
          | some v => Instr.sliceBound v h (if mx.isSome = true then .slice3C else .sliceB)
          | none => pure 0
        pure (l, h, q)) S R' := fun hR' => by
      rcases hlo with rfl | ⟨rfl, rfl⟩
      · exact semH_bind (semH_bound (x := none) rfl h1 (semH_pure hR'))
      · exact semH_bind (semH_pure (semH_pure hR'))
    rcases hmx with rfl | ⟨rfl, rfl⟩
    · refine semH_bind (semH_bound (x := none) rfl h3 ?_)
      rcases hhi with rfl | ⟨_, _, hx⟩
      · exact semH_bind (semH_bound (x := none) rfl h2 (fin ⟨rfl, rfl⟩))
      · cases hx
    · refine semH_bind (semH_pure ?_)
      rcases hhi with rfl | ⟨rfl, rfl, _⟩
      · exact semH_bind (semH_bound (x := none) rfl h2 (fin ⟨rfl, rfl⟩))
      · exact semH_bind (semH_pure (fin ⟨rfl, rfl⟩))
  refine semH_bind (semH_mono key ?_)
  rintro _ _ ⟨rfl, rfl⟩
  exact semH_bind (semH_sizeOf hk (semH_pure hR))
end

def evO (l : TL) (t : Tm) : Option Operand → Option (Option Value)
  | none => some none
  | some x => match evL l t x with
    | some v => some (some v)
    | none => none
theorem evO_eq {l : TL} {t : Tm} {x : Option Operand} {v : Option Value} (h : evO l t x = some v) : x.map (ev (den l t)) = v := by
  cases x with
  | none => exact Option.some.inj h
  | some x =>
    simp only [evO] at h
    cases hx : evL l t x with
    | none => simp [hx] at h
    | some w =>
      simp only [hx, Option.some.injEq] at h
      subst h
      simp [evL_eq hx]

section
variable {E : Env} {fn n : Nat} {Q : Post} {K : Tm → List Deferred → Ents → Prop} {l : TL} {t : Tm} {ds : List Deferred} {S Z Zi : Ents} {ops : Array Oper} {i : Nat} {z : Bool} {rest : List (Nat × Bool)} {sq : Bool}
variable {d : Nat} {ty : TypeId} {pos : String} {af : Array Edge} {g : Option (Nat × Bool)}
theorem o_slice (lo' hi' mx' : Nat) {st e sz len cap : Nat} {ag : Bool} {a : Option Addr} {x : Operand} {lo hi mx : Option Operand} {vl vh vm : Option Value} (hw : wantL ops l t g = some true) (hd : Nat.blt d n = true) (hs : lk1 slT st = some e) [hk : Tyk e (ag, sz)]
    (hx : evL l t x = some (.slice a len cap)) (hl : evO l t lo = some vl) (hh : evO l t hi = some vh) (hm : evO l t mx = some vm) (hlo : vl = some (.int .i64 (lo' : Int)) ∨ (vl = none ∧ lo' = 0)) (hhi : vh = some (.int .i64 (hi' : Int)) ∨ (vh = none ∧ hi' = len ∧ vm = none)) (hmx : vm = some (.int .i64 (mx' : Int)) ∨ (vm = none ∧ mx' = cap))
    (h1 : lo' ≤ hi') (h2 : hi' ≤ mx') (h3 : mx' ≤ cap)
    (h : OpF Tryz.prog E fn n ops sq rest K (den ((d, slVal a sz lo' hi' mx') :: l) t) ds Z S) : OpX Tryz.prog E fn n ops sq i z rest ⟨some d, .slice st x lo hi mx, ty, pos, af, g⟩ K (den l t) ds Zi Z S := by
  refine o_V rfl (vop_of hw hd rfl rfl fun S hS => ?_) h
  refine semH_bind (?_ : SemH Tryz.prog E.m (Instr.sliceAt st (ev (den l t) x) (lo.map (ev (den l t))) (hi.map (ev (den l t))) (mx.map (ev (den l t)))) S _)
  rw [evL_eq hx, evO_eq hl, evO_eq hh, evO_eq hm]
  exact semH_slice (k := .i64) (k2 := .i64) (k3 := .i64) (slT_ok hs) hk.h hlo hhi hmx h1 h2 h3 (semH_pure ⟨_, .inl rfl, rfl, rfl⟩)
end

theorem op_eqNil {P : Program} {m : Mode} {S : Ents} {ρ : Operand → Value} {d : Option Tmp} {op : BinOp} {t e t2 : TypeId} {pos : String} {t' : TypeId} {af : Array Edge} {g : Option (Nat × Bool)} {x y : Operand} {a : Option Addr} {len cap : Nat} {R : Value → Ents → Prop}
    (hop : op = .eql) (hu : P.underlying t = some (.slice e)) (hx : ρ x = .slice a len cap) (hy : ρ y = .slice none 0 0) (h : R (.bool a.isNone) S) : OpH P m ⟨d, .binOp op t x y t2, t', pos, af, g⟩ ρ S R := by
  subst hop
  refine semH_bind (?_ : SemH P m (do eqGuard .eql t x y (ρ x) (ρ y); binOp .eql t (ρ x) (ρ y)) S _)
  rw [hx, hy]
  have hg : ∀ R' : Unit → Ents → Prop, R' () S → SemH P m (eqGuard .eql t x y (.slice a len cap) (.slice none 0 0)) S R' := fun R' hR => by
    unfold eqGuard
    exact semH_pure hR
  refine semH_bind (hg _ ?_)
  simp only [binOp]
  refine semH_bind ?_
  unfold Op.equal Op.maxDepth Op.equalIn
  refine semH_bind (semH_underlying hu ?_)
  cases a with
  | none => exact semH_pure (semH_pure (semH_pure ⟨_, .inl rfl, h⟩))
  | some a => exact semH_pure (semH_pure (semH_pure ⟨_, .inl rfl, h⟩))
theorem o_eqNil {E : Env} {fn n : Nat} {K : Tm → List Deferred → Ents → Prop} {l : TL} {t : Tm} {ds : List Deferred} {S Z Zi : Ents} {ops : Array Oper} {i : Nat} {z : Bool} {rest : List (Nat × Bool)} {sq : Bool} {d : Nat} {ty : TypeId} {pos : String} {af : Array Edge} {g : Option (Nat × Bool)} {st e t2 : TypeId} {x y : Operand} {a : Option Addr} {len cap : Nat}
    (hw : wantL ops l t g = some true) (hd : Nat.blt d n = true) (hs : lk1 slT st = some e) (hx : evL l t x = some (.slice a len cap)) (hy : evL l t y = some (.slice none 0 0))
    (h : OpF Tryz.prog E fn n ops sq rest K (den ((d, .bool a.isNone) :: l) t) ds Z S) : OpX Tryz.prog E fn n ops sq i z rest ⟨some d, .binOp .eql st x y t2, ty, pos, af, g⟩ K (den l t) ds Zi Z S :=
  o_V rfl (vop_of hw hd rfl rfl fun S hS => op_eqNil rfl (slT_ok hs) (evL_eq hx) (evL_eq hy) ⟨rfl, rfl⟩) h

theorem IsRow.drop {α : Type} [En : Enc α] {c : Array Value} {off : Nat} {xs : List α} (h : IsRow c off xs) (l k : Nat) : IsRow c (off + l * En.sz) ((xs.drop l).take k) := by
  intro i hi j hj
  simp only [List.length_take, List.length_drop] at hi
  have := h (l + i) (by omega) j hj
  rw [Nat.add_mul] at this
  rw [show off + l * En.sz + i * En.sz + j = off + (l * En.sz + i * En.sz) + j by omega, this]
  simp

/-- A slice of a slice. -/
theorem SlV.slice {α : Type} [En : Enc α] {S : Ents} {a : Option Addr} {len cap : Nat} {xs : List α} (h : SlV S (.slice a len cap) xs) {l hi q : Nat} (h1 : l ≤ hi) (h2 : hi ≤ len) (h3 : hi ≤ q) : SlV S (slVal a En.sz l hi q) ((xs.drop l).take (hi - l)) := by
  obtain ⟨a', cap', e, hcap, hr⟩ := h
  cases e
  have hlen : ((xs.drop l).take (hi - l)).length = hi - l := by simp; omega
  refine ⟨_, _, by unfold slVal; rw [hlen], by omega, fun hpos => ?_⟩
  rw [hlen] at hpos
  obtain ⟨ea, mn, c, ty, fz, hm, hrow⟩ := hr (by omega)
  have hq : q ≠ l := by omega
  rw [if_neg hq]
  obtain ⟨b, off, sp⟩ : ∃ b off, a = some ⟨b, off, none⟩ := ⟨_, _, ea⟩
  subst sp
  simp only [Option.map_some, add_mk]
  exact ⟨trivial, mn, c, ty, fz, hm, hrow.drop l _⟩
end Go.Proofs.YtpnnmklacialgaaGreat
namespace Go.Proofs.YtpnnmklacialgaaGreat
open Go.Conc
theorem mixed : Tryz.prog.follows .mixedOrders = true := by kernel_rfl

section
variable {E : Env} {fn n : Nat} {Q : Post} {K : Tm → List Deferred → Ents → Prop} {l : TL} {t : Tm} {ds : List Deferred} {S Z Zi : Ents} {ops : Array Oper} {i : Nat} {z : Bool} {rest : List (Nat × Bool)} {sq : Bool} {P : Program}
theorem o_split {o : Oper} {g d : Nat} {w b : Bool} (hg : o.guard = some (g, w)) (hd : (ops[g]?).bind (·.dst) = some d) (hb : lk l t d = some (.bool b))
    (h1 : b = true → OpX P E fn n ops sq i z rest o K (den ((d, .bool true) :: l) t) ds Zi Z S) (h2 : b = false → OpX P E fn n ops sq i z rest o K (den ((d, .bool false) :: l) t) ds Zi Z S) : OpX P E fn n ops sq i z rest o K (den l t) ds Zi Z S :=
  t_split (M := fun t => OpX P E fn n ops sq i z rest o K t ds Zi Z S) d hb h1 h2
theorem o_splitD {o : Oper} {g d : Nat} {w : Bool} {p : Prop} [Decidable p] (hg : o.guard = some (g, w)) (hd : (ops[g]?).bind (·.dst) = some d) (hb : lk l t d = some (.bool (decide p)))
    (h1 : p → OpX P E fn n ops sq i z rest o K (den ((d, .bool true) :: l) t) ds Zi Z S) (h2 : ¬ p → OpX P E fn n ops sq i z rest o K (den ((d, .bool false) :: l) t) ds Zi Z S) : OpX P E fn n ops sq i z rest o K (den l t) ds Zi Z S :=
  o_split hg hd hb (fun h => h1 (of_decide_eq_true h)) fun h => h2 (of_decide_eq_false h)
theorem o_splitP {d c : Nat} {x y : Operand} {ty : TypeId} {pos : String} {af : Array Edge} {g : Option (Nat × Bool)} {b : Bool} (hb : lk l t c = some (.bool b))
    (h1 : b = true → OpX P E fn n ops sq i z rest ⟨some d, .pick (.tmp c) x y, ty, pos, af, g⟩ K (den ((c, .bool true) :: l) t) ds Zi Z S) (h2 : b = false → OpX P E fn n ops sq i z rest ⟨some d, .pick (.tmp c) x y, ty, pos, af, g⟩ K (den ((c, .bool false) :: l) t) ds Zi Z S) : OpX P E fn n ops sq i z rest ⟨some d, .pick (.tmp c) x y, ty, pos, af, g⟩ K (den l t) ds Zi Z S :=
  t_split (M := fun t => OpX P E fn n ops sq i z rest ⟨some d, .pick (.tmp c) x y, ty, pos, af, g⟩ K t ds Zi Z S) c hb h1 h2
end

theorem w_condD {E : Env} {fn n : Nat} {l : TL} {t : Tm} {ds : List Deferred} {S : Ents} {Q : Post} {P : Program} {c : Operand} {x y : Code} {p : Prop} [Decidable p] (hc : evL l t c = some (.bool (decide p))) (h1 : p → WP P E fn n x Q (den l t) ds S) (h2 : ¬ p → WP P E fn n y Q (den l t) ds S) : WP P E fn n (.cond c x y) Q (den l t) ds S :=
  w_cond hc (fun h => h1 (of_decide_eq_true h)) fun h => h2 (of_decide_eq_false h)
class Sb (S' S : Ents) : Prop where h : List.Sublist S' S
instance sb_refl {S : Ents} : Sb S S := ⟨List.Sublist.refl _⟩
instance (priority := low) sb_cons {S' S : Ents} {e : Ent} [i : Sb S' S] : Sb S' (e :: S) := ⟨.cons _ i.h⟩
instance (priority := low) sb_app {S' S A : Ents} [i : Sb S' S] : Sb S' (A ++ S) := ⟨i.h.trans (List.sublist_append_right _ _)⟩
instance (priority := low) sb_both {S' S A : Ents} [i : Sb S' S] : Sb (A ++ S') (A ++ S) := ⟨List.Sublist.append_left i.h _⟩
instance (priority := low) sb_both1 {S' S : Ents} {e : Ent} [i : Sb S' S] : Sb (e :: S') (e :: S) := ⟨.cons_cons _ i.h⟩

theorem semH_less {P : Program} {m : Mode} {α : Type} {s : Sem α} {S S' : Ents} {R : α → Ents → Prop} {a : α} (h : SemH P m s S fun b S1 => b = a ∧ S1 = S) (hs : List.Sublist S' S) (hR : R a S') : SemH P m s S R := by
  intro F O w₀ w es hb hh he
  obtain ⟨b, w', es', S1, x1, x2, x3, x4, rfl, rfl⟩ := h F O w₀ w es hb hh he
  exact ⟨b, w', es', S', x1, x2, x3.sub (hs.append_right F), x4, hR⟩
instance sb_left {S A : Ents} : Sb A (A ++ S) := ⟨List.sublist_append_left _ _⟩
/-- A return. -/
theorem w_ret {E : Env} {fn n : Nat} {l : TL} {t : Tm} {S : Ents} {Q : Post} {rs : Array ResultVar} {vs : List Value} {R : Value → Ents → Prop} (S' : Ents) [hs : Sb S' S] (hq : Q .ret = retQ Tryz.prog E.m rs R .ret) (hv : Res S l t rs.toList vs) (h : R (pack vs) S') : WP Tryz.prog E fn n .ret Q (den l t) [] S :=
  wp_ret (by rw [hq]; exact ⟨rfl, semH_less (res_sem hv ⟨rfl, rfl⟩) hs.h h⟩)

instance : Zo 185 #[.int .i64 0, .int .i64 0, .int .i64 0] := ⟨by kernel_rfl⟩
instance : Meth 159 "gasolier/gas.told" 227 := ⟨by kernel_rfl⟩
instance : Meth 183 "gasolier/gas.told" 228 := ⟨by kernel_rfl⟩
instance : Meth 186 "gasolier/gas.told" 229 := ⟨by kernel_rfl⟩
instance : Conc1 159 := ⟨by kernel_rfl⟩
instance : Conc1 183 := ⟨by kernel_rfl⟩
instance : Conc1 186 := ⟨by kernel_rfl⟩
instance : Eb 3 1 8 := ⟨by kernel_rfl, by decide, by decide⟩
instance : Eb 70 2 16 := ⟨by kernel_rfl, by decide, by decide⟩
instance : Eb 72 4 32 := ⟨by kernel_rfl, by decide, by decide⟩
instance : Eb 74 9 72 := ⟨by kernel_rfl, by decide, by decide⟩
instance : Eb 183 9 72 := ⟨by kernel_rfl, by decide, by decide⟩
instance : Eb 76 7 56 := ⟨by kernel_rfl, by decide, by decide⟩
instance : Eb 159 7 56 := ⟨by kernel_rfl, by decide, by decide⟩
instance : Eb 78 6 48 := ⟨by kernel_rfl, by decide, by decide⟩
instance : Eb 186 6 48 := ⟨by kernel_rfl, by decide, by decide⟩
instance : Eb 104 3 24 := ⟨by kernel_rfl, by decide, by decide⟩
instance : Eb 66 5 40 := ⟨by kernel_rfl, by decide, by decide⟩
instance : Eb 47 2 16 := ⟨by kernel_rfl, by decide, by decide⟩
instance : Eb 33 1 24 := ⟨by kernel_rfl, by decide, by decide⟩
instance : Eb 144 1 24 := ⟨by kernel_rfl, by decide, by decide⟩

structure RangeG where
  lo : Int
  hi : Int
  deriving DecidableEq
structure MainG where
  id : Int
  up : Int
  leak : RangeG
  deriving DecidableEq
structure UseG where
  source : Int
  main : Int
  period : Int
  minutes : RangeG
  rate : RangeG
  known : Int
  til : Int
  deriving DecidableEq
structure ReadG where
  source : Int
  main : Int
  period : Int
  volume : RangeG
  known : Int
  til : Int
  deriving DecidableEq
structure FaultG where
  source : Int
  main : Int
  period : Int
  many : Int
  known : Int
  til : Int
  deriving DecidableEq
structure PriceG where
  since : Int
  feet : Int
  fault : Int
  deriving DecidableEq
structure BillG where
  gas : Int
  penalty : Int
  deriving DecidableEq
structure PostG where
  known : Int
  main : Int
  period : Int
  gas : Int
  penalty : Int
  deriving DecidableEq
structure NetG where
  mains : List MainG
  uses : List UseG
  readings : List ReadG
  faults : List FaultG
  prices : List PriceG
  deriving DecidableEq
def iv (n : Int) : Value := .int .i64 n
def rangeC (x : RangeG) : Array Value := #[.int .i64 x.lo, .int .i64 x.hi]
def mainC (x : MainG) : Array Value := #[.int .i64 x.id, .int .i64 x.up, .int .i64 x.leak.lo, .int .i64 x.leak.hi]
def useC (x : UseG) : Array Value := #[.int .i64 x.source, .int .i64 x.main, .int .i64 x.period, .int .i64 x.minutes.lo, .int .i64 x.minutes.hi, .int .i64 x.rate.lo, .int .i64 x.rate.hi, .int .i64 x.known, .int .i64 x.til]
def readC (x : ReadG) : Array Value := #[.int .i64 x.source, .int .i64 x.main, .int .i64 x.period, .int .i64 x.volume.lo, .int .i64 x.volume.hi, .int .i64 x.known, .int .i64 x.til]
def faultC (x : FaultG) : Array Value := #[.int .i64 x.source, .int .i64 x.main, .int .i64 x.period, .int .i64 x.many, .int .i64 x.known, .int .i64 x.til]
def priceC (x : PriceG) : Array Value := #[.int .i64 x.since, .int .i64 x.feet, .int .i64 x.fault]
def billC (x : BillG) : Array Value := #[.int .i64 x.gas, .int .i64 x.penalty]
def postC (x : PostG) : Array Value := #[.int .i64 x.known, .int .i64 x.main, .int .i64 x.period, .int .i64 x.gas, .int .i64 x.penalty]
theorem one_of {c : Array Value} (h : (c.toList.all (·.oneCell')) = true) : ∀ v ∈ c.toList, v.oneCell' = true := List.all_eq_true.1 h
instance encRange : Enc RangeG := ⟨2, rangeC, by decide, fun _ => rfl, fun x => one_of rfl⟩
instance encMain : Enc MainG := ⟨4, mainC, by decide, fun _ => rfl, fun x => one_of rfl⟩
instance encUse : Enc UseG := ⟨9, useC, by decide, fun _ => rfl, fun x => one_of rfl⟩
instance encRead : Enc ReadG := ⟨7, readC, by decide, fun _ => rfl, fun x => one_of rfl⟩
instance encFault : Enc FaultG := ⟨6, faultC, by decide, fun _ => rfl, fun x => one_of rfl⟩
instance encPrice : Enc PriceG := ⟨3, priceC, by decide, fun _ => rfl, fun x => one_of rfl⟩
instance encBill : Enc BillG := ⟨2, billC, by decide, fun _ => rfl, fun x => one_of rfl⟩
instance encPost : Enc PostG := ⟨5, postC, by decide, fun _ => rfl, fun x => one_of rfl⟩

/-- The lists of a net, as values. -/
structure NetV (S : Ents) (a b c d e : Value) (n : NetG) : Prop where
  mains : SlV S a n.mains
  uses : SlV S b n.uses
  readings : SlV S c n.readings
  faults : SlV S d n.faults
  prices : SlV S e n.prices
  mains_le : n.mains.length ≤ 17592186044416
  uses_le : n.uses.length ≤ 17592186044416
  readings_le : n.readings.length ≤ 17592186044416
  faults_le : n.faults.length ≤ 17592186044416
  prices_le : n.prices.length ≤ 17592186044416
theorem NetV.app {S A : Ents} {a b c d e : Value} {n : NetG} (h : NetV S a b c d e n) : NetV (A ++ S) a b c d e n :=
  ⟨h.1.app, h.2.app, h.3.app, h.4.app, h.5.app, h.6, h.7, h.8, h.9, h.10⟩
theorem NetV.cons {S : Ents} {x : Ent} {a b c d e : Value} {n : NetG} (h : NetV S a b c d e n) : NetV (x :: S) a b c d e n :=
  ⟨h.1.cons, h.2.cons, h.3.cons, h.4.cons, h.5.cons, h.6, h.7, h.8, h.9, h.10⟩

/-- Numbers that fit the machine's. -/
def Fit (n : Int) : Prop := -9223372036854775808 ≤ n ∧ n ≤ 9223372036854775807
end Go.Proofs.YtpnnmklacialgaaGreat
namespace Go.Proofs.YtpnnmklacialgaaGreat
open Go.Conc
attribute [local irreducible] WP OpF OpX CallW SemH retQ

def within (n lo hi : Int) : Bool := decide (lo ≤ n ∧ n ≤ hi)
def rangeOk (r : RangeG) (hi : Int) : Bool := decide (0 ≤ r.lo ∧ r.lo ≤ r.hi ∧ r.hi ≤ hi)
def lastsOk (known til : Int) : Bool := decide (0 ≤ known ∧ known ≤ 100000 ∧ (til = 0 ∨ known < til ∧ til ≤ 100000))
def headOk (source main period known til : Int) : Bool := within source 1 99999 && within main 1 99 && within period 0 999 && lastsOk known til
def mainOk (x : MainG) : Bool := within x.id 1 99 && within x.up 0 (x.id - 1) && rangeOk x.leak 100000000
def useOk (x : UseG) : Bool := headOk x.source x.main x.period x.known x.til && rangeOk x.minutes 50000 && rangeOk x.rate 1000
def readOk (x : ReadG) : Bool := headOk x.source x.main x.period x.known x.til && rangeOk x.volume 100000000
def faultOk (x : FaultG) : Bool := headOk x.source x.main x.period x.known x.til && within x.many 1 100
def priceOk (x : PriceG) : Bool := within x.since 0 999 && within x.feet 0 10000 && within x.fault 0 10000
def countsB (known til now : Int) : Bool := decide (known ≤ now ∧ (til = 0 ∨ now < til))
theorem fit_sub {a : Int} (h : Fit a) (h2 : 1 ≤ a) : -9223372036854775808 ≤ a - 1 ∧ a - 1 ≤ 9223372036854775807 := by unfold Fit at h; omega
theorem within_iff {n lo hi : Int} : within n lo hi = true ↔ lo ≤ n ∧ n ≤ hi := by simp [within]
theorem within_neg {n lo hi : Int} : within n lo hi = false ↔ ¬ (lo ≤ n ∧ n ≤ hi) := by simp [within]

theorem c29 (E : Env) (S : Ents) (n lo hi : Int) : CallW Tryz.prog E 29 #[iv n, iv lo, iv hi] S fun r S' => r = .bool (within n lo hi) ∧ S' = S := by
  refine call_in (args := [iv n, iv lo, iv hi]) Tryz.func29 (by decide) rfl rfl ?_
  repeat' first|(refine gX ?_;first|refine o_v rfl rfl ?_|(refine o_splitD rfl rfl rfl ?_ ?_<;>intro h)|(refine o_split rfl rfl rfl ?_ ?_<;>intro h<;>fail_if_success exact Bool.noConfusion h)|(refine gL ?_;first|refine o_load rfl rfl rfl rfl ?_|refine o_loadR rfl rfl rfl (by omega) rfl rfl ?_|refine o_loadW rfl rfl rfl rfl ?_)|(refine gF ?_;first|refine o_fieldI rfl rfl rfl rfl ?_|refine o_field rfl rfl rfl rfl ?_)|(refine gB ?_;first|refine o_add rfl rfl rfl rfl (by omega) ?_|refine o_sub rfl rfl rfl rfl (by omega) ?_|refine o_eqNil rfl rfl rfl rfl rfl ?_)|(refine gI ?_;first|refine o_indexS rfl rfl rfl rfl rfl rfl (by omega) ?_|refine o_index rfl rfl rfl rfl rfl (by omega) ?_)|(refine gS ?_;first|refine o_store rfl rfl rfl rfl rfl rfl ?_|refine o_storeW rfl rfl rfl rfl rfl rfl ?_)|(refine o_alloc rfl rfl ?_;intro _)|(refine o_box rfl rfl rfl ?_;intro _)|refine o_skip rfl rfl ?_|refine o_skipN rfl rfl ?_|refine o_iface rfl rfl rfl ?_|refine o_build rfl rfl rfl rfl rfl ?_|(refine o_bslice rfl rfl rfl rfl rfl rfl rfl ?_;intro _)|(refine o_splitP rfl ?_ ?_<;>intro h<;>fail_if_success exact Bool.noConfusion h))|refine o_head0 rfl ?_|refine o_end ?_|refine o_head1 rfl ?_|refine wp_seq ?_|refine o_region ?_|refine wp_block ?_|refine wp_skip ?_|refine wp_exit ?_|(refine w_condD rfl ?_ ?_<;>intro h)|(refine w_cond rfl ?_ ?_<;>intro h<;>try exact Bool.noConfusion h)|refine w_ret (S) (vs:=[_]) rfl (Res.tmp rfl Res.nil) ?_
  all_goals(simp_all [within, iv, pack]<;>(try omega))
theorem c104 (E : Env) (S : Ents) (n lo hi : Int) : CallW Tryz.prog E 104 #[iv n, iv lo, iv hi] S fun r S' => r = .bool (within n lo hi) ∧ S' = S := by
  refine call_in (args := [iv n, iv lo, iv hi]) Tryz.func104 (by decide) rfl rfl ?_
  repeat' first|(refine gX ?_;first|refine o_v rfl rfl ?_|(refine o_splitD rfl rfl rfl ?_ ?_<;>intro h)|(refine o_split rfl rfl rfl ?_ ?_<;>intro h<;>fail_if_success exact Bool.noConfusion h)|(refine gL ?_;first|refine o_load rfl rfl rfl rfl ?_|refine o_loadR rfl rfl rfl (by omega) rfl rfl ?_|refine o_loadW rfl rfl rfl rfl ?_)|(refine gF ?_;first|refine o_fieldI rfl rfl rfl rfl ?_|refine o_field rfl rfl rfl rfl ?_)|(refine gB ?_;first|refine o_add rfl rfl rfl rfl (by omega) ?_|refine o_sub rfl rfl rfl rfl (by omega) ?_|refine o_eqNil rfl rfl rfl rfl rfl ?_)|(refine gI ?_;first|refine o_indexS rfl rfl rfl rfl rfl rfl (by omega) ?_|refine o_index rfl rfl rfl rfl rfl (by omega) ?_)|(refine gS ?_;first|refine o_store rfl rfl rfl rfl rfl rfl ?_|refine o_storeW rfl rfl rfl rfl rfl rfl ?_)|(refine o_alloc rfl rfl ?_;intro _)|(refine o_box rfl rfl rfl ?_;intro _)|refine o_skip rfl rfl ?_|refine o_skipN rfl rfl ?_|refine o_iface rfl rfl rfl ?_|refine o_build rfl rfl rfl rfl rfl ?_|(refine o_bslice rfl rfl rfl rfl rfl rfl rfl ?_;intro _)|(refine o_splitP rfl ?_ ?_<;>intro h<;>fail_if_success exact Bool.noConfusion h))|refine o_head0 rfl ?_|refine o_end ?_|refine o_head1 rfl ?_|refine wp_seq ?_|refine o_region ?_|refine wp_block ?_|refine wp_skip ?_|refine wp_exit ?_|(refine w_condD rfl ?_ ?_<;>intro h)|(refine w_cond rfl ?_ ?_<;>intro h<;>try exact Bool.noConfusion h)|refine w_ret (S) (vs:=[_]) rfl (Res.tmp rfl Res.nil) ?_
  all_goals(simp_all [within, iv, pack]<;>(try omega))
theorem c30 (E : Env) (S : Ents) (n : Int) : CallW Tryz.prog E 30 #[iv n] S fun r S' => r = .bool (within n 0 100000) ∧ S' = S := by
  refine call_in (args := [iv n]) Tryz.func30 (by decide) rfl rfl ?_
  repeat' first|(refine gX ?_;first|refine o_v rfl rfl ?_|(refine o_splitD rfl rfl rfl ?_ ?_<;>intro h)|(refine o_split rfl rfl rfl ?_ ?_<;>intro h<;>fail_if_success exact Bool.noConfusion h)|(refine gL ?_;first|refine o_load rfl rfl rfl rfl ?_|refine o_loadR rfl rfl rfl (by omega) rfl rfl ?_|refine o_loadW rfl rfl rfl rfl ?_)|(refine gF ?_;first|refine o_fieldI rfl rfl rfl rfl ?_|refine o_field rfl rfl rfl rfl ?_)|(refine gB ?_;first|refine o_add rfl rfl rfl rfl (by omega) ?_|refine o_sub rfl rfl rfl rfl (by omega) ?_|refine o_eqNil rfl rfl rfl rfl rfl ?_)|(refine gC ?_;first|refine o_callF rfl rfl rfl (c29 _ _ _ _ _) ?_)|(refine gI ?_;first|refine o_indexS rfl rfl rfl rfl rfl rfl (by omega) ?_|refine o_index rfl rfl rfl rfl rfl (by omega) ?_)|(refine gS ?_;first|refine o_store rfl rfl rfl rfl rfl rfl ?_|refine o_storeW rfl rfl rfl rfl rfl rfl ?_)|(refine o_alloc rfl rfl ?_;intro _)|(refine o_box rfl rfl rfl ?_;intro _)|refine o_skip rfl rfl ?_|refine o_skipN rfl rfl ?_|refine o_iface rfl rfl rfl ?_|refine o_build rfl rfl rfl rfl rfl ?_|(refine o_bslice rfl rfl rfl rfl rfl rfl rfl ?_;intro _)|(refine o_splitP rfl ?_ ?_<;>intro h<;>fail_if_success exact Bool.noConfusion h))|refine o_head0 rfl ?_|refine o_end ?_|refine o_head1 rfl ?_|refine wp_seq ?_|refine o_region ?_|refine wp_block ?_|refine wp_skip ?_|refine wp_exit ?_|(refine w_condD rfl ?_ ?_<;>intro h)|(refine w_cond rfl ?_ ?_<;>intro h<;>try exact Bool.noConfusion h)|refine w_ret (S) (vs:=[_]) rfl (Res.tmp rfl Res.nil) ?_
  all_goals(simp_all [pack]<;>(try omega))
theorem c127 (E : Env) (S : Ents) (n : Int) : CallW Tryz.prog E 127 #[iv n] S fun r S' => r = .bool (within n 1 99) ∧ S' = S := by
  refine call_in (args := [iv n]) Tryz.func127 (by decide) rfl rfl ?_
  repeat' first|(refine gX ?_;first|refine o_v rfl rfl ?_|(refine o_splitD rfl rfl rfl ?_ ?_<;>intro h)|(refine o_split rfl rfl rfl ?_ ?_<;>intro h<;>fail_if_success exact Bool.noConfusion h)|(refine gL ?_;first|refine o_load rfl rfl rfl rfl ?_|refine o_loadR rfl rfl rfl (by omega) rfl rfl ?_|refine o_loadW rfl rfl rfl rfl ?_)|(refine gF ?_;first|refine o_fieldI rfl rfl rfl rfl ?_|refine o_field rfl rfl rfl rfl ?_)|(refine gB ?_;first|refine o_add rfl rfl rfl rfl (by omega) ?_|refine o_sub rfl rfl rfl rfl (by omega) ?_|refine o_eqNil rfl rfl rfl rfl rfl ?_)|(refine gC ?_;first|refine o_callF rfl rfl rfl (c104 _ _ _ _ _) ?_)|(refine gI ?_;first|refine o_indexS rfl rfl rfl rfl rfl rfl (by omega) ?_|refine o_index rfl rfl rfl rfl rfl (by omega) ?_)|(refine gS ?_;first|refine o_store rfl rfl rfl rfl rfl rfl ?_|refine o_storeW rfl rfl rfl rfl rfl rfl ?_)|(refine o_alloc rfl rfl ?_;intro _)|(refine o_box rfl rfl rfl ?_;intro _)|refine o_skip rfl rfl ?_|refine o_skipN rfl rfl ?_|refine o_iface rfl rfl rfl ?_|refine o_build rfl rfl rfl rfl rfl ?_|(refine o_bslice rfl rfl rfl rfl rfl rfl rfl ?_;intro _)|(refine o_splitP rfl ?_ ?_<;>intro h<;>fail_if_success exact Bool.noConfusion h))|refine o_head0 rfl ?_|refine o_end ?_|refine o_head1 rfl ?_|refine wp_seq ?_|refine o_region ?_|refine wp_block ?_|refine wp_skip ?_|refine wp_exit ?_|(refine w_condD rfl ?_ ?_<;>intro h)|(refine w_cond rfl ?_ ?_<;>intro h<;>try exact Bool.noConfusion h)|refine w_ret (S) (vs:=[_]) rfl (Res.tmp rfl Res.nil) ?_
  all_goals(simp_all [pack]<;>(try omega))
theorem c132 (E : Env) (S : Ents) (n : Int) : CallW Tryz.prog E 132 #[iv n] S fun r S' => r = .bool (within n 0 999) ∧ S' = S := by
  refine call_in (args := [iv n]) Tryz.func132 (by decide) rfl rfl ?_
  repeat' first|(refine gX ?_;first|refine o_v rfl rfl ?_|(refine o_splitD rfl rfl rfl ?_ ?_<;>intro h)|(refine o_split rfl rfl rfl ?_ ?_<;>intro h<;>fail_if_success exact Bool.noConfusion h)|(refine gL ?_;first|refine o_load rfl rfl rfl rfl ?_|refine o_loadR rfl rfl rfl (by omega) rfl rfl ?_|refine o_loadW rfl rfl rfl rfl ?_)|(refine gF ?_;first|refine o_fieldI rfl rfl rfl rfl ?_|refine o_field rfl rfl rfl rfl ?_)|(refine gB ?_;first|refine o_add rfl rfl rfl rfl (by omega) ?_|refine o_sub rfl rfl rfl rfl (by omega) ?_|refine o_eqNil rfl rfl rfl rfl rfl ?_)|(refine gC ?_;first|refine o_callF rfl rfl rfl (c104 _ _ _ _ _) ?_)|(refine gI ?_;first|refine o_indexS rfl rfl rfl rfl rfl rfl (by omega) ?_|refine o_index rfl rfl rfl rfl rfl (by omega) ?_)|(refine gS ?_;first|refine o_store rfl rfl rfl rfl rfl rfl ?_|refine o_storeW rfl rfl rfl rfl rfl rfl ?_)|(refine o_alloc rfl rfl ?_;intro _)|(refine o_box rfl rfl rfl ?_;intro _)|refine o_skip rfl rfl ?_|refine o_skipN rfl rfl ?_|refine o_iface rfl rfl rfl ?_|refine o_build rfl rfl rfl rfl rfl ?_|(refine o_bslice rfl rfl rfl rfl rfl rfl rfl ?_;intro _)|(refine o_splitP rfl ?_ ?_<;>intro h<;>fail_if_success exact Bool.noConfusion h))|refine o_head0 rfl ?_|refine o_end ?_|refine o_head1 rfl ?_|refine wp_seq ?_|refine o_region ?_|refine wp_block ?_|refine wp_skip ?_|refine wp_exit ?_|(refine w_condD rfl ?_ ?_<;>intro h)|(refine w_cond rfl ?_ ?_<;>intro h<;>try exact Bool.noConfusion h)|refine w_ret (S) (vs:=[_]) rfl (Res.tmp rfl Res.nil) ?_
  all_goals(simp_all [pack]<;>(try omega))
theorem c143 (E : Env) (S : Ents) (n : Int) : CallW Tryz.prog E 143 #[iv n] S fun r S' => r = .bool (within n 0 100000) ∧ S' = S := by
  refine call_in (args := [iv n]) Tryz.func143 (by decide) rfl rfl ?_
  repeat' first|(refine gX ?_;first|refine o_v rfl rfl ?_|(refine o_splitD rfl rfl rfl ?_ ?_<;>intro h)|(refine o_split rfl rfl rfl ?_ ?_<;>intro h<;>fail_if_success exact Bool.noConfusion h)|(refine gL ?_;first|refine o_load rfl rfl rfl rfl ?_|refine o_loadR rfl rfl rfl (by omega) rfl rfl ?_|refine o_loadW rfl rfl rfl rfl ?_)|(refine gF ?_;first|refine o_fieldI rfl rfl rfl rfl ?_|refine o_field rfl rfl rfl rfl ?_)|(refine gB ?_;first|refine o_add rfl rfl rfl rfl (by omega) ?_|refine o_sub rfl rfl rfl rfl (by omega) ?_|refine o_eqNil rfl rfl rfl rfl rfl ?_)|(refine gC ?_;first|refine o_callF rfl rfl rfl (c104 _ _ _ _ _) ?_)|(refine gI ?_;first|refine o_indexS rfl rfl rfl rfl rfl rfl (by omega) ?_|refine o_index rfl rfl rfl rfl rfl (by omega) ?_)|(refine gS ?_;first|refine o_store rfl rfl rfl rfl rfl rfl ?_|refine o_storeW rfl rfl rfl rfl rfl rfl ?_)|(refine o_alloc rfl rfl ?_;intro _)|(refine o_box rfl rfl rfl ?_;intro _)|refine o_skip rfl rfl ?_|refine o_skipN rfl rfl ?_|refine o_iface rfl rfl rfl ?_|refine o_build rfl rfl rfl rfl rfl ?_|(refine o_bslice rfl rfl rfl rfl rfl rfl rfl ?_;intro _)|(refine o_splitP rfl ?_ ?_<;>intro h<;>fail_if_success exact Bool.noConfusion h))|refine o_head0 rfl ?_|refine o_end ?_|refine o_head1 rfl ?_|refine wp_seq ?_|refine o_region ?_|refine wp_block ?_|refine wp_skip ?_|refine wp_exit ?_|(refine w_condD rfl ?_ ?_<;>intro h)|(refine w_cond rfl ?_ ?_<;>intro h<;>try exact Bool.noConfusion h)|refine w_ret (S) (vs:=[_]) rfl (Res.tmp rfl Res.nil) ?_
  all_goals(simp_all [pack]<;>(try omega))
theorem c128 (E : Env) (S : Ents) (x : RangeG) (hi : Int) : CallW Tryz.prog E 128 #[.agg (rangeC x), iv hi] S fun r S' => r = .bool (rangeOk x hi) ∧ S' = S := by
  refine call_in (args := [.agg (rangeC x), iv hi]) Tryz.func128 (by decide) rfl rfl ?_
  repeat' first|(refine gX ?_;first|refine o_v rfl rfl ?_|(refine o_splitD rfl rfl rfl ?_ ?_<;>intro h)|(refine o_split rfl rfl rfl ?_ ?_<;>intro h<;>fail_if_success exact Bool.noConfusion h)|(refine gL ?_;first|refine o_load rfl rfl rfl rfl ?_|refine o_loadR rfl rfl rfl (by omega) rfl rfl ?_|refine o_loadW rfl rfl rfl rfl ?_)|(refine gF ?_;first|refine o_fieldI rfl rfl rfl rfl ?_|refine o_field rfl rfl rfl rfl ?_)|(refine gB ?_;first|refine o_add rfl rfl rfl rfl (by omega) ?_|refine o_sub rfl rfl rfl rfl (by omega) ?_|refine o_eqNil rfl rfl rfl rfl rfl ?_)|(refine gI ?_;first|refine o_indexS rfl rfl rfl rfl rfl rfl (by omega) ?_|refine o_index rfl rfl rfl rfl rfl (by omega) ?_)|(refine gS ?_;first|refine o_store rfl rfl rfl rfl rfl rfl ?_|refine o_storeW rfl rfl rfl rfl rfl rfl ?_)|(refine o_alloc rfl rfl ?_;intro _)|(refine o_box rfl rfl rfl ?_;intro _)|refine o_skip rfl rfl ?_|refine o_skipN rfl rfl ?_|refine o_iface rfl rfl rfl ?_|refine o_build rfl rfl rfl rfl rfl ?_|(refine o_bslice rfl rfl rfl rfl rfl rfl rfl ?_;intro _)|(refine o_splitP rfl ?_ ?_<;>intro h<;>fail_if_success exact Bool.noConfusion h))|refine o_head0 rfl ?_|refine o_end ?_|refine o_head1 rfl ?_|refine wp_seq ?_|refine o_region ?_|refine wp_block ?_|refine wp_skip ?_|refine wp_exit ?_|(refine w_condD rfl ?_ ?_<;>intro h)|(refine w_cond rfl ?_ ?_<;>intro h<;>try exact Bool.noConfusion h)|refine w_ret (S) (vs:=[_]) rfl (Res.tmp rfl Res.nil) ?_
  all_goals(simp_all [rangeOk, pack]<;>(try omega))
theorem c129 (E : Env) (S : Ents) (x : RangeG) (hi : Int) : CallW Tryz.prog E 129 #[.agg (rangeC x), iv 0, iv hi] S fun r S' => r = .bool (rangeOk x hi) ∧ S' = S := by
  refine call_in (args := [.agg (rangeC x), iv 0, iv hi]) Tryz.func129 (by decide) rfl rfl ?_
  repeat' first|(refine gX ?_;first|refine o_v rfl rfl ?_|(refine o_splitD rfl rfl rfl ?_ ?_<;>intro h)|(refine o_split rfl rfl rfl ?_ ?_<;>intro h<;>fail_if_success exact Bool.noConfusion h)|(refine gL ?_;first|refine o_load rfl rfl rfl rfl ?_|refine o_loadR rfl rfl rfl (by omega) rfl rfl ?_|refine o_loadW rfl rfl rfl rfl ?_)|(refine gF ?_;first|refine o_fieldI rfl rfl rfl rfl ?_|refine o_field rfl rfl rfl rfl ?_)|(refine gB ?_;first|refine o_add rfl rfl rfl rfl (by omega) ?_|refine o_sub rfl rfl rfl rfl (by omega) ?_|refine o_eqNil rfl rfl rfl rfl rfl ?_)|(refine gI ?_;first|refine o_indexS rfl rfl rfl rfl rfl rfl (by omega) ?_|refine o_index rfl rfl rfl rfl rfl (by omega) ?_)|(refine gS ?_;first|refine o_store rfl rfl rfl rfl rfl rfl ?_|refine o_storeW rfl rfl rfl rfl rfl rfl ?_)|(refine o_alloc rfl rfl ?_;intro _)|(refine o_box rfl rfl rfl ?_;intro _)|refine o_skip rfl rfl ?_|refine o_skipN rfl rfl ?_|refine o_iface rfl rfl rfl ?_|refine o_build rfl rfl rfl rfl rfl ?_|(refine o_bslice rfl rfl rfl rfl rfl rfl rfl ?_;intro _)|(refine o_splitP rfl ?_ ?_<;>intro h<;>fail_if_success exact Bool.noConfusion h))|refine o_head0 rfl ?_|refine o_end ?_|refine o_head1 rfl ?_|refine wp_seq ?_|refine o_region ?_|refine wp_block ?_|refine wp_skip ?_|refine wp_exit ?_|(refine w_condD rfl ?_ ?_<;>intro h)|(refine w_cond rfl ?_ ?_<;>intro h<;>try exact Bool.noConfusion h)|refine w_ret (S) (vs:=[_]) rfl (Res.tmp rfl Res.nil) ?_
  all_goals(simp_all [rangeOk, pack]<;>(try omega))
theorem c61 (E : Env) (S : Ents) (x : MainG) : CallW Tryz.prog E 61 #[.agg (mainC x)] S fun r S' => r = iv (if mainOk x then 0 else 70) ∧ S' = S := by
  refine call_in (args := [.agg (mainC x)]) Tryz.func61 (by decide) rfl rfl ?_
  repeat' first|(refine gX ?_;first|refine o_v rfl rfl ?_|(refine o_splitD rfl rfl rfl ?_ ?_<;>intro h)|(refine o_split rfl rfl rfl ?_ ?_<;>intro h<;>fail_if_success exact Bool.noConfusion h)|(refine gL ?_;first|refine o_load rfl rfl rfl rfl ?_|refine o_loadR rfl rfl rfl (by omega) rfl rfl ?_|refine o_loadW rfl rfl rfl rfl ?_)|(refine gF ?_;first|refine o_fieldI rfl rfl rfl rfl ?_|refine o_field rfl rfl rfl rfl ?_)|(refine gB ?_;first|refine o_sub rfl rfl rfl rfl (by simp only [Bool.not_eq_false'] at h;have := within_iff.1 h;omega) ?_|refine o_add rfl rfl rfl rfl (by omega) ?_|refine o_sub rfl rfl rfl rfl (by omega) ?_|refine o_eqNil rfl rfl rfl rfl rfl ?_)|(refine gC ?_;first|refine o_callF rfl rfl rfl (c127 _ _ _) ?_|refine o_callF rfl rfl rfl (c104 _ _ _ _ _) ?_|refine o_callF rfl rfl rfl (c128 _ _ _ _) ?_)|(refine gI ?_;first|refine o_indexS rfl rfl rfl rfl rfl rfl (by omega) ?_|refine o_index rfl rfl rfl rfl rfl (by omega) ?_)|(refine gS ?_;first|refine o_store rfl rfl rfl rfl rfl rfl ?_|refine o_storeW rfl rfl rfl rfl rfl rfl ?_)|(refine o_alloc rfl rfl ?_;intro _)|(refine o_box rfl rfl rfl ?_;intro _)|refine o_skip rfl rfl ?_|refine o_skipN rfl rfl ?_|refine o_iface rfl rfl rfl ?_|refine o_build rfl rfl rfl rfl rfl ?_|(refine o_bslice rfl rfl rfl rfl rfl rfl rfl ?_;intro _)|(refine o_splitP rfl ?_ ?_<;>intro h<;>fail_if_success exact Bool.noConfusion h))|refine o_head0 rfl ?_|refine o_end ?_|refine o_head1 rfl ?_|refine wp_seq ?_|refine o_region ?_|refine wp_block ?_|refine wp_skip ?_|refine wp_exit ?_|(refine w_condD rfl ?_ ?_<;>intro h)|(refine w_cond rfl ?_ ?_<;>intro h<;>try exact Bool.noConfusion h)|refine w_ret (S) (vs:=[_]) rfl (Res.tmp rfl Res.nil) ?_
  all_goals(simp_all [mainOk, pack, iv, headOk, lastsOk, rangeOk, within]<;>(try omega))
theorem c62 (E : Env) (S : Ents) (x : MainG) : CallW Tryz.prog E 62 #[.agg (mainC x)] S fun r S' => r = iv (if mainOk x then 0 else 70) ∧ S' = S := by
  refine call_in (args := [.agg (mainC x)]) Tryz.func62 (by decide) rfl rfl ?_
  repeat' first|(refine gX ?_;first|refine o_v rfl rfl ?_|(refine o_splitD rfl rfl rfl ?_ ?_<;>intro h)|(refine o_split rfl rfl rfl ?_ ?_<;>intro h<;>fail_if_success exact Bool.noConfusion h)|(refine gL ?_;first|refine o_load rfl rfl rfl rfl ?_|refine o_loadR rfl rfl rfl (by omega) rfl rfl ?_|refine o_loadW rfl rfl rfl rfl ?_)|(refine gF ?_;first|refine o_fieldI rfl rfl rfl rfl ?_|refine o_field rfl rfl rfl rfl ?_)|(refine gB ?_;first|refine o_sub rfl rfl rfl rfl (by simp only [Bool.not_eq_false'] at h;have := within_iff.1 h;omega) ?_|refine o_add rfl rfl rfl rfl (by omega) ?_|refine o_sub rfl rfl rfl rfl (by omega) ?_|refine o_eqNil rfl rfl rfl rfl rfl ?_)|(refine gC ?_;first|refine o_callF rfl rfl rfl (c29 _ _ _ _ _) ?_|refine o_callF rfl rfl rfl (c29 _ _ _ _ _) ?_|refine o_callF rfl rfl rfl (c129 _ _ _ _) ?_)|(refine gI ?_;first|refine o_indexS rfl rfl rfl rfl rfl rfl (by omega) ?_|refine o_index rfl rfl rfl rfl rfl (by omega) ?_)|(refine gS ?_;first|refine o_store rfl rfl rfl rfl rfl rfl ?_|refine o_storeW rfl rfl rfl rfl rfl rfl ?_)|(refine o_alloc rfl rfl ?_;intro _)|(refine o_box rfl rfl rfl ?_;intro _)|refine o_skip rfl rfl ?_|refine o_skipN rfl rfl ?_|refine o_iface rfl rfl rfl ?_|refine o_build rfl rfl rfl rfl rfl ?_|(refine o_bslice rfl rfl rfl rfl rfl rfl rfl ?_;intro _)|(refine o_splitP rfl ?_ ?_<;>intro h<;>fail_if_success exact Bool.noConfusion h))|refine o_head0 rfl ?_|refine o_end ?_|refine o_head1 rfl ?_|refine wp_seq ?_|refine o_region ?_|refine wp_block ?_|refine wp_skip ?_|refine wp_exit ?_|(refine w_condD rfl ?_ ?_<;>intro h)|(refine w_cond rfl ?_ ?_<;>intro h<;>try exact Bool.noConfusion h)|refine w_ret (S) (vs:=[_]) rfl (Res.tmp rfl Res.nil) ?_
  all_goals(simp_all [mainOk, pack, iv, headOk, lastsOk, rangeOk, within]<;>(try omega))
theorem c169 (E : Env) (S : Ents) (known til : Int) : CallW Tryz.prog E 169 #[iv known, iv til] S fun r S' => r = .bool (lastsOk known til) ∧ S' = S := by
  refine call_in (args := [iv known, iv til]) Tryz.func169 (by decide) rfl rfl ?_
  repeat' first|(refine gX ?_;first|refine o_v rfl rfl ?_|(refine o_splitD rfl rfl rfl ?_ ?_<;>intro h)|(refine o_split rfl rfl rfl ?_ ?_<;>intro h<;>fail_if_success exact Bool.noConfusion h)|(refine gL ?_;first|refine o_load rfl rfl rfl rfl ?_|refine o_loadR rfl rfl rfl (by omega) rfl rfl ?_|refine o_loadW rfl rfl rfl rfl ?_)|(refine gF ?_;first|refine o_fieldI rfl rfl rfl rfl ?_|refine o_field rfl rfl rfl rfl ?_)|(refine gB ?_;first|refine o_add rfl rfl rfl rfl (by omega) ?_|refine o_sub rfl rfl rfl rfl (by omega) ?_|refine o_eqNil rfl rfl rfl rfl rfl ?_)|(refine gC ?_;first|refine o_callF rfl rfl rfl (c30 _ _ _) ?_)|(refine gI ?_;first|refine o_indexS rfl rfl rfl rfl rfl rfl (by omega) ?_|refine o_index rfl rfl rfl rfl rfl (by omega) ?_)|(refine gS ?_;first|refine o_store rfl rfl rfl rfl rfl rfl ?_|refine o_storeW rfl rfl rfl rfl rfl rfl ?_)|(refine o_alloc rfl rfl ?_;intro _)|(refine o_box rfl rfl rfl ?_;intro _)|refine o_skip rfl rfl ?_|refine o_skipN rfl rfl ?_|refine o_iface rfl rfl rfl ?_|refine o_build rfl rfl rfl rfl rfl ?_|(refine o_bslice rfl rfl rfl rfl rfl rfl rfl ?_;intro _)|(refine o_splitP rfl ?_ ?_<;>intro h<;>fail_if_success exact Bool.noConfusion h))|refine o_head0 rfl ?_|refine o_end ?_|refine o_head1 rfl ?_|refine wp_seq ?_|refine o_region ?_|refine wp_block ?_|refine wp_skip ?_|refine wp_exit ?_|(refine w_condD rfl ?_ ?_<;>intro h)|(refine w_cond rfl ?_ ?_<;>intro h<;>try exact Bool.noConfusion h)|refine w_ret (S) (vs:=[_]) rfl (Res.tmp rfl Res.nil) ?_
  all_goals(simp_all [lastsOk, pack, within]<;>(try omega))
theorem c131 (E : Env) (S : Ents) (a b c known til : Int) : CallW Tryz.prog E 131 #[.agg #[iv a, iv b, iv c], iv known, iv til] S fun r S' => r = .bool (headOk a b c known til) ∧ S' = S := by
  refine call_in (args := [.agg #[iv a, iv b, iv c], iv known, iv til]) Tryz.func131 (by decide) rfl rfl ?_
  repeat' first|(refine gX ?_;first|refine o_v rfl rfl ?_|(refine o_splitD rfl rfl rfl ?_ ?_<;>intro h)|(refine o_split rfl rfl rfl ?_ ?_<;>intro h<;>fail_if_success exact Bool.noConfusion h)|(refine gL ?_;first|refine o_load rfl rfl rfl rfl ?_|refine o_loadR rfl rfl rfl (by omega) rfl rfl ?_|refine o_loadW rfl rfl rfl rfl ?_)|(refine gF ?_;first|refine o_fieldI rfl rfl rfl rfl ?_|refine o_field rfl rfl rfl rfl ?_)|(refine gB ?_;first|refine o_add rfl rfl rfl rfl (by omega) ?_|refine o_sub rfl rfl rfl rfl (by omega) ?_|refine o_eqNil rfl rfl rfl rfl rfl ?_)|(refine gC ?_;first|refine o_callF rfl rfl rfl (c29 _ _ _ _ _) ?_|refine o_callF rfl rfl rfl (c169 _ _ _ _) ?_)|(refine gI ?_;first|refine o_indexK 0 rfl rfl rfl rfl rfl rfl ?_|refine o_indexK 1 rfl rfl rfl rfl rfl rfl ?_|refine o_indexK 2 rfl rfl rfl rfl rfl rfl ?_|refine o_indexS rfl rfl rfl rfl rfl rfl (by omega) ?_|refine o_index rfl rfl rfl rfl rfl (by omega) ?_)|(refine gS ?_;first|refine o_store rfl rfl rfl rfl rfl rfl ?_|refine o_storeW rfl rfl rfl rfl rfl rfl ?_)|(refine o_alloc rfl rfl ?_;intro _)|(refine o_box rfl rfl rfl ?_;intro _)|refine o_skip rfl rfl ?_|refine o_skipN rfl rfl ?_|refine o_iface rfl rfl rfl ?_|refine o_build rfl rfl rfl rfl rfl ?_|(refine o_bslice rfl rfl rfl rfl rfl rfl rfl ?_;intro _)|(refine o_splitP rfl ?_ ?_<;>intro h<;>fail_if_success exact Bool.noConfusion h))|refine o_head0 rfl ?_|refine o_end ?_|refine o_head1 rfl ?_|refine wp_seq ?_|refine o_region ?_|refine wp_block ?_|refine wp_skip ?_|refine wp_exit ?_|(refine w_condD rfl ?_ ?_<;>intro h)|(refine w_cond rfl ?_ ?_<;>intro h<;>try exact Bool.noConfusion h)|refine w_ret (S) (vs:=[_]) rfl (Res.tmp rfl Res.nil) ?_
  all_goals(simp_all [headOk, lastsOk, within, pack]<;>(try omega))
theorem c227 (E : Env) (S : Ents) (x : ReadG) : CallW Tryz.prog E 227 #[.agg (readC x)] S fun r S' => r = .tuple #[iv x.source, iv x.main, iv x.period, iv x.known, iv x.til] ∧ S' = S := by
  refine call_in (args := [.agg (readC x)]) Tryz.func227 (by decide) rfl rfl ?_
  repeat' first|(refine gX ?_;first|refine o_v rfl rfl ?_|(refine o_splitD rfl rfl rfl ?_ ?_<;>intro h)|(refine o_split rfl rfl rfl ?_ ?_<;>intro h<;>fail_if_success exact Bool.noConfusion h)|(refine gL ?_;first|refine o_load rfl rfl rfl rfl ?_|refine o_loadR rfl rfl rfl (by omega) rfl rfl ?_|refine o_loadW rfl rfl rfl rfl ?_)|(refine gF ?_;first|refine o_fieldI rfl rfl rfl rfl ?_|refine o_field rfl rfl rfl rfl ?_)|(refine gB ?_;first|refine o_add rfl rfl rfl rfl (by omega) ?_|refine o_sub rfl rfl rfl rfl (by omega) ?_|refine o_eqNil rfl rfl rfl rfl rfl ?_)|(refine gI ?_;first|refine o_indexS rfl rfl rfl rfl rfl rfl (by omega) ?_|refine o_index rfl rfl rfl rfl rfl (by omega) ?_)|(refine gS ?_;first|refine o_store rfl rfl rfl rfl rfl rfl ?_|refine o_storeW rfl rfl rfl rfl rfl rfl ?_)|(refine o_alloc rfl rfl ?_;intro _)|(refine o_box rfl rfl rfl ?_;intro _)|refine o_skip rfl rfl ?_|refine o_skipN rfl rfl ?_|refine o_iface rfl rfl rfl ?_|refine o_build rfl rfl rfl rfl rfl ?_|(refine o_bslice rfl rfl rfl rfl rfl rfl rfl ?_;intro _)|(refine o_splitP rfl ?_ ?_<;>intro h<;>fail_if_success exact Bool.noConfusion h))|refine o_head0 rfl ?_|refine o_end ?_|refine o_head1 rfl ?_|refine wp_seq ?_|refine o_region ?_|refine wp_block ?_|refine wp_skip ?_|refine wp_exit ?_|(refine w_condD rfl ?_ ?_<;>intro h)|(refine w_cond rfl ?_ ?_<;>intro h<;>try exact Bool.noConfusion h)|refine w_ret (S) (vs:=[_,_,_,_,_]) rfl (Res.tmp rfl (Res.tmp rfl (Res.tmp rfl (Res.tmp rfl (Res.tmp rfl Res.nil))))) ?_|(show WP _ _ _ _ (.region 1 _ true) _ _ _ _;refine o_drawn [(0, false), (1, false), (2, false), (3, false), (4, false), (5, false), (6, false), (7, false), (8, false), (9, false), (10, false), (11, false), (12, false), (13, false), (14, false)] mixed (by kernel_rfl) ?_)
  all_goals(simp_all [pack, iv]<;>(try omega))
theorem c228 (E : Env) (S : Ents) (x : UseG) : CallW Tryz.prog E 228 #[.agg (useC x)] S fun r S' => r = .tuple #[iv x.source, iv x.main, iv x.period, iv x.known, iv x.til] ∧ S' = S := by
  refine call_in (args := [.agg (useC x)]) Tryz.func228 (by decide) rfl rfl ?_
  repeat' first|(refine gX ?_;first|refine o_v rfl rfl ?_|(refine o_splitD rfl rfl rfl ?_ ?_<;>intro h)|(refine o_split rfl rfl rfl ?_ ?_<;>intro h<;>fail_if_success exact Bool.noConfusion h)|(refine gL ?_;first|refine o_load rfl rfl rfl rfl ?_|refine o_loadR rfl rfl rfl (by omega) rfl rfl ?_|refine o_loadW rfl rfl rfl rfl ?_)|(refine gF ?_;first|refine o_fieldI rfl rfl rfl rfl ?_|refine o_field rfl rfl rfl rfl ?_)|(refine gB ?_;first|refine o_add rfl rfl rfl rfl (by omega) ?_|refine o_sub rfl rfl rfl rfl (by omega) ?_|refine o_eqNil rfl rfl rfl rfl rfl ?_)|(refine gI ?_;first|refine o_indexS rfl rfl rfl rfl rfl rfl (by omega) ?_|refine o_index rfl rfl rfl rfl rfl (by omega) ?_)|(refine gS ?_;first|refine o_store rfl rfl rfl rfl rfl rfl ?_|refine o_storeW rfl rfl rfl rfl rfl rfl ?_)|(refine o_alloc rfl rfl ?_;intro _)|(refine o_box rfl rfl rfl ?_;intro _)|refine o_skip rfl rfl ?_|refine o_skipN rfl rfl ?_|refine o_iface rfl rfl rfl ?_|refine o_build rfl rfl rfl rfl rfl ?_|(refine o_bslice rfl rfl rfl rfl rfl rfl rfl ?_;intro _)|(refine o_splitP rfl ?_ ?_<;>intro h<;>fail_if_success exact Bool.noConfusion h))|refine o_head0 rfl ?_|refine o_end ?_|refine o_head1 rfl ?_|refine wp_seq ?_|refine o_region ?_|refine wp_block ?_|refine wp_skip ?_|refine wp_exit ?_|(refine w_condD rfl ?_ ?_<;>intro h)|(refine w_cond rfl ?_ ?_<;>intro h<;>try exact Bool.noConfusion h)|refine w_ret (S) (vs:=[_,_,_,_,_]) rfl (Res.tmp rfl (Res.tmp rfl (Res.tmp rfl (Res.tmp rfl (Res.tmp rfl Res.nil))))) ?_|(show WP _ _ _ _ (.region 1 _ true) _ _ _ _;refine o_drawn [(0, false), (1, false), (2, false), (3, false), (4, false), (5, false), (6, false), (7, false), (8, false), (9, false), (10, false), (11, false), (12, false), (13, false), (14, false)] mixed (by kernel_rfl) ?_)
  all_goals(simp_all [pack, iv]<;>(try omega))
theorem c229 (E : Env) (S : Ents) (x : FaultG) : CallW Tryz.prog E 229 #[.agg (faultC x)] S fun r S' => r = .tuple #[iv x.source, iv x.main, iv x.period, iv x.known, iv x.til] ∧ S' = S := by
  refine call_in (args := [.agg (faultC x)]) Tryz.func229 (by decide) rfl rfl ?_
  repeat' first|(refine gX ?_;first|refine o_v rfl rfl ?_|(refine o_splitD rfl rfl rfl ?_ ?_<;>intro h)|(refine o_split rfl rfl rfl ?_ ?_<;>intro h<;>fail_if_success exact Bool.noConfusion h)|(refine gL ?_;first|refine o_load rfl rfl rfl rfl ?_|refine o_loadR rfl rfl rfl (by omega) rfl rfl ?_|refine o_loadW rfl rfl rfl rfl ?_)|(refine gF ?_;first|refine o_fieldI rfl rfl rfl rfl ?_|refine o_field rfl rfl rfl rfl ?_)|(refine gB ?_;first|refine o_add rfl rfl rfl rfl (by omega) ?_|refine o_sub rfl rfl rfl rfl (by omega) ?_|refine o_eqNil rfl rfl rfl rfl rfl ?_)|(refine gI ?_;first|refine o_indexS rfl rfl rfl rfl rfl rfl (by omega) ?_|refine o_index rfl rfl rfl rfl rfl (by omega) ?_)|(refine gS ?_;first|refine o_store rfl rfl rfl rfl rfl rfl ?_|refine o_storeW rfl rfl rfl rfl rfl rfl ?_)|(refine o_alloc rfl rfl ?_;intro _)|(refine o_box rfl rfl rfl ?_;intro _)|refine o_skip rfl rfl ?_|refine o_skipN rfl rfl ?_|refine o_iface rfl rfl rfl ?_|refine o_build rfl rfl rfl rfl rfl ?_|(refine o_bslice rfl rfl rfl rfl rfl rfl rfl ?_;intro _)|(refine o_splitP rfl ?_ ?_<;>intro h<;>fail_if_success exact Bool.noConfusion h))|refine o_head0 rfl ?_|refine o_end ?_|refine o_head1 rfl ?_|refine wp_seq ?_|refine o_region ?_|refine wp_block ?_|refine wp_skip ?_|refine wp_exit ?_|(refine w_condD rfl ?_ ?_<;>intro h)|(refine w_cond rfl ?_ ?_<;>intro h<;>try exact Bool.noConfusion h)|refine w_ret (S) (vs:=[_,_,_,_,_]) rfl (Res.tmp rfl (Res.tmp rfl (Res.tmp rfl (Res.tmp rfl (Res.tmp rfl Res.nil))))) ?_|(show WP _ _ _ _ (.region 1 _ true) _ _ _ _;refine o_drawn [(0, false), (1, false), (2, false), (3, false), (4, false), (5, false), (6, false), (7, false), (8, false), (9, false), (10, false), (11, false), (12, false), (13, false), (14, false)] mixed (by kernel_rfl) ?_)
  all_goals(simp_all [pack, iv]<;>(try omega))
theorem c130r (E : Env) (S : Ents) (x : ReadG) : CallW Tryz.prog E 130 #[.iface 159 (.agg (readC x))] S fun r S' => r = .bool (headOk x.source x.main x.period x.known x.til) ∧ S' = S := by
  refine call_in (args := [.iface 159 (.agg (readC x))]) Tryz.func130 (by decide) rfl rfl ?_
  repeat' first|(refine gX ?_;first|refine o_v rfl rfl ?_|(refine o_splitD rfl rfl rfl ?_ ?_<;>intro h)|(refine o_split rfl rfl rfl ?_ ?_<;>intro h<;>fail_if_success exact Bool.noConfusion h)|(refine gL ?_;first|refine o_load rfl rfl rfl rfl ?_|refine o_loadR rfl rfl rfl (by omega) rfl rfl ?_|refine o_loadW rfl rfl rfl rfl ?_)|(refine gF ?_;first|refine o_fieldI rfl rfl rfl rfl ?_|refine o_field rfl rfl rfl rfl ?_)|(refine gB ?_;first|refine o_add rfl rfl rfl rfl (by have := within_iff.1 ‹within x.known 0 100000 = true›;omega) ?_|refine o_add rfl rfl rfl rfl (by omega) ?_|refine o_sub rfl rfl rfl rfl (by omega) ?_|refine o_eqNil rfl rfl rfl rfl rfl ?_)|(refine gC ?_;first|refine o_inv rfl rfl rfl rfl (c227 _ _ x) ?_|refine o_callF rfl rfl rfl (c104 _ _ _ _ _) ?_|refine o_callF rfl rfl rfl (c127 _ _ _) ?_|refine o_callF rfl rfl rfl (c132 _ _ _) ?_|refine o_callF rfl rfl rfl (c143 _ _ _) ?_)|(refine gI ?_;first|refine o_indexS rfl rfl rfl rfl rfl rfl (by omega) ?_|refine o_index rfl rfl rfl rfl rfl (by omega) ?_)|(refine gS ?_;first|refine o_store rfl rfl rfl rfl rfl rfl ?_|refine o_storeW rfl rfl rfl rfl rfl rfl ?_)|(refine o_alloc rfl rfl ?_;intro _)|(refine o_box rfl rfl rfl ?_;intro _)|refine o_skip rfl rfl ?_|refine o_skipN rfl rfl ?_|refine o_iface rfl rfl rfl ?_|refine o_build rfl rfl rfl rfl rfl ?_|(refine o_bslice rfl rfl rfl rfl rfl rfl rfl ?_;intro _)|(refine o_splitP rfl ?_ ?_<;>intro h<;>fail_if_success exact Bool.noConfusion h))|refine o_head0 rfl ?_|refine o_end ?_|refine o_head1 rfl ?_|refine wp_seq ?_|refine o_region ?_|refine wp_block ?_|refine wp_skip ?_|refine wp_exit ?_|(refine w_condD rfl ?_ ?_<;>intro h)|(refine w_cond rfl ?_ ?_<;>intro h<;>try exact Bool.noConfusion h)|refine w_ret (S) (vs:=[_]) rfl (Res.tmp rfl Res.nil) ?_
  all_goals(simp_all [headOk, lastsOk, within, pack, Int.add_one_le_iff]<;>(try omega))
theorem c130u (E : Env) (S : Ents) (x : UseG) : CallW Tryz.prog E 130 #[.iface 183 (.agg (useC x))] S fun r S' => r = .bool (headOk x.source x.main x.period x.known x.til) ∧ S' = S := by
  refine call_in (args := [.iface 183 (.agg (useC x))]) Tryz.func130 (by decide) rfl rfl ?_
  repeat' first|(refine gX ?_;first|refine o_v rfl rfl ?_|(refine o_splitD rfl rfl rfl ?_ ?_<;>intro h)|(refine o_split rfl rfl rfl ?_ ?_<;>intro h<;>fail_if_success exact Bool.noConfusion h)|(refine gL ?_;first|refine o_load rfl rfl rfl rfl ?_|refine o_loadR rfl rfl rfl (by omega) rfl rfl ?_|refine o_loadW rfl rfl rfl rfl ?_)|(refine gF ?_;first|refine o_fieldI rfl rfl rfl rfl ?_|refine o_field rfl rfl rfl rfl ?_)|(refine gB ?_;first|refine o_add rfl rfl rfl rfl (by have := within_iff.1 ‹within x.known 0 100000 = true›;omega) ?_|refine o_add rfl rfl rfl rfl (by omega) ?_|refine o_sub rfl rfl rfl rfl (by omega) ?_|refine o_eqNil rfl rfl rfl rfl rfl ?_)|(refine gC ?_;first|refine o_inv rfl rfl rfl rfl (c228 _ _ x) ?_|refine o_callF rfl rfl rfl (c104 _ _ _ _ _) ?_|refine o_callF rfl rfl rfl (c127 _ _ _) ?_|refine o_callF rfl rfl rfl (c132 _ _ _) ?_|refine o_callF rfl rfl rfl (c143 _ _ _) ?_)|(refine gI ?_;first|refine o_indexS rfl rfl rfl rfl rfl rfl (by omega) ?_|refine o_index rfl rfl rfl rfl rfl (by omega) ?_)|(refine gS ?_;first|refine o_store rfl rfl rfl rfl rfl rfl ?_|refine o_storeW rfl rfl rfl rfl rfl rfl ?_)|(refine o_alloc rfl rfl ?_;intro _)|(refine o_box rfl rfl rfl ?_;intro _)|refine o_skip rfl rfl ?_|refine o_skipN rfl rfl ?_|refine o_iface rfl rfl rfl ?_|refine o_build rfl rfl rfl rfl rfl ?_|(refine o_bslice rfl rfl rfl rfl rfl rfl rfl ?_;intro _)|(refine o_splitP rfl ?_ ?_<;>intro h<;>fail_if_success exact Bool.noConfusion h))|refine o_head0 rfl ?_|refine o_end ?_|refine o_head1 rfl ?_|refine wp_seq ?_|refine o_region ?_|refine wp_block ?_|refine wp_skip ?_|refine wp_exit ?_|(refine w_condD rfl ?_ ?_<;>intro h)|(refine w_cond rfl ?_ ?_<;>intro h<;>try exact Bool.noConfusion h)|refine w_ret (S) (vs:=[_]) rfl (Res.tmp rfl Res.nil) ?_
  all_goals(simp_all [headOk, lastsOk, within, pack, Int.add_one_le_iff]<;>(try omega))
theorem c130f (E : Env) (S : Ents) (x : FaultG) : CallW Tryz.prog E 130 #[.iface 186 (.agg (faultC x))] S fun r S' => r = .bool (headOk x.source x.main x.period x.known x.til) ∧ S' = S := by
  refine call_in (args := [.iface 186 (.agg (faultC x))]) Tryz.func130 (by decide) rfl rfl ?_
  repeat' first|(refine gX ?_;first|refine o_v rfl rfl ?_|(refine o_splitD rfl rfl rfl ?_ ?_<;>intro h)|(refine o_split rfl rfl rfl ?_ ?_<;>intro h<;>fail_if_success exact Bool.noConfusion h)|(refine gL ?_;first|refine o_load rfl rfl rfl rfl ?_|refine o_loadR rfl rfl rfl (by omega) rfl rfl ?_|refine o_loadW rfl rfl rfl rfl ?_)|(refine gF ?_;first|refine o_fieldI rfl rfl rfl rfl ?_|refine o_field rfl rfl rfl rfl ?_)|(refine gB ?_;first|refine o_add rfl rfl rfl rfl (by have := within_iff.1 ‹within x.known 0 100000 = true›;omega) ?_|refine o_add rfl rfl rfl rfl (by omega) ?_|refine o_sub rfl rfl rfl rfl (by omega) ?_|refine o_eqNil rfl rfl rfl rfl rfl ?_)|(refine gC ?_;first|refine o_inv rfl rfl rfl rfl (c229 _ _ x) ?_|refine o_callF rfl rfl rfl (c104 _ _ _ _ _) ?_|refine o_callF rfl rfl rfl (c127 _ _ _) ?_|refine o_callF rfl rfl rfl (c132 _ _ _) ?_|refine o_callF rfl rfl rfl (c143 _ _ _) ?_)|(refine gI ?_;first|refine o_indexS rfl rfl rfl rfl rfl rfl (by omega) ?_|refine o_index rfl rfl rfl rfl rfl (by omega) ?_)|(refine gS ?_;first|refine o_store rfl rfl rfl rfl rfl rfl ?_|refine o_storeW rfl rfl rfl rfl rfl rfl ?_)|(refine o_alloc rfl rfl ?_;intro _)|(refine o_box rfl rfl rfl ?_;intro _)|refine o_skip rfl rfl ?_|refine o_skipN rfl rfl ?_|refine o_iface rfl rfl rfl ?_|refine o_build rfl rfl rfl rfl rfl ?_|(refine o_bslice rfl rfl rfl rfl rfl rfl rfl ?_;intro _)|(refine o_splitP rfl ?_ ?_<;>intro h<;>fail_if_success exact Bool.noConfusion h))|refine o_head0 rfl ?_|refine o_end ?_|refine o_head1 rfl ?_|refine wp_seq ?_|refine o_region ?_|refine wp_block ?_|refine wp_skip ?_|refine wp_exit ?_|(refine w_condD rfl ?_ ?_<;>intro h)|(refine w_cond rfl ?_ ?_<;>intro h<;>try exact Bool.noConfusion h)|refine w_ret (S) (vs:=[_]) rfl (Res.tmp rfl Res.nil) ?_
  all_goals(simp_all [headOk, lastsOk, within, pack, Int.add_one_le_iff]<;>(try omega))
theorem c63 (E : Env) (S : Ents) (x : UseG) : CallW Tryz.prog E 63 #[.agg (useC x)] S fun r S' => r = iv (if useOk x then 0 else 71) ∧ S' = S := by
  refine call_in (args := [.agg (useC x)]) Tryz.func63 (by decide) rfl rfl ?_
  repeat' first|(refine gX ?_;first|refine o_v rfl rfl ?_|(refine o_splitD rfl rfl rfl ?_ ?_<;>intro h)|(refine o_split rfl rfl rfl ?_ ?_<;>intro h<;>fail_if_success exact Bool.noConfusion h)|(refine gL ?_;first|refine o_load rfl rfl rfl rfl ?_|refine o_loadR rfl rfl rfl (by omega) rfl rfl ?_|refine o_loadW rfl rfl rfl rfl ?_)|(refine gF ?_;first|refine o_fieldI rfl rfl rfl rfl ?_|refine o_field rfl rfl rfl rfl ?_)|(refine gB ?_;first|refine o_add rfl rfl rfl rfl (by omega) ?_|refine o_sub rfl rfl rfl rfl (by omega) ?_|refine o_eqNil rfl rfl rfl rfl rfl ?_)|(refine gC ?_;first|refine o_callF rfl rfl rfl (c130u _ _ x) ?_|refine o_callF rfl rfl rfl (c128 _ _ _ _) ?_)|(refine gI ?_;first|refine o_indexS rfl rfl rfl rfl rfl rfl (by omega) ?_|refine o_index rfl rfl rfl rfl rfl (by omega) ?_)|(refine gS ?_;first|refine o_store rfl rfl rfl rfl rfl rfl ?_|refine o_storeW rfl rfl rfl rfl rfl rfl ?_)|(refine o_alloc rfl rfl ?_;intro _)|(refine o_box rfl rfl rfl ?_;intro _)|refine o_skip rfl rfl ?_|refine o_skipN rfl rfl ?_|refine o_iface rfl rfl rfl ?_|refine o_build rfl rfl rfl rfl rfl ?_|(refine o_bslice rfl rfl rfl rfl rfl rfl rfl ?_;intro _)|(refine o_splitP rfl ?_ ?_<;>intro h<;>fail_if_success exact Bool.noConfusion h))|refine o_head0 rfl ?_|refine o_end ?_|refine o_head1 rfl ?_|refine wp_seq ?_|refine o_region ?_|refine wp_block ?_|refine wp_skip ?_|refine wp_exit ?_|(refine w_condD rfl ?_ ?_<;>intro h)|(refine w_cond rfl ?_ ?_<;>intro h<;>try exact Bool.noConfusion h)|refine w_ret (S) (vs:=[_]) rfl (Res.tmp rfl Res.nil) ?_
  all_goals(simp_all [useOk, pack, iv, headOk, lastsOk, rangeOk, within]<;>(try omega))
theorem c64 (E : Env) (S : Ents) (x : UseG) : CallW Tryz.prog E 64 #[.agg (useC x)] S fun r S' => r = iv (if useOk x then 0 else 71) ∧ S' = S := by
  refine call_in (args := [.agg (useC x)]) Tryz.func64 (by decide) rfl rfl ?_
  repeat' first|(refine gX ?_;first|refine o_v rfl rfl ?_|(refine o_splitD rfl rfl rfl ?_ ?_<;>intro h)|(refine o_split rfl rfl rfl ?_ ?_<;>intro h<;>fail_if_success exact Bool.noConfusion h)|(refine gL ?_;first|refine o_load rfl rfl rfl rfl ?_|refine o_loadR rfl rfl rfl (by omega) rfl rfl ?_|refine o_loadW rfl rfl rfl rfl ?_)|(refine gF ?_;first|refine o_fieldI rfl rfl rfl rfl ?_|refine o_field rfl rfl rfl rfl ?_)|(refine gB ?_;first|refine o_add rfl rfl rfl rfl (by omega) ?_|refine o_sub rfl rfl rfl rfl (by omega) ?_|refine o_eqNil rfl rfl rfl rfl rfl ?_)|(refine gC ?_;first|refine o_callF rfl rfl rfl (c131 _ _ _ _ _ _ _) ?_|refine o_callF rfl rfl rfl (c129 _ _ _ _) ?_)|(refine gI ?_;first|refine o_indexS rfl rfl rfl rfl rfl rfl (by omega) ?_|refine o_index rfl rfl rfl rfl rfl (by omega) ?_)|(refine gS ?_;first|refine o_store rfl rfl rfl rfl rfl rfl ?_|refine o_storeW rfl rfl rfl rfl rfl rfl ?_)|(refine o_alloc rfl rfl ?_;intro _)|(refine o_box rfl rfl rfl ?_;intro _)|refine o_skip rfl rfl ?_|refine o_skipN rfl rfl ?_|refine o_iface rfl rfl rfl ?_|refine o_build rfl rfl rfl rfl rfl ?_|(refine o_bslice rfl rfl rfl rfl rfl rfl rfl ?_;intro _)|(refine o_splitP rfl ?_ ?_<;>intro h<;>fail_if_success exact Bool.noConfusion h))|refine o_head0 rfl ?_|refine o_end ?_|refine o_head1 rfl ?_|refine wp_seq ?_|refine o_region ?_|refine wp_block ?_|refine wp_skip ?_|refine wp_exit ?_|(refine w_condD rfl ?_ ?_<;>intro h)|(refine w_cond rfl ?_ ?_<;>intro h<;>try exact Bool.noConfusion h)|refine w_ret (S) (vs:=[_]) rfl (Res.tmp rfl Res.nil) ?_
  all_goals(simp_all [useOk, pack, iv, headOk, lastsOk, rangeOk, within]<;>(try omega))
theorem c65 (E : Env) (S : Ents) (x : ReadG) : CallW Tryz.prog E 65 #[.agg (readC x)] S fun r S' => r = iv (if readOk x then 0 else 72) ∧ S' = S := by
  refine call_in (args := [.agg (readC x)]) Tryz.func65 (by decide) rfl rfl ?_
  repeat' first|(refine gX ?_;first|refine o_v rfl rfl ?_|(refine o_splitD rfl rfl rfl ?_ ?_<;>intro h)|(refine o_split rfl rfl rfl ?_ ?_<;>intro h<;>fail_if_success exact Bool.noConfusion h)|(refine gL ?_;first|refine o_load rfl rfl rfl rfl ?_|refine o_loadR rfl rfl rfl (by omega) rfl rfl ?_|refine o_loadW rfl rfl rfl rfl ?_)|(refine gF ?_;first|refine o_fieldI rfl rfl rfl rfl ?_|refine o_field rfl rfl rfl rfl ?_)|(refine gB ?_;first|refine o_add rfl rfl rfl rfl (by omega) ?_|refine o_sub rfl rfl rfl rfl (by omega) ?_|refine o_eqNil rfl rfl rfl rfl rfl ?_)|(refine gC ?_;first|refine o_callF rfl rfl rfl (c130r _ _ x) ?_|refine o_callF rfl rfl rfl (c128 _ _ _ _) ?_)|(refine gI ?_;first|refine o_indexS rfl rfl rfl rfl rfl rfl (by omega) ?_|refine o_index rfl rfl rfl rfl rfl (by omega) ?_)|(refine gS ?_;first|refine o_store rfl rfl rfl rfl rfl rfl ?_|refine o_storeW rfl rfl rfl rfl rfl rfl ?_)|(refine o_alloc rfl rfl ?_;intro _)|(refine o_box rfl rfl rfl ?_;intro _)|refine o_skip rfl rfl ?_|refine o_skipN rfl rfl ?_|refine o_iface rfl rfl rfl ?_|refine o_build rfl rfl rfl rfl rfl ?_|(refine o_bslice rfl rfl rfl rfl rfl rfl rfl ?_;intro _)|(refine o_splitP rfl ?_ ?_<;>intro h<;>fail_if_success exact Bool.noConfusion h))|refine o_head0 rfl ?_|refine o_end ?_|refine o_head1 rfl ?_|refine wp_seq ?_|refine o_region ?_|refine wp_block ?_|refine wp_skip ?_|refine wp_exit ?_|(refine w_condD rfl ?_ ?_<;>intro h)|(refine w_cond rfl ?_ ?_<;>intro h<;>try exact Bool.noConfusion h)|refine w_ret (S) (vs:=[_]) rfl (Res.tmp rfl Res.nil) ?_
  all_goals(simp_all [readOk, pack, iv, headOk, lastsOk, rangeOk, within]<;>(try omega))
theorem c66 (E : Env) (S : Ents) (x : ReadG) : CallW Tryz.prog E 66 #[.agg (readC x)] S fun r S' => r = iv (if readOk x then 0 else 72) ∧ S' = S := by
  refine call_in (args := [.agg (readC x)]) Tryz.func66 (by decide) rfl rfl ?_
  repeat' first|(refine gX ?_;first|refine o_v rfl rfl ?_|(refine o_splitD rfl rfl rfl ?_ ?_<;>intro h)|(refine o_split rfl rfl rfl ?_ ?_<;>intro h<;>fail_if_success exact Bool.noConfusion h)|(refine gL ?_;first|refine o_load rfl rfl rfl rfl ?_|refine o_loadR rfl rfl rfl (by omega) rfl rfl ?_|refine o_loadW rfl rfl rfl rfl ?_)|(refine gF ?_;first|refine o_fieldI rfl rfl rfl rfl ?_|refine o_field rfl rfl rfl rfl ?_)|(refine gB ?_;first|refine o_add rfl rfl rfl rfl (by omega) ?_|refine o_sub rfl rfl rfl rfl (by omega) ?_|refine o_eqNil rfl rfl rfl rfl rfl ?_)|(refine gC ?_;first|refine o_callF rfl rfl rfl (c131 _ _ _ _ _ _ _) ?_|refine o_callF rfl rfl rfl (c129 _ _ _ _) ?_)|(refine gI ?_;first|refine o_indexS rfl rfl rfl rfl rfl rfl (by omega) ?_|refine o_index rfl rfl rfl rfl rfl (by omega) ?_)|(refine gS ?_;first|refine o_store rfl rfl rfl rfl rfl rfl ?_|refine o_storeW rfl rfl rfl rfl rfl rfl ?_)|(refine o_alloc rfl rfl ?_;intro _)|(refine o_box rfl rfl rfl ?_;intro _)|refine o_skip rfl rfl ?_|refine o_skipN rfl rfl ?_|refine o_iface rfl rfl rfl ?_|refine o_build rfl rfl rfl rfl rfl ?_|(refine o_bslice rfl rfl rfl rfl rfl rfl rfl ?_;intro _)|(refine o_splitP rfl ?_ ?_<;>intro h<;>fail_if_success exact Bool.noConfusion h))|refine o_head0 rfl ?_|refine o_end ?_|refine o_head1 rfl ?_|refine wp_seq ?_|refine o_region ?_|refine wp_block ?_|refine wp_skip ?_|refine wp_exit ?_|(refine w_condD rfl ?_ ?_<;>intro h)|(refine w_cond rfl ?_ ?_<;>intro h<;>try exact Bool.noConfusion h)|refine w_ret (S) (vs:=[_]) rfl (Res.tmp rfl Res.nil) ?_
  all_goals(simp_all [readOk, pack, iv, headOk, lastsOk, rangeOk, within]<;>(try omega))
theorem c67 (E : Env) (S : Ents) (x : FaultG) : CallW Tryz.prog E 67 #[.agg (faultC x)] S fun r S' => r = iv (if faultOk x then 0 else 79) ∧ S' = S := by
  refine call_in (args := [.agg (faultC x)]) Tryz.func67 (by decide) rfl rfl ?_
  repeat' first|(refine gX ?_;first|refine o_v rfl rfl ?_|(refine o_splitD rfl rfl rfl ?_ ?_<;>intro h)|(refine o_split rfl rfl rfl ?_ ?_<;>intro h<;>fail_if_success exact Bool.noConfusion h)|(refine gL ?_;first|refine o_load rfl rfl rfl rfl ?_|refine o_loadR rfl rfl rfl (by omega) rfl rfl ?_|refine o_loadW rfl rfl rfl rfl ?_)|(refine gF ?_;first|refine o_fieldI rfl rfl rfl rfl ?_|refine o_field rfl rfl rfl rfl ?_)|(refine gB ?_;first|refine o_add rfl rfl rfl rfl (by omega) ?_|refine o_sub rfl rfl rfl rfl (by omega) ?_|refine o_eqNil rfl rfl rfl rfl rfl ?_)|(refine gC ?_;first|refine o_callF rfl rfl rfl (c130f _ _ x) ?_|refine o_callF rfl rfl rfl (c104 _ _ _ _ _) ?_)|(refine gI ?_;first|refine o_indexS rfl rfl rfl rfl rfl rfl (by omega) ?_|refine o_index rfl rfl rfl rfl rfl (by omega) ?_)|(refine gS ?_;first|refine o_store rfl rfl rfl rfl rfl rfl ?_|refine o_storeW rfl rfl rfl rfl rfl rfl ?_)|(refine o_alloc rfl rfl ?_;intro _)|(refine o_box rfl rfl rfl ?_;intro _)|refine o_skip rfl rfl ?_|refine o_skipN rfl rfl ?_|refine o_iface rfl rfl rfl ?_|refine o_build rfl rfl rfl rfl rfl ?_|(refine o_bslice rfl rfl rfl rfl rfl rfl rfl ?_;intro _)|(refine o_splitP rfl ?_ ?_<;>intro h<;>fail_if_success exact Bool.noConfusion h))|refine o_head0 rfl ?_|refine o_end ?_|refine o_head1 rfl ?_|refine wp_seq ?_|refine o_region ?_|refine wp_block ?_|refine wp_skip ?_|refine wp_exit ?_|(refine w_condD rfl ?_ ?_<;>intro h)|(refine w_cond rfl ?_ ?_<;>intro h<;>try exact Bool.noConfusion h)|refine w_ret (S) (vs:=[_]) rfl (Res.tmp rfl Res.nil) ?_
  all_goals(simp_all [faultOk, pack, iv, headOk, lastsOk, rangeOk, within]<;>(try omega))
theorem c68 (E : Env) (S : Ents) (x : FaultG) : CallW Tryz.prog E 68 #[.agg (faultC x)] S fun r S' => r = iv (if faultOk x then 0 else 79) ∧ S' = S := by
  refine call_in (args := [.agg (faultC x)]) Tryz.func68 (by decide) rfl rfl ?_
  repeat' first|(refine gX ?_;first|refine o_v rfl rfl ?_|(refine o_splitD rfl rfl rfl ?_ ?_<;>intro h)|(refine o_split rfl rfl rfl ?_ ?_<;>intro h<;>fail_if_success exact Bool.noConfusion h)|(refine gL ?_;first|refine o_load rfl rfl rfl rfl ?_|refine o_loadR rfl rfl rfl (by omega) rfl rfl ?_|refine o_loadW rfl rfl rfl rfl ?_)|(refine gF ?_;first|refine o_fieldI rfl rfl rfl rfl ?_|refine o_field rfl rfl rfl rfl ?_)|(refine gB ?_;first|refine o_add rfl rfl rfl rfl (by omega) ?_|refine o_sub rfl rfl rfl rfl (by omega) ?_|refine o_eqNil rfl rfl rfl rfl rfl ?_)|(refine gC ?_;first|refine o_callF rfl rfl rfl (c131 _ _ _ _ _ _ _) ?_|refine o_callF rfl rfl rfl (c29 _ _ _ _ _) ?_)|(refine gI ?_;first|refine o_indexS rfl rfl rfl rfl rfl rfl (by omega) ?_|refine o_index rfl rfl rfl rfl rfl (by omega) ?_)|(refine gS ?_;first|refine o_store rfl rfl rfl rfl rfl rfl ?_|refine o_storeW rfl rfl rfl rfl rfl rfl ?_)|(refine o_alloc rfl rfl ?_;intro _)|(refine o_box rfl rfl rfl ?_;intro _)|refine o_skip rfl rfl ?_|refine o_skipN rfl rfl ?_|refine o_iface rfl rfl rfl ?_|refine o_build rfl rfl rfl rfl rfl ?_|(refine o_bslice rfl rfl rfl rfl rfl rfl rfl ?_;intro _)|(refine o_splitP rfl ?_ ?_<;>intro h<;>fail_if_success exact Bool.noConfusion h))|refine o_head0 rfl ?_|refine o_end ?_|refine o_head1 rfl ?_|refine wp_seq ?_|refine o_region ?_|refine wp_block ?_|refine wp_skip ?_|refine wp_exit ?_|(refine w_condD rfl ?_ ?_<;>intro h)|(refine w_cond rfl ?_ ?_<;>intro h<;>try exact Bool.noConfusion h)|refine w_ret (S) (vs:=[_]) rfl (Res.tmp rfl Res.nil) ?_
  all_goals(simp_all [faultOk, pack, iv, headOk, lastsOk, rangeOk, within]<;>(try omega))
theorem c69 (E : Env) (S : Ents) (x : PriceG) : CallW Tryz.prog E 69 #[.agg (priceC x)] S fun r S' => r = iv (if priceOk x then 0 else 73) ∧ S' = S := by
  refine call_in (args := [.agg (priceC x)]) Tryz.func69 (by decide) rfl rfl ?_
  repeat' first|(refine gX ?_;first|refine o_v rfl rfl ?_|(refine o_splitD rfl rfl rfl ?_ ?_<;>intro h)|(refine o_split rfl rfl rfl ?_ ?_<;>intro h<;>fail_if_success exact Bool.noConfusion h)|(refine gL ?_;first|refine o_load rfl rfl rfl rfl ?_|refine o_loadR rfl rfl rfl (by omega) rfl rfl ?_|refine o_loadW rfl rfl rfl rfl ?_)|(refine gF ?_;first|refine o_fieldI rfl rfl rfl rfl ?_|refine o_field rfl rfl rfl rfl ?_)|(refine gB ?_;first|refine o_add rfl rfl rfl rfl (by omega) ?_|refine o_sub rfl rfl rfl rfl (by omega) ?_|refine o_eqNil rfl rfl rfl rfl rfl ?_)|(refine gC ?_;first|refine o_callF rfl rfl rfl (c132 _ _ _) ?_|refine o_callF rfl rfl rfl (c104 _ _ _ _ _) ?_)|(refine gI ?_;first|refine o_indexS rfl rfl rfl rfl rfl rfl (by omega) ?_|refine o_index rfl rfl rfl rfl rfl (by omega) ?_)|(refine gS ?_;first|refine o_store rfl rfl rfl rfl rfl rfl ?_|refine o_storeW rfl rfl rfl rfl rfl rfl ?_)|(refine o_alloc rfl rfl ?_;intro _)|(refine o_box rfl rfl rfl ?_;intro _)|refine o_skip rfl rfl ?_|refine o_skipN rfl rfl ?_|refine o_iface rfl rfl rfl ?_|refine o_build rfl rfl rfl rfl rfl ?_|(refine o_bslice rfl rfl rfl rfl rfl rfl rfl ?_;intro _)|(refine o_splitP rfl ?_ ?_<;>intro h<;>fail_if_success exact Bool.noConfusion h))|refine o_head0 rfl ?_|refine o_end ?_|refine o_head1 rfl ?_|refine wp_seq ?_|refine o_region ?_|refine wp_block ?_|refine wp_skip ?_|refine wp_exit ?_|(refine w_condD rfl ?_ ?_<;>intro h)|(refine w_cond rfl ?_ ?_<;>intro h<;>try exact Bool.noConfusion h)|refine w_ret (S) (vs:=[_]) rfl (Res.tmp rfl Res.nil) ?_
  all_goals(simp_all [priceOk, pack, iv, headOk, lastsOk, rangeOk, within]<;>(try omega))
theorem c70 (E : Env) (S : Ents) (x : PriceG) : CallW Tryz.prog E 70 #[.agg (priceC x)] S fun r S' => r = iv (if priceOk x then 0 else 73) ∧ S' = S := by
  refine call_in (args := [.agg (priceC x)]) Tryz.func70 (by decide) rfl rfl ?_
  repeat' first|(refine gX ?_;first|refine o_v rfl rfl ?_|(refine o_splitD rfl rfl rfl ?_ ?_<;>intro h)|(refine o_split rfl rfl rfl ?_ ?_<;>intro h<;>fail_if_success exact Bool.noConfusion h)|(refine gL ?_;first|refine o_load rfl rfl rfl rfl ?_|refine o_loadR rfl rfl rfl (by omega) rfl rfl ?_|refine o_loadW rfl rfl rfl rfl ?_)|(refine gF ?_;first|refine o_fieldI rfl rfl rfl rfl ?_|refine o_field rfl rfl rfl rfl ?_)|(refine gB ?_;first|refine o_add rfl rfl rfl rfl (by omega) ?_|refine o_sub rfl rfl rfl rfl (by omega) ?_|refine o_eqNil rfl rfl rfl rfl rfl ?_)|(refine gC ?_;first|refine o_callF rfl rfl rfl (c29 _ _ _ _ _) ?_)|(refine gI ?_;first|refine o_indexS rfl rfl rfl rfl rfl rfl (by omega) ?_|refine o_index rfl rfl rfl rfl rfl (by omega) ?_)|(refine gS ?_;first|refine o_store rfl rfl rfl rfl rfl rfl ?_|refine o_storeW rfl rfl rfl rfl rfl rfl ?_)|(refine o_alloc rfl rfl ?_;intro _)|(refine o_box rfl rfl rfl ?_;intro _)|refine o_skip rfl rfl ?_|refine o_skipN rfl rfl ?_|refine o_iface rfl rfl rfl ?_|refine o_build rfl rfl rfl rfl rfl ?_|(refine o_bslice rfl rfl rfl rfl rfl rfl rfl ?_;intro _)|(refine o_splitP rfl ?_ ?_<;>intro h<;>fail_if_success exact Bool.noConfusion h))|refine o_head0 rfl ?_|refine o_end ?_|refine o_head1 rfl ?_|refine wp_seq ?_|refine o_region ?_|refine wp_block ?_|refine wp_skip ?_|refine wp_exit ?_|(refine w_condD rfl ?_ ?_<;>intro h)|(refine w_cond rfl ?_ ?_<;>intro h<;>try exact Bool.noConfusion h)|refine w_ret (S) (vs:=[_]) rfl (Res.tmp rfl Res.nil) ?_
  all_goals(simp_all [priceOk, pack, iv, headOk, lastsOk, rangeOk, within]<;>(try omega))
theorem c109 (E : Env) (S : Ents) (a b c : Int) : CallW Tryz.prog E 109 #[iv a, iv b, iv c] S fun r S' => r = .bool (countsB a b c) ∧ S' = S := by
  refine call_in (args := [iv a, iv b, iv c]) Tryz.func109 (by decide) rfl rfl ?_
  repeat' first|(refine gX ?_;first|refine o_v rfl rfl ?_|(refine o_splitD rfl rfl rfl ?_ ?_<;>intro h)|(refine o_split rfl rfl rfl ?_ ?_<;>intro h<;>fail_if_success exact Bool.noConfusion h)|(refine gL ?_;first|refine o_load rfl rfl rfl rfl ?_|refine o_loadR rfl rfl rfl (by omega) rfl rfl ?_|refine o_loadW rfl rfl rfl rfl ?_)|(refine gF ?_;first|refine o_fieldI rfl rfl rfl rfl ?_|refine o_field rfl rfl rfl rfl ?_)|(refine gB ?_;first|refine o_add rfl rfl rfl rfl (by omega) ?_|refine o_sub rfl rfl rfl rfl (by omega) ?_|refine o_eqNil rfl rfl rfl rfl rfl ?_)|(refine gI ?_;first|refine o_indexS rfl rfl rfl rfl rfl rfl (by omega) ?_|refine o_index rfl rfl rfl rfl rfl (by omega) ?_)|(refine gS ?_;first|refine o_store rfl rfl rfl rfl rfl rfl ?_|refine o_storeW rfl rfl rfl rfl rfl rfl ?_)|(refine o_alloc rfl rfl ?_;intro _)|(refine o_box rfl rfl rfl ?_;intro _)|refine o_skip rfl rfl ?_|refine o_skipN rfl rfl ?_|refine o_iface rfl rfl rfl ?_|refine o_build rfl rfl rfl rfl rfl ?_|(refine o_bslice rfl rfl rfl rfl rfl rfl rfl ?_;intro _)|(refine o_splitP rfl ?_ ?_<;>intro h<;>fail_if_success exact Bool.noConfusion h))|refine o_head0 rfl ?_|refine o_end ?_|refine o_head1 rfl ?_|refine wp_seq ?_|refine o_region ?_|refine wp_block ?_|refine wp_skip ?_|refine wp_exit ?_|(refine w_condD rfl ?_ ?_<;>intro h)|(refine w_cond rfl ?_ ?_<;>intro h<;>try exact Bool.noConfusion h)|refine w_ret (S) (vs:=[_]) rfl (Res.tmp rfl Res.nil) ?_
  all_goals(simp_all [countsB, pack]<;>(try omega))
end Go.Proofs.YtpnnmklacialgaaGreat
