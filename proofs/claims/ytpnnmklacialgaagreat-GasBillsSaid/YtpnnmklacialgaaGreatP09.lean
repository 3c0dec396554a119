/- Sends, receives, a go statement, a deferred closing; a helper from its start to its closing.
   The postings of a date go down a channel.
   The helper that sends the postings; the postings as they are received.
   The postings, received; Posts; Balance.
   The chapter's examples: the net.
   GasConflicts: Conflict, CheckConflict and Moved agree with the specification.
   Sorting a list of numbers, however long: the parts of the sort. -/
import Derived.Test.YtpnnmklacialgaaGreatP08
import Derived.Conc.EventLaws
set_option linter.unusedVariables false
set_option linter.unusedSimpArgs false
namespace Go.Proofs.YtpnnmklacialgaaGreat
open Go.Conc
def chanT (P : Program) (t : Nat) : Option Nat := match P.underlying t with | some (.chan _ e) => some e | _ => none
theorem chanT_ok {P : Program} {t e : Nat} (h : chanT P t = some e) : ∃ d, P.underlying t = some (.chan d e) := by
  unfold chanT at h
  split at h
  · cases h; exact ⟨_, by assumption⟩
  · cases h
theorem runT_underlying {P : Program} {t : Nat} {d : TypeDesc} (h : P.underlying t = some d) (w : World) (es : Array Event) : (underlying t).runT P w es = (.ok d w, es) := by
  unfold underlying
  show (Sem.bind program _).runT P w es = _
  simp only [program, Sem.bind, Sem.runT, h]
  rfl
def zeroV (P : Program) (t : Nat) : Option Value := (P.info? t).bind (·.zero)
theorem runT_zero {P : Program} {t : Nat} {v : Value} (h : zeroV P t = some v) (w : World) (es : Array Event) : (zeroValue t).runT P w es = (.ok v w, es) := by
  unfold zeroV at h
  cases hi : P.info? t with
  | none => simp [hi] at h
  | some i =>
    simp only [hi, Option.bind_some] at h
    unfold zeroValue typeInfo
    show (Sem.bind (Sem.bind program _) _).runT P w es = _
    simp only [program, Sem.bind, Sem.runT, hi]
    show (Sem.runT P (match i.zero with | some v => pure v | none => _) w es) = _
    rw [h]
    rfl
section
variable {P : Program} {E : Env} {fn n : Nat} {Q : PostM} {t : Tm} {ds : List Deferred} {S : Ents} {ops : Array Oper} {i : Nat} {rest : List Nat} {K : Mode → Tm → List Deferred → Ents → Prop} {l : TL} {ty : TypeId} {pos : String} {af : Array Edge}
theorem opsM_send {ro : Nat → Prop} {c : Nat} {v : Value} {L : List Value} {x y : Operand} (ho : ops[i]? = some ⟨none, .send x y, ty, pos, af, none⟩) (hE : E.main = false ∧ E.X = XC P ∧ E.m = ⟨ro, .send c (v :: L)⟩)
    (hx : evL l t x = some (.chan (some c))) (hy : evL l t y = some v) (h : OpsM P (E.at ⟨ro, .send c L⟩) fn n ops rest K (den l t) ds S) : OpsM P E fn n ops (i :: rest) K (den l t) ds S := by
  obtain ⟨hm, hX, hmo⟩ := hE
  intro F b arr k cs w O Stop h1 h2 h3 h4 h5
  have hstep : ∀ w₁, stepG P E.main (G (b.st arr ds (.inRegion ops (i :: rest) :: k)) cs) w₁ = .comm (G (b.st arr ds (.inRegion ops (i :: rest) :: k)) cs) #[scase c v (.tuple #[])] true .send w₁ #[] := fun w₁ => by
    rw [st_oper h3 ho rfl rfl]
    have hrun : (execOp (ev (den l t)) (⟨none, .send x y, ty, pos, af, none⟩ : Oper)).runT P w₁ #[] = (.ok (.comm #[scase c v (.tuple #[])] true .send) w₁, #[]) := by
      unfold execOp
      simp only [evL_eq hx, evL_eq hy]
      rfl
    unfold stepG.apply
    have hk : (b.kind == CallKind.early) = false := by simpa using h2.1
    simp [hrun, -Sem.runT_eq, G, Frame.st, hk, GStep.after, seen_none]
  unfold RunE
  rw [hm] at hstep
  rw [hX, hmo]
  refine Run.extra (fun m' g' w' O' => m' = ⟨ro, .send c L⟩ ∧ g' = G (b.st arr ds (.inRegion ops rest :: k)) cs ∧ Rely O ⟨ro, .send c (v :: L)⟩ w w' ∧ O' = O) (fun w₁ hr => ⟨rfl, c, v, L, _, _, rfl, hstep w₁, rfl, ?_, hr, rfl⟩) ?_
  · simp only [Conc.served, G]
    rw [finish_st ho]
    rfl
  · rintro _ _ w' O' ⟨rfl, rfl, hr, rfl⟩
    have hh : Holds (S ++ F) w' O' ro := by
      rw [hmo] at h4
      exact Holds.rely h4 hr
    have := h F b arr k cs w' O' Stop h1 h2 h3 hh h5
    unfold RunE at this
    change Run P E.main E.X Stop _ _ _ _ at this
    rw [hX] at this
    exact this
theorem opsM_recv {ro : Nat → Prop} {c : Nat} {v z : Value} {L : List Value} {x : Operand} {ct e d : Nat} (ho : ops[i]? = some ⟨some d, .recv ct x true, ty, pos, af, none⟩) (hd : Nat.blt d n = true) (hE : E.main = true ∧ E.X = XM P ∧ E.m = ⟨ro, .recv c (v :: L)⟩)
    (hc : chanT P ct = some e) (hz : zeroV P e = some z) (hx : evL l t x = some (.chan (some c))) (h : OpsM P (E.at ⟨ro, .recv c L⟩) fn n ops rest K (den ((d, .tuple #[v, .bool true]) :: l) t) ds S) : OpsM P E fn n ops (i :: rest) K (den l t) ds S := by
  obtain ⟨hm, hX, hmo⟩ := hE
  obtain ⟨dir, hu⟩ := chanT_ok hc
  intro F b arr k cs w O Stop h1 h2 h3 h4 h5
  have hstep : ∀ w₁, stepG P E.main (G (b.st arr ds (.inRegion ops (i :: rest) :: k)) cs) w₁ = .comm (G (b.st arr ds (.inRegion ops (i :: rest) :: k)) cs) #[rcase c z] true (.recv true) w₁ #[] := fun w₁ => by
    rw [st_oper h3 ho rfl rfl]
    have hrun : (execOp (ev (den l t)) (⟨some d, .recv ct x true, ty, pos, af, none⟩ : Oper)).runT P w₁ #[] = (.ok (.comm #[rcase c z] true (.recv true)) w₁, #[]) := by
      unfold execOp
      simp only [evL_eq hx]
      show (Sem.bind _ _).runT P w₁ #[] = _
      rw [Sem.runT_bind', runT_underlying hu]
      show (Sem.bind _ _).runT P w₁ #[] = _
      rw [Sem.runT_bind', runT_zero hz]
      rfl
    unfold stepG.apply
    have hk : (b.kind == CallKind.early) = false := by simpa using h2.1
    simp [hrun, -Sem.runT_eq, G, Frame.st, hk, GStep.after, seen_none]
  unfold RunE
  rw [hm] at hstep
  rw [hX, hmo, hm]
  refine Run.extra (fun m' g' w' O' => m' = ⟨ro, .recv c L⟩ ∧ g' = G (b.st (setD arr (some d) (.tuple #[v, .bool true])) ds (.inRegion ops rest :: k)) cs ∧ Rely O ⟨ro, .recv c (v :: L)⟩ w w' ∧ O' = O) (fun w₁ hr => ⟨rfl, rfl, z, hstep w₁, rfl, ?_, hr, rfl⟩) ?_
  · simp only [Conc.served, G]
    rw [finish_st ho]
  · rintro _ _ w' O' ⟨rfl, rfl, hr, rfl⟩
    have hh : Holds (S ++ F) w' O' ro := by
      rw [hmo] at h4
      exact Holds.rely h4 hr
    have := h F b _ k cs w' O' Stop h1 h2 (h3.seto (d := some d) hd _) hh h5
    unfold RunE at this
    change Run P E.main E.X Stop _ _ _ _ at this
    rw [hX, hm] at this
    exact this
theorem opsM_recvEnd (ro' : Nat → Prop) {ro : Nat → Prop} {c : Nat} {z : Value} {x : Operand} {ct e d : Nat} (ho : ops[i]? = some ⟨some d, .recv ct x true, ty, pos, af, none⟩) (hd : Nat.blt d n = true) (hE : E.main = true ∧ E.X = XM P ∧ E.m = ⟨ro, .recv c []⟩)
    (hc : chanT P ct = some e) (hz : zeroV P e = some z) (hx : evL l t x = some (.chan (some c))) (h : OpsM P (E.at ⟨ro', .plain⟩) fn n ops rest K (den ((d, .tuple #[z, .bool false]) :: l) t) ds S) : OpsM P E fn n ops (i :: rest) K (den l t) ds S := by
  obtain ⟨hm, hX, hmo⟩ := hE
  obtain ⟨dir, hu⟩ := chanT_ok hc
  intro F b arr k cs w O Stop h1 h2 h3 h4 h5
  have hstep : ∀ w₁, stepG P E.main (G (b.st arr ds (.inRegion ops (i :: rest) :: k)) cs) w₁ = .comm (G (b.st arr ds (.inRegion ops (i :: rest) :: k)) cs) #[rcase c z] true (.recv true) w₁ #[] := fun w₁ => by
    rw [st_oper h3 ho rfl rfl]
    have hrun : (execOp (ev (den l t)) (⟨some d, .recv ct x true, ty, pos, af, none⟩ : Oper)).runT P w₁ #[] = (.ok (.comm #[rcase c z] true (.recv true)) w₁, #[]) := by
      unfold execOp
      simp only [evL_eq hx]
      show (Sem.bind _ _).runT P w₁ #[] = _
      rw [Sem.runT_bind', runT_underlying hu]
      show (Sem.bind _ _).runT P w₁ #[] = _
      rw [Sem.runT_bind', runT_zero hz]
      rfl
    unfold stepG.apply
    have hk : (b.kind == CallKind.early) = false := by simpa using h2.1
    simp [hrun, -Sem.runT_eq, G, Frame.st, hk, GStep.after, seen_none]
  unfold RunE
  rw [hm] at hstep
  rw [hX, hmo, hm]
  refine Run.extra (fun m' g' w' O' => m' = ⟨ro', .plain⟩ ∧ g' = G (b.st (setD arr (some d) (.tuple #[z, .bool false])) ds (.inRegion ops rest :: k)) cs ∧ Rely O ⟨ro, .recv c []⟩ w w' ∧ O' = fun _ => True) (fun w₁ hr => ⟨rfl, rfl, z, hstep w₁, ro', fun _ => True, rfl, ?_, hr, rfl⟩) ?_
  · simp only [Conc.served, G]
    rw [finish_st ho]
  · rintro _ _ w' _ ⟨rfl, rfl, hr, rfl⟩
    have hh : Holds (S ++ F) w' (fun _ => True) ro' := by
      rw [hmo] at h4
      have := Holds.rely h4 hr
      exact ⟨fun e he => ⟨(this.each e he).1, .inl trivial⟩, this.apart⟩
    have := h F b _ k cs w' _ Stop h1 h2 (h3.seto (d := some d) hd _) hh h5
    unfold RunE at this
    change Run P E.main E.X Stop _ _ _ _ at this
    rw [hX, hm] at this
    exact this
def topF (P : Program) : Frame := { (default : Frame) with fn := P.funcs.size, defers := [], mode := .panicking [goexitEntry] }
def childG (P : Program) (d : Deferred) : Goroutine := { frame := { (default : Frame) with fn := P.funcs.size, defers := [d], mode := .panicking [goexitEntry] }, callers := [], status := .running, dying := none }
def closeD (c : Nat) (ats : Array TypeId) (ty : TypeId) (cst : Array Bool) : Deferred := { target := .builtin .close ats ty cst, args := #[.chan (some c)] }
theorem opsM_defer {c j : Nat} {ats : Array TypeId} (ho : ops[i]? = some ⟨none, .defer { callee := .builtin .close, args := #[.tmp j], argTypes := ats }, ty, pos, af, none⟩) (hrd : E.rd = false) (hx : evL l t (.tmp j) = some (.chan (some c)))
    (h : OpsM P E fn n ops rest K (den l t) (closeD c ats ty #[false] :: ds) S) : OpsM P E fn n ops (i :: rest) K (den l t) ds S := by
  intro F b arr k cs w O Stop h1 h2 h3 h4 h5
  have hro : b.roundOf = none := h2.2 hrd
  have hrun : ∀ w₁, (execOp (ev (den l t)) (⟨none, .defer { callee := .builtin .close, args := #[.tmp j], argTypes := ats }, ty, pos, af, none⟩ : Oper)).runT P w₁ #[] = (.ok (.defer (closeD c ats ty #[false])) w₁, #[]) := fun w₁ => by
    unfold execOp
    simp only [resolve]
    simp only [List.map_toArray, List.map_cons, List.map_nil, evL_eq hx]
    rfl
  refine RunE.silent (g' := G (b.st arr (closeD c ats ty #[false] :: ds) (.inRegion ops rest :: k)) cs) rfl (fun w₁ => ?_) fun w₁ hrel => h F b arr k cs w₁ O Stop h1 h2 h3 (h4.rely hrel) h5
  have he := eval_st (b := b) (ds := ds) (k := .inRegion ops (i :: rest) :: k) h3
  have hw' : Region.wanted (⟨none, .defer { callee := .builtin .close, args := #[.tmp j], argTypes := ats }, ty, pos, af, none⟩ : Oper) (yielded ops arr) = true := rfl
  simp only [Frame.st] at he
  rw [hro] at he
  have hk : (b.kind == CallKind.early) = false := by simpa using h2.1
  unfold stepG
  simp only [G, Frame.st, stepG.exec, ho, Option.map_some, Option.getD_some, hw', if_true, stepG.oper, Frame.oper?, he, hro]
  unfold stepG.apply
  simp [hrun, -Sem.runT_eq, hk, GStep.after, seen_none, Frame.finish, ho]
theorem st_start {f : FuncId} {args cap : Array Value} (h : Enters P f) (w : World) : stepG P false (childG P { target := .fn (.func f) cap, args := args }) w = .go (G (Frame.enter P f (args ++ cap) .deferred) [topF P]) w #[] := by
  have := run_callFunc h (args ++ cap) w #[]
  simp [childG, stepG, unwind, callDeferred, invoke, this, -Sem.runT_eq, GStep.after, seen_none, G, topF]
theorem st_close {b : Frame} {arr : Array Value} {k : List Item} {c : Nat} {ats : Array TypeId} {cst : Array Bool} {cs : List Frame} {w : World} {s r : Nat} {tm : Bool} (hc : w.heap[c]? = some (.chan 0 #[] false s r tm)) :
    stepG P false (G { b.st arr [closeD c ats ty cst] k with mode := .returning } cs) w = .go (G { b.st arr [] k with mode := .returning } cs) (w.shut c s r tm) #[⟨.obj c, false, true⟩, ⟨.obj c, true, true⟩] := by
  have hrun : (invoke (closeD c ats ty cst).target (closeD c ats ty cst).args).runT P w #[] = (.ok (.value (.tuple #[])) (w.shut c s r tm), #[⟨.obj c, false, true⟩, ⟨.obj c, true, true⟩]) := by
    show (Sem.bind (Builtin.close_ ats ty #[.chan (some c)]) _).runT P w #[] = _
    rw [Sem.runT_bind', Sem.runT_eq P (Builtin.close_ ats ty #[.chan (some c)]), run_close_open _ _ hc, events_close_open _ _ hc]
    rfl
  have hseen : seen P b.fn #[⟨.obj c, false, true⟩, ⟨.obj c, true, true⟩] = #[⟨.obj c, false, true⟩, ⟨.obj c, true, true⟩] := by
    simp [seen]
  unfold stepG
  simp only [G, Frame.st, unwind, closeD, callDeferred]
  simp only [closeD] at hrun
  simp [hrun, -Sem.runT_eq, GStep.after, hseen]
theorem quits_end {b : Frame} {fr : Func} {arr : Array Value} {k : List Item} (hf : P.funcs[b.fn]? = some fr) (hk : b.kind = .deferred) (hr : fr.results = #[]) : QuitsIn P 2 (G { b.st arr [] k with mode := .returning } [topF P]) := by
  refine .inr ⟨rfl, G (topF P) [], fun w => ?_, .inr ⟨rfl, { frame := topF P, callers := [], status := .finished, dying := none }, fun w => ?_, rfl⟩⟩
  · simp [G, stepG, unwind, Frame.st, hf, results, hr, doReturn, hk, topF, goexitEntry, GStep.after, seen_none]
  · have hn : P.funcs[P.funcs.size]? = none := by simp
    simp [G, stepG, unwind, topF, Frame.catches, goexitEntry, hn, default, instInhabitedFrame.default]
theorem runC_of {ro : Nat → Prop} {c : Nat} {L : List Value} {f : FuncId} {fr : Func} {code : Code} {cap : List Value} {R : Ents} {w : World} {Oc : Nat → Prop} (hf : P.funcs[f]? = some fr) (hname : (fr.name == "runtime.NumGoroutine") = false) (hb : fr.body = some code) (hres : fr.results = #[]) (hargs : Nat.ble cap.length fr.ntmps = true)
    (h : WM P ⟨false, XC P, ⟨ro, .send c L⟩, false⟩ f fr.ntmps code (fun m' e t ds S => m' = ⟨ro, .send c []⟩ ∧ (e = .normal ∨ e = .ret) ∧ ∃ ats ty cst, ds = [closeD c ats ty cst]) (den (dens cap 0) fun _ => undef) [] R) (hh : Holds R w Oc ro) :
    RunC P c ro L (childG P { target := .fn (.func f) cap.toArray, args := #[] }) w Oc := by
  have hen : Enters P f := ⟨fr, hf, hname, by rw [hb]; rfl⟩
  have hag : Agree fr.ntmps (cap.toArray ++ Array.replicate (fr.ntmps - cap.toArray.size) undef) (den (dens cap 0) fun _ => undef) := by
    have := agree_enter (ntm := fr.ntmps) (args := cap.toArray) (by simpa using Nat.le_of_ble_eq_true hargs)
    refine ⟨this.size, fun i => ?_⟩
    rw [this.get, den_dens]
    simp [enterT, Array.getD, List.getD_eq_getElem?_getD]
    split <;> simp_all
  refine Run.step rfl fun w₁ hr => ⟨_, w₁, #[], st_start hen w₁, Guar.idle _ _ _, ?_⟩
  rw [grow_self]
  have e : Frame.enter P f (#[] ++ cap.toArray) .deferred = ({ base f with kind := .deferred } : Frame).st (cap.toArray ++ Array.replicate (fr.ntmps - cap.toArray.size) undef) [] [.code code] := by
    simp [Frame.enter, Frame.st, base, hf, hb, default, instInhabitedFrame.default]
  rw [e]
  have hst : ∀ (arr : Array Value) (k : List Item) (w : World) (O : Nat → Prop) (ats : Array TypeId) (ty : TypeId) (cst : Array Bool), StC P ⟨ro, .send c []⟩ (G { ({ base f with kind := .deferred } : Frame).st arr [closeD c ats ty cst] k with mode := .returning } [topF P]) w O := fun arr k w O ats ty cst =>
    ⟨rfl, c, rfl, rfl, _, 2, fun w s r tm hc => st_close hc, quits_end hf rfl hres⟩
  refine h [] _ _ [] [topF P] w₁ Oc (StC P) rfl ⟨by simp, fun _ => rfl⟩ hag (by rw [List.append_nil]; exact Holds.rely (m := ⟨ro, .send c L⟩) hh hr) fun m' e t' ds' S' arr' w' O' q ha hh' => ?_
  obtain ⟨rfl, he, ats, ty, cst, rfl⟩ := q
  rcases he with rfl | rfl
  · refine RunE.silent (g' := G { ({ base f with kind := .deferred } : Frame).st arr' [closeD c ats ty cst] [] with mode := .returning } [topF P]) rfl (fun _ => by simp [G, stepG, stepG.exec, Frame.st, base, default, instInhabitedFrame.default]) fun w₂ hr₂ => ?_
    exact Run.stop fun w₃ _ => hst _ _ _ _ _ _ _
  · intro k'
    refine RunE.silent (g' := G { ({ base f with kind := .deferred } : Frame).st arr' [closeD c ats ty cst] (.code .ret :: k') with mode := .returning } [topF P]) rfl (fun _ => by simp [G, stepG, stepG.exec, Frame.st, base, default, instInhabitedFrame.default]) fun w₂ hr₂ => ?_
    exact Run.stop fun w₃ _ => hst _ _ _ _ _ _ _
theorem two_of {R : Ent → Ent → Prop} (hs : ∀ x y, R x y → R y x) : ∀ {l : Ents}, l.Pairwise R → ∀ x ∈ l, ∀ y ∈ l, x ≠ y → R x y
  | [], _, x, hx, _, _, _ => by cases hx
  | a :: l, h, x, hx, y, hy, hne => by
    obtain ⟨h1, h2⟩ := List.pairwise_cons.1 h
    rcases List.mem_cons.1 hx with rfl | hx' <;> rcases List.mem_cons.1 hy with rfl | hy'
    · exact absurd rfl hne
    · exact h1 y hy'
    · exact hs _ _ (h1 x hx')
    · exact two_of hs h2 x hx' y hy' hne
theorem apart_ro : ∀ {R : Ents}, (∀ e ∈ R, e.mine = false) → R.Pairwise fun e e' => (e.mine = true ∨ e'.mine = true) → e.blk ≠ e'.blk
  | [], _ => .nil
  | a :: l, h => List.pairwise_cons.2 ⟨fun e he hx => absurd hx (by rw [h a (.head _), h e (.tail _ he)]; simp), apart_ro fun e he => h e (.tail _ he)⟩
theorem opsM_go {x : Operand} {ats : Array TypeId} {f : FuncId} {cap : List Value} {c s r : Nat} {tm : Bool} {S0 R : Ents} {L : List Value} (ho : ops[i]? = some ⟨none, .go { callee := .value x, args := #[], argTypes := ats }, ty, pos, af, none⟩) (hE : E.main = true ∧ E.X = XM P ∧ E.m.tag = .plain)
    (hx : evL l t x = some (.func (.func f) #[] cap.toArray)) (hS : S.Perm (⟨c, true, .chan 0 #[] false s r tm⟩ :: S0)) (hR : ∀ e ∈ R, e.mine = false ∧ e ∈ S0)
    (hch : ∀ ro w, Holds R w (fun _ => False) ro → RunC P c ro L (childG P { target := .fn (.func f) cap.toArray, args := #[] }) w (fun _ => False))
    (h : ∀ ro, OpsM P (E.at ⟨ro, .recv c L⟩) fn n ops rest K (den l t) ds S0) : OpsM P E fn n ops (i :: rest) K (den l t) ds S := by
  obtain ⟨hm, hX, htag⟩ := hE
  intro F b arr k cs w O Stop h1 h2 h3 h4 h5
  have hstep : ∀ w₁, stepG P E.main (G (b.st arr ds (.inRegion ops (i :: rest) :: k)) cs) w₁ = .spawn (G (b.st arr ds (.inRegion ops rest :: k)) cs) (childG P { target := .fn (.func f) cap.toArray, args := #[] }) w₁ #[] := fun w₁ => by
    rw [st_oper h3 ho rfl rfl]
    have hrun : (execOp (ev (den l t)) (⟨none, .go { callee := .value x, args := #[], argTypes := ats }, ty, pos, af, none⟩ : Oper)).runT P w₁ #[] = (.ok (.spawn { target := .fn (.func f) cap.toArray, args := #[] }) w₁, #[]) := by
      unfold execOp
      simp only [resolve, evL_eq hx, Deferred.ofValue, List.map_toArray, List.map_nil, Array.append_empty]
      rfl
    unfold stepG.apply
    have hk : (b.kind == CallKind.early) = false := by simpa using h2.1
    have hfin := finish_st (b := b) (arr := arr) (ds := ds) (k := k) (rest := rest) (v := undef) ho
    simp only [Frame.st] at hfin
    simp [hrun, -Sem.runT_eq, G, Frame.st, hk, GStep.after, seen_none, childG, hfin, setD]
  have hperm : (S ++ F).Perm (⟨c, true, .chan 0 #[] false s r tm⟩ :: (S0 ++ F)) := hS.append_right F
  unfold RunE
  rw [hm] at hstep
  rw [hm, hX]
  refine Run.extra (fun m' g' w' O' => ∃ ro', m' = ⟨ro', .recv c L⟩ ∧ g' = G (b.st arr ds (.inRegion ops rest :: k)) cs ∧ Holds (S0 ++ F) w' O' ro') (fun w₁ hr => ?_) ?_
  · have hh : Holds (⟨c, true, .chan 0 #[] false s r tm⟩ :: (S0 ++ F)) w₁ O E.m.ro := (h4.rely hr).perm hperm
    obtain ⟨hcg, hcO⟩ := hh.each _ (.head _)
    simp only at hcg
    have hOc : O c := hcO.elim id fun x => by cases x.1
    have hne : ∀ e ∈ S0 ++ F, e.blk ≠ c := fun e he h => (List.pairwise_cons.1 hh.apart).1 e he (.inl rfl) h.symm
    have hap := (List.pairwise_cons.1 hh.apart).2
    have hTm : ∀ e ∈ S0 ++ F, e.mine = true → ¬ ∃ e2 ∈ R, e2.blk = e.blk := by
      rintro e he hmi ⟨e2, he2, hb⟩
      obtain ⟨g1, g2⟩ := hR e2 he2
      have hne2 : e ≠ e2 := by rintro rfl; rw [hmi] at g1; cases g1
      exact two_of (fun x y h hxy e => h (hxy.symm) e.symm) hap e he e2 (List.mem_append_left F g2) hne2 (.inl hmi) hb.symm
    have hlt : ∀ e ∈ S0 ++ F, e.blk < w₁.heap.size := fun e he => hh.lt (.tail _ he)
    refine ⟨rfl, rfl, ?_⟩
    rw [htag]
    refine ⟨_, _, c, L, fun b => O b ∧ b < w₁.heap.size ∧ b ≠ c ∧ ¬ ∃ e ∈ R, e.blk = b, fun b => b < w₁.heap.size ∧ b ≠ c ∧ ((∃ e ∈ R, e.blk = b) ∨ (E.m.ro b ∧ ¬ O b)), s, r, tm, rfl, hstep w₁, hcg, ?_, ?_, _, rfl, rfl, ?_⟩
    · exact ⟨⟨fun b _ h => h, fun b h1 h2 => h2.2.2.elim h1.2.2.2 fun x => x.2 h1.1, fun b h => h.elim⟩, fun h => h.2.2.1 rfl, fun h => h, fun h => h.2.1 rfl, fun b h => h.2.1, fun b h => h.elim, fun b h => h.1, lt_of_some hcg⟩
    · refine hch _ _ ⟨fun e he => ?_, apart_ro fun e he => (hR e he).1⟩
      have hm2 : e ∈ S0 ++ F := List.mem_append_left F (hR e he).2
      exact ⟨(hh.each e (.tail _ hm2)).1, .inr ⟨(hR e he).1, hlt e hm2, hne e hm2, .inl ⟨e, he, rfl⟩⟩⟩
    · refine ⟨fun e he => ⟨(hh.each e (.tail _ he)).1, ?_⟩, hap⟩
      by_cases hT : ∃ e2 ∈ R, e2.blk = e.blk
      · have hmf : e.mine = false := by
          cases hmi : e.mine with
          | false => rfl
          | true => exact absurd hT (hTm e he hmi)
        exact .inr ⟨hmf, hlt e he, hne e he, .inl hT⟩
      · by_cases hOe : O e.blk
        · exact .inl ⟨hOe, hlt e he, hne e he, hT⟩
        · have := (hh.each e (.tail _ he)).2.resolve_left hOe
          exact .inr ⟨this.1, hlt e he, hne e he, .inr ⟨this.2, hOe⟩⟩
  · rintro m' g' w' O' ⟨ro', rfl, rfl, hh⟩
    have := h ro' F b arr k cs w' O' Stop h1 h2 h3 hh h5
    unfold RunE at this
    change Run P E.main E.X Stop _ _ _ _ at this
    rw [hX, hm] at this
    exact this
end
end Go.Proofs.YtpnnmklacialgaaGreat
namespace Go.Proofs.YtpnnmklacialgaaGreat
open Go.Conc
attribute [local irreducible] WP OpF OpX CallW SemH retQ AnyF RoundW WM OpsM CallM
def zB : BillG := ⟨0, 0⟩
def billAt (l : List BillG) (i : Nat) : BillG := l.getD i zB
theorem billAt_get {l : List BillG} {i : Nat} (h : i < l.length) : l[i] = billAt l i := by
  unfold billAt
  rw [List.getD_eq_getElem?_getD, List.getElem?_eq_getElem h]
  rfl
def wasN (n : NetG) (p d : Int) : List BillG := if d = 0 then List.replicate n.mains.length zB else billsN n p (d - 1)
def idAt (n : NetG) (i : Nat) : Int := match n.mains[i]? with | some x => x.id | none => 0
theorem idAt_get {n : NetG} {i : Nat} (h : i < n.mains.length) : idAt n i = n.mains[i].id := by
  unfold idAt
  rw [List.getElem?_eq_getElem h]
def postAt (n : NetG) (d p : Int) (i : Nat) : List PostG :=
  if billAt (billsN n p d) i = billAt (wasN n p d) i then [] else
    [⟨d, idAt n i, p, (billAt (billsN n p d) i).gas - (billAt (wasN n p d) i).gas, (billAt (billsN n p d) i).penalty - (billAt (wasN n p d) i).penalty⟩]
def sendRow (n : NetG) (d : Int) (i k : Nat) : List PostG := ((periodsN n).drop k).flatMap fun p => postAt n d p i
def sendFrom (n : NetG) (d : Int) (i : Nat) : List PostG := (List.range' i (n.mains.length - i)).flatMap fun i => sendRow n d i 0
def sendN (n : NetG) (d : Int) : List PostG := sendFrom n d 0
def postV (x : PostG) : Value := .agg (postC x)
theorem sendRow_at {n : NetG} {d : Int} {i k : Nat} (h : k < (periodsN n).length) : sendRow n d i k = postAt n d (at0 (periodsN n) k) i ++ sendRow n d i (k + 1) := by
  unfold sendRow
  rw [List.drop_eq_getElem_cons h, List.flatMap_cons, at0_get]
theorem sendRow_end {n : NetG} {d : Int} {i k : Nat} (h : (periodsN n).length ≤ k) : sendRow n d i k = [] := by
  unfold sendRow
  rw [List.drop_eq_nil_of_le h]
  rfl
theorem sendFrom_at {n : NetG} {d : Int} {i : Nat} (h : i < n.mains.length) : sendFrom n d i = sendRow n d i 0 ++ sendFrom n d (i + 1) := by
  unfold sendFrom
  rw [show n.mains.length - i = (n.mains.length - (i + 1)) + 1 by omega, List.range'_succ, List.flatMap_cons]
theorem sendFrom_end {n : NetG} {d : Int} {i : Nat} (h : n.mains.length ≤ i) : sendFrom n d i = [] := by
  unfold sendFrom
  rw [show n.mains.length - i = 0 by omega]
  rfl
theorem billsN_len {n : NetG} {p k : Int} : (billsN n p k).length = n.mains.length := bill2_len
theorem wasN_len {n : NetG} {p d : Int} : (wasN n p d).length = n.mains.length := by
  unfold wasN
  split
  · exact List.length_replicate ..
  · exact billsN_len
def BillOk (x : BillG) : Prop := 0 ≤ x.gas ∧ x.gas ≤ 150000000000000000 ∧ 0 ≤ x.penalty ∧ x.penalty ≤ 60000000
theorem billsN_bd {n : NetG} (h : Valid n) {p k : Int} {i : Nat} : BillOk (billAt (billsN n p k) i) := by
  by_cases hi : i < (billsN n p k).length
  · rw [← billAt_get hi]
    have e : (billsN n p k)[i] = ⟨gasI n p k i, penT n p k n.faults.length i⟩ := bill2_at hi
    rw [e]
    have h1 := gas_bd h (p := p) (k := k) (q := i)
    have h2 := pen_bd h (p := p) (k := k) (q := i) (Nat.le_refl _)
    have h3 := h.f60
    refine ⟨?_, ?_, h2.1, ?_⟩
    · show 0 ≤ gasI n p k i
      unfold gasI
      split <;> omega
    · show gasI n p k i ≤ _
      unfold gasI
      split <;> omega
    · show penT n p k n.faults.length i ≤ _
      omega
  · unfold billAt
    rw [List.getD_eq_getElem?_getD, List.getElem?_eq_none (by omega)]
    exact ⟨by decide, by decide, by decide, by decide⟩
theorem wasN_bd {n : NetG} (h : Valid n) {p d : Int} {i : Nat} : BillOk (billAt (wasN n p d) i) := by
  unfold wasN
  split
  · have e : billAt (List.replicate n.mains.length zB) i = zB := by
      unfold billAt
      rw [List.getD_eq_getElem?_getD, List.getElem?_replicate]
      split <;> rfl
    rw [e]
    exact ⟨by decide, by decide, by decide, by decide⟩
  · exact billsN_bd h
theorem dd_len {xs : List Int} : ∀ {j : Nat}, (ddT xs j).length ≤ j
  | 0 => by simp [ddT]
  | j + 1 => by
    have := dd_len (xs := xs) (j := j)
    show (ddT xs j ++ _).length ≤ _
    rw [List.length_append]
    split <;> simp <;> omega
theorem sortedL_len {xss : List (List Int)} : (sortedL xss).length ≤ xss.flatten.length := by
  unfold sortedL dd
  exact Nat.le_trans (dd_len (xs := srtL xss.flatten)) (Nat.le_of_eq (srtL_len _))
instance : IntsT 47 2 := ⟨by kernel_rfl⟩
@[reducible] def Ec (ro : Nat → Prop) (c : Nat) (L : List Value) : Env := ⟨false, XC Tryz.prog, ⟨ro, .send c L⟩, false⟩
def Rows (Ω : Ents) (ps : List Int) (f : Int → List BillG) (ls : List SlG) (j : Nat) : Prop := ls.length = j ∧ ∀ q (h : q < ls.length), SlV Ω ls[q].v (f (at0 ps q))
theorem Rows.snoc {Ω Δ : Ents} {ps : List Int} {f : Int → List BillG} {ls : List SlG} {j : Nat} {x : SlG} (h : Rows Ω ps f ls j) (hx : SlV Δ x.v (f (at0 ps j))) : Rows (Δ ++ Ω) ps f (ls ++ [x]) (j + 1) := by
  obtain ⟨rfl, h2⟩ := h
  refine ⟨by simp, fun q hq => ?_⟩
  by_cases hl : q < ls.length
  · rw [List.getElem_append_left hl]
    exact (h2 q hl).app
  · have : q = ls.length := by simp at hq; omega
    subst this
    simp only [List.getElem_concat_length]
    exact hx.sub (List.sublist_append_left _ _)
theorem Rows.app {Ω Δ : Ents} {ps : List Int} {f : Int → List BillG} {ls : List SlG} {j : Nat} (h : Rows Ω ps f ls j) : Rows (Δ ++ Ω) ps f ls j := ⟨h.1, fun q hq => (h.2 q hq).app⟩
theorem perm5 {W B2 N B O Z : Ents} : (W ++ (B2 ++ (N ++ (B ++ (O ++ Z))))).Perm (N ++ (W ++ ((B2 ++ (B ++ O)) ++ Z))) := by
  rw [List.append_assoc, List.append_assoc]
  exact (List.Perm.append_left W (List.perm_append_comm_assoc ..)).trans (List.perm_append_comm_assoc ..)
theorem c156 (S : Ents) (n : NetG) (a b c d e : Value) (ro : Nat → Prop) (ch : Nat) (L0 : List Value) (dt : Int) (hn : NetV S a b c d e n) (hV : Valid n) (hs : SortOk (timesL n).flatten) (hd : 0 ≤ dt ∧ dt ≤ 100000) :
    CallM Tryz.prog (Ec ro ch ((sendN n dt).map postV ++ L0)) 156 #[.agg #[a, b, c, d, e], iv dt, .chan (some ch)] S fun m' r S' => m' = ⟨ro, .send ch L0⟩ ∧ List.Sublist S S' := by
  have hu := hV.u60
  have hr := hV.r60
  have hf := hV.f60
  have hnl := timesL_len hV
  have hpl : (periodsN n).length ≤ (timesL n).flatten.length := sortedL_len
  have hsm := hn.mains
  obtain ⟨qm, cm, rfl, _, hrm⟩ := hn.mains
  have hm12 := hV.m12
  refine callM_in (args := [.agg #[.slice qm n.mains.length cm, b, c, d, e], iv dt, .chan (some ch)]) Tryz.func156 (by decide) rfl rfl ?_
  repeat' first|(refine gX ?_;first|refine o_v rfl rfl ?_|(refine gL ?_;first|refine o_load rfl rfl rfl rfl ?_|refine o_loadR rfl rfl rfl (by omega) rfl rfl ?_|refine o_loadW rfl rfl rfl rfl ?_|refine o_loadK rfl rfl rfl ?_)|(refine gF ?_;first|refine o_fieldI rfl rfl rfl rfl ?_|refine o_field rfl rfl rfl rfl ?_)|(refine gB ?_;first|refine o_add rfl rfl rfl rfl (by omega) ?_|refine o_sub rfl rfl rfl rfl (by omega) ?_|refine o_eqNil rfl rfl rfl rfl rfl ?_)|(refine gC ?_;first|(refine o_callZ (R:=fun r S' => ∃ Δ, Own r n.uses Δ ∧ S' = Δ ++ _) rfl rfl rfl (c139 _ _ n _ _ _ _ _ (hn.sub Sb.h) (by omega)) ?_;rintro r _ ⟨Δu, hou, rfl⟩;refine ⟨inferInstance, ?_⟩)|(refine o_callZ (R:=fun r S' => ∃ Δ, Own r (n.uses.map (·.period)) Δ ∧ S' = Δ ++ _) rfl rfl rfl (c183 _ _ n.uses _ (hou.slv.sub Sb.h) (by omega)) ?_;rintro r _ ⟨Δu2, hou2, rfl⟩;obtain ⟨ua, uc, rfl, _, hua⟩ := hou2.slv;refine ⟨inferInstance, ?_⟩)|(refine o_callZ (R:=fun r S' => ∃ Δ, Own r n.readings Δ ∧ S' = Δ ++ _) rfl rfl rfl (c107 _ _ n _ _ _ _ _ (hn.sub Sb.h) (by omega)) ?_;rintro r _ ⟨Δr, hor, rfl⟩;refine ⟨inferInstance, ?_⟩)|(refine o_callZ (R:=fun r S' => ∃ Δ, Own r (n.readings.map (·.period)) Δ ∧ S' = Δ ++ _) rfl rfl rfl (c184 _ _ n.readings _ (hor.slv.sub Sb.h) (by omega)) ?_;rintro r _ ⟨Δr2, hor2, rfl⟩;obtain ⟨ra, rc, rfl, _, hra⟩ := hor2.slv;refine ⟨inferInstance, ?_⟩)|(refine o_callZ (R:=fun r S' => ∃ Δ, Own r n.faults Δ ∧ S' = Δ ++ _) rfl rfl rfl (c142 _ _ n _ _ _ _ _ (hn.sub Sb.h) (by omega)) ?_;rintro r _ ⟨Δf, hof, rfl⟩;refine ⟨inferInstance, ?_⟩)|(refine o_callZ (R:=fun r S' => ∃ Δ, Own r (n.faults.map (·.period)) Δ ∧ S' = Δ ++ _) rfl rfl rfl (c185 _ _ n.faults _ (hof.slv.sub Sb.h) (by omega)) ?_;rintro r _ ⟨Δf2, hof2, rfl⟩;obtain ⟨fa, fc, rfl, _, hfa⟩ := hof2.slv;refine ⟨inferInstance, ?_⟩)|(refine o_callZ (R:=fun r S' => ∃ Δ, Own r (periodsN n) Δ ∧ S' = Δ ++ _) rfl rfl rfl (c126 _ _ [⟨ua, (n.uses.map (·.period)).length, uc⟩, ⟨ra, (n.readings.map (·.period)).length, rc⟩, ⟨fa, (n.faults.map (·.period)).length, fc⟩] (timesL n) _ slv_three rfl (three_sl (hou2.slv.sub Sb.h) (hor2.slv.sub Sb.h) (hof2.slv.sub Sb.h)) (by omega) (by simp) hs) ?_;rintro r _ ⟨Δo, hoo, rfl⟩;obtain ⟨pa, pc, rfl, _, hpa⟩ := hoo.slv;refine ⟨inferInstance, ?_⟩))|(refine gI ?_;first|refine o_indexS rfl rfl rfl rfl rfl rfl (by omega) ?_|refine o_index rfl rfl rfl rfl rfl (by omega) ?_)|(refine gS ?_;first|refine o_store rfl rfl rfl rfl rfl rfl ?_|refine o_storeW rfl rfl rfl rfl rfl rfl ?_)|(refine o_allocZ rfl rfl ?_;intro _)|(refine o_box rfl rfl rfl ?_;intro _)|refine o_build rfl rfl rfl rfl rfl ?_|(refine o_bslice rfl rfl rfl rfl rfl rfl rfl ?_;intro _))|refine o_head0 rfl ?_|refine o_end ?_|refine o_head1 rfl ?_|(show WM _ _ _ _ (.seq (.region _ _ _) _) _ _ _ _;refine wm_seqP ?_)|(show WM _ _ _ _ (.seq (.seq (.region _ _ _) (.region _ _ _)) _) _ _ _ _;refine wm_seqP ?_)|refine wp_seq ?_|refine o_region ?_|refine wp_block ?_|refine wp_skip ?_|refine wp_exit ?_|(refine w_condD rfl ?_ ?_<;>intro h)|(refine w_cond rfl ?_ ?_<;>intro h<;>try exact Bool.noConfusion h)|refine w_ret (S) (vs:=[]) rfl Res.nil ?_|refine anyF_of (fn:=156) (by decide +kernel) ?_|refine anyF_v1 (fn:=156) (by decide +kernel) rfl ?_|refine anyF_v0 (fn:=156) (by decide +kernel) rfl ?_|(show WP _ _ _ _ (.region 1 _ true) _ _ _ _;refine o_drawn [Zf 0,Zt 3,Zt 6,Zf 1,Zf 2,Zf 4,Zf 5,Zt 7,Zt 8,Zt 9,Zt 10,Zf 11] mixed (by kernel_rfl) ?_)|(show WP _ _ _ _ (.region 17 _ true) _ _ _ _;refine o_drawnA [Zt 0,Zt 1,Zt 2,Zt 3,Zt 4,Zt 5,Zt 6,Zt 7,Zt 8,Zt 9,Zt 10,Zt 11,Zt 12,Zt 13,Zf 14,Zf 15,Zf 16,Zf 17] mixed (by kernel_rfl) ?_)|refine o_br2 (fn:=156) (l:=[(14, false), (15, false), (16, false), (17, false)]) 14 15 [(15, false), (16, false), (17, false)] [(14, false), (16, false), (17, false)] (by kernel_rfl) rfl rfl ?_ ?_
  rename_i _ b1 _ _ _ _ _ bl _
  refine wm_seqP ?_
  refine WP.sub (S' := Δo ++ ⟨b1, true, .cells (Value.agg #[.slice qm n.mains.length cm, b, c, d, e]).cells 28 (0, 0)⟩ :: S) ?_ Sb.h
  change WP _ _ _ _ _ _ _ _ (Δo ++ ⟨b1, true, .cells #[.slice qm n.mains.length cm, b, c, d, e] 28 (0, 0)⟩ :: S)
  clear hou hou2 hua hor hor2 hra hof hof2 hfa
  have i1 := SlI.mk hpa
  repeat' first|(refine gX ?_;first|refine o_v rfl rfl ?_|(refine gL ?_;first|refine o_load rfl rfl rfl rfl ?_|refine o_loadR rfl rfl rfl (by omega) rfl rfl ?_|refine o_loadW rfl rfl rfl rfl ?_|refine o_loadK rfl rfl rfl ?_)|(refine gF ?_;first|refine o_fieldI rfl rfl rfl rfl ?_|refine o_field rfl rfl rfl rfl ?_)|(refine gB ?_;first|refine o_add rfl rfl rfl rfl (by omega) ?_|refine o_sub rfl rfl rfl rfl (by omega) ?_|refine o_eqNil rfl rfl rfl rfl rfl ?_)|(refine gI ?_;first|refine o_indexS rfl rfl rfl rfl rfl rfl (by omega) ?_|refine o_index rfl rfl rfl rfl rfl (by omega) ?_)|(refine gS ?_;first|refine o_store rfl rfl rfl rfl rfl rfl ?_|refine o_storeW rfl rfl rfl rfl rfl rfl ?_)|(refine o_allocZ rfl rfl ?_;intro _)|(refine o_box rfl rfl rfl ?_;intro _)|refine o_build rfl rfl rfl rfl rfl ?_|(refine o_bslice rfl rfl rfl rfl rfl rfl rfl ?_;intro _))|refine o_head0 rfl ?_|refine o_end ?_|refine o_head1 rfl ?_|refine wp_seq ?_|refine o_region ?_|refine wp_block ?_|refine wp_skip ?_|refine wp_exit ?_|(refine w_condD rfl ?_ ?_<;>intro h)|(refine w_cond rfl ?_ ?_<;>intro h<;>try exact Bool.noConfusion h)|refine w_ret (S) (vs:=[]) rfl Res.nil ?_|refine anyF_of (fn:=156) (by decide +kernel) ?_|refine anyF_v1 (fn:=156) (by decide +kernel) rfl ?_|refine anyF_v0 (fn:=156) (by decide +kernel) rfl ?_|(show WP _ _ _ _ (.region 1 _ true) _ _ _ _;refine o_drawn [Zf 0,Zt 3,Zt 6,Zf 1,Zf 2,Zf 4,Zf 5,Zt 7,Zt 8,Zt 9,Zt 10,Zf 11] mixed (by kernel_rfl) ?_)|(show WP _ _ _ _ (.region 17 _ true) _ _ _ _;refine o_drawnA [Zt 0,Zt 1,Zt 2,Zt 3,Zt 4,Zt 5,Zt 6,Zt 7,Zt 8,Zt 9,Zt 10,Zt 11,Zt 12,Zt 13,Zf 14,Zf 15,Zf 16,Zf 17] mixed (by kernel_rfl) ?_)|refine o_br2 (fn:=156) (l:=[(14, false), (15, false), (16, false), (17, false)]) 14 15 [(15, false), (16, false), (17, false)] [(14, false), (16, false), (17, false)] (by kernel_rfl) rfl rfl ?_ ?_
  refine wp_loop (fun i' t ds S' => ∃ (j : Nat) (t0 : Tm) (wN wW : Value) (lsN lsW : List SlG) (ΔN ΔW Ω : Ents), i' = (periodsN n).length - j ∧ j ≤ (periodsN n).length ∧ [] = ds ∧ S'.Perm (ΔN ++ (ΔW ++ (Ω ++ (Δo ++ ⟨b1, true, .cells #[.slice qm n.mains.length cm, b, c, d, e] 28 (0, 0)⟩ :: S)))) ∧
      t = den [(30, iv j), (29, iv (periodsN n).length), (28, .slice pa (periodsN n).length pc), (7, wN), (8, wW), (6, .slice pa (periodsN n).length pc), (3, .pointer (some ⟨b1, 0, none⟩)), (1, iv dt), (2, .chan (some ch))] t0 ∧ Own wN lsN ΔN ∧ Own wW lsW ΔW ∧ Rows Ω (periodsN n) (fun p => billsN n p dt) lsN j ∧ Rows Ω (periodsN n) (fun p => wasN n p dt) lsW j)
    _ ⟨0, _, _, _, [], [], [], [], [], rfl, Nat.zero_le _, rfl, List.Perm.refl _, keep ⟨rfl, rfl, rfl, rfl, rfl, rfl, rfl, rfl, rfl, trivial⟩, .nil, .nil, ⟨rfl, fun q h => absurd h (by simp)⟩, ⟨rfl, fun q h => absurd h (by simp)⟩⟩ ?_
  rintro i' t ds S' ⟨j, t0, wN, wW, lsN, lsW, ΔN, ΔW, Ω, rfl, hj, rfl, hp, rfl, hoN, hoW, hrN, hrW⟩
  refine WP.perm ?_ hp
  have hlN := hrN.1
  have hlW := hrW.1
  repeat' first|(refine gX ?_;first|refine o_v rfl rfl ?_|(refine gL ?_;first|refine o_load rfl rfl rfl rfl ?_|refine o_loadR rfl rfl rfl (by omega) rfl rfl ?_|refine o_loadW rfl rfl rfl rfl ?_|refine o_loadK rfl rfl rfl ?_)|(refine gF ?_;first|refine o_fieldI rfl rfl rfl rfl ?_|refine o_field rfl rfl rfl rfl ?_)|(refine gB ?_;first|refine o_add rfl rfl rfl rfl (by omega) ?_|refine o_sub rfl rfl rfl rfl (by omega) ?_|refine o_eqNil rfl rfl rfl rfl rfl ?_)|(refine gC ?_;first|(refine o_callZ (R:=fun r S' => ∃ Δ, Own r (billsN n ((periodsN n)[j]'(by first|done|omega)) dt) Δ ∧ S' = Δ ++ _) rfl rfl rfl (c88 _ _ n _ _ _ _ _ ((periodsN n)[j]'(by first|done|omega)) dt (hn.sub Sb.h) hV) ?_;rintro r _ ⟨Δb, hob, rfl⟩;obtain ⟨ba, bc, rfl, _, hba⟩ := hob.slv;refine ⟨inferInstance, ?_⟩)|(refine o_append1 (⟨ba, (billsN n ((periodsN n)[j]'(by first|done|omega)) dt).length, bc⟩ : SlG) rfl rfl rfl rfl hoN rfl (by omega) rfl rfl rfl rfl ?_;intro wN2 ΔN2 hoN2;refine ⟨inferInstance, ?_⟩)|(refine o_callZ (R:=fun r S' => ∃ Δ, Own r (billsN n ((periodsN n)[j]'(by first|done|omega)) (dt - 1)) Δ ∧ S' = Δ ++ _) rfl rfl rfl (c88 _ _ n _ _ _ _ _ ((periodsN n)[j]'(by first|done|omega)) (dt - 1) (hn.sub Sb.h) hV) ?_;rintro r _ ⟨Δb2, hob2, rfl⟩;obtain ⟨ba2, bc2, rfl, _, hba2⟩ := hob2.slv;refine ⟨inferInstance, ?_⟩)|(refine o_append1 (⟨ba2, (List.replicate n.mains.length zB).length, bc2⟩ : SlG) rfl rfl rfl rfl hoW rfl (by omega) rfl rfl rfl rfl ?_;intro wW2 ΔW2 hoW2;refine ⟨inferInstance, ?_⟩)|(refine o_append1 (⟨ba2, (billsN n ((periodsN n)[j]'(by first|done|omega)) (dt - 1)).length, bc2⟩ : SlG) rfl rfl rfl rfl hoW rfl (by omega) rfl rfl rfl rfl ?_;intro wW2 ΔW2 hoW2;refine ⟨inferInstance, ?_⟩))|(refine gI ?_;first|refine o_indexS rfl rfl rfl rfl rfl rfl (by omega) ?_|refine o_index rfl rfl rfl rfl rfl (by omega) ?_)|(refine gS ?_;first|refine o_store rfl rfl rfl rfl rfl rfl ?_|refine o_storeW rfl rfl rfl rfl rfl rfl ?_)|(refine o_make zB n.mains.length rfl rfl rfl rfl rfl rfl rfl (by omega) ?_;intro v Δb2 hob2;obtain ⟨ba2, bc2, rfl, _, hba2⟩ := hob2.slv)|(refine o_allocZ rfl rfl ?_;intro _)|(refine o_box rfl rfl rfl ?_;intro _)|refine o_build rfl rfl rfl rfl rfl ?_|(refine o_bslice rfl rfl rfl rfl rfl rfl rfl ?_;intro _))|refine o_head0 rfl ?_|refine o_end ?_|refine o_head1 rfl ?_|refine wp_seq ?_|refine o_region ?_|refine wp_block ?_|refine wp_skip ?_|refine wp_exit ?_|(refine w_condD rfl ?_ ?_<;>intro h)|(refine w_cond rfl ?_ ?_<;>intro h<;>try exact Bool.noConfusion h)|refine w_ret (S) (vs:=[]) rfl Res.nil ?_|refine anyF_of (fn:=156) (by decide +kernel) ?_|refine anyF_v1 (fn:=156) (by decide +kernel) rfl ?_|refine anyF_v0 (fn:=156) (by decide +kernel) rfl ?_|(show WP _ _ _ _ (.region 1 _ true) _ _ _ _;refine o_drawn [Zf 0,Zt 3,Zt 6,Zf 1,Zf 2,Zf 4,Zf 5,Zt 7,Zt 8,Zt 9,Zt 10,Zf 11] mixed (by kernel_rfl) ?_)|(show WP _ _ _ _ (.region 17 _ true) _ _ _ _;refine o_drawnA [Zt 0,Zt 1,Zt 2,Zt 3,Zt 4,Zt 5,Zt 6,Zt 7,Zt 8,Zt 9,Zt 10,Zt 11,Zt 12,Zt 13,Zf 14,Zf 15,Zf 16,Zf 17] mixed (by kernel_rfl) ?_)|refine o_br2 (fn:=156) (l:=[(14, false), (15, false), (16, false), (17, false)]) 14 15 [(15, false), (16, false), (17, false)] [(14, false), (16, false), (17, false)] (by kernel_rfl) rfl rfl ?_ ?_
  · simp only [at0_get] at hoN2 hob
    refine ⟨(periodsN n).length - (j + 1), by omega, _, .append_left (.cons _ (.append_left (.append_left (.cons _ (List.Sublist.refl _)) _) _)) _, j + 1, _, _, _, _, _, ΔN2, ΔW2, Δb2 ++ (Δb ++ Ω), rfl, by omega, rfl, perm5, keep ⟨rfl, rfl, rfl, rfl, rfl, rfl, rfl, rfl, rfl, trivial⟩, hoN2, hoW2, (hrN.snoc hob.slv).app, hrW.app.snoc ?_⟩
    show SlV Δb2 _ (wasN n (at0 (periodsN n) j) dt)
    unfold wasN
    rw [if_pos h]
    exact hob2.slv
  · simp only [at0_get] at hoN2 hob hoW2 hob2
    refine ⟨(periodsN n).length - (j + 1), by omega, _, .append_left (.cons _ (.append_left (.append_left (.cons _ (List.Sublist.refl _)) _) _)) _, j + 1, _, _, _, _, _, ΔN2, ΔW2, Δb2 ++ (Δb ++ Ω), rfl, by omega, rfl, perm5, keep ⟨rfl, rfl, rfl, rfl, rfl, rfl, rfl, rfl, rfl, trivial⟩, hoN2, hoW2, (hrN.snoc hob.slv).app, hrW.app.snoc ?_⟩
    show SlV Δb2 _ (wasN n (at0 (periodsN n) j) dt)
    unfold wasN
    rw [if_neg h]
    exact hob2.slv
  have hje : j = (periodsN n).length := by omega
  subst hje
  clear hp h
  obtain ⟨na, nc, rfl, _, hna⟩ := hoN.slv
  obtain ⟨wa, wc, rfl, _, hwa⟩ := hoW.slv
  have i2 := SlI.mk hna
  have i3 := SlI.mk hwa
  have i4 := SlI.mk hrm
  repeat' first|(refine gX ?_;first|refine o_v rfl rfl ?_|(refine gL ?_;first|refine o_load rfl rfl rfl rfl ?_|refine o_loadR rfl rfl rfl (by omega) rfl rfl ?_|refine o_loadW rfl rfl rfl rfl ?_|refine o_loadK rfl rfl rfl ?_)|(refine gF ?_;first|refine o_fieldI rfl rfl rfl rfl ?_|refine o_field rfl rfl rfl rfl ?_)|(refine gB ?_;first|refine o_add rfl rfl rfl rfl (by omega) ?_|refine o_sub rfl rfl rfl rfl (by omega) ?_|refine o_eqNil rfl rfl rfl rfl rfl ?_)|(refine gI ?_;first|refine o_indexS rfl rfl rfl rfl rfl rfl (by omega) ?_|refine o_index rfl rfl rfl rfl rfl (by omega) ?_)|(refine gS ?_;first|refine o_store rfl rfl rfl rfl rfl rfl ?_|refine o_storeW rfl rfl rfl rfl rfl rfl ?_)|(refine o_allocZ rfl rfl ?_;intro _)|(refine o_box rfl rfl rfl ?_;intro _)|refine o_build rfl rfl rfl rfl rfl ?_|(refine o_bslice rfl rfl rfl rfl rfl rfl rfl ?_;intro _))|refine o_head0 rfl ?_|refine o_end ?_|refine o_head1 rfl ?_|(show WM _ _ _ _ (.seq (.region _ _ _) _) _ _ _ _;refine wm_seqP ?_)|(show WM _ _ _ _ (.block _ _) _ _ _ _;refine wm_block ?_)|refine wp_seq ?_|refine o_region ?_|refine wp_block ?_|refine wp_skip ?_|refine wp_exit ?_|(refine w_condD rfl ?_ ?_<;>intro h)|(refine w_cond rfl ?_ ?_<;>intro h<;>try exact Bool.noConfusion h)|refine w_ret (S) (vs:=[]) rfl Res.nil ?_|refine anyF_of (fn:=156) (by decide +kernel) ?_|refine anyF_v1 (fn:=156) (by decide +kernel) rfl ?_|refine anyF_v0 (fn:=156) (by decide +kernel) rfl ?_|(show WP _ _ _ _ (.region 1 _ true) _ _ _ _;refine o_drawn [Zf 0,Zt 3,Zt 6,Zf 1,Zf 2,Zf 4,Zf 5,Zt 7,Zt 8,Zt 9,Zt 10,Zf 11] mixed (by kernel_rfl) ?_)|(show WP _ _ _ _ (.region 17 _ true) _ _ _ _;refine o_drawnA [Zt 0,Zt 1,Zt 2,Zt 3,Zt 4,Zt 5,Zt 6,Zt 7,Zt 8,Zt 9,Zt 10,Zt 11,Zt 12,Zt 13,Zf 14,Zf 15,Zf 16,Zf 17] mixed (by kernel_rfl) ?_)|refine o_br2 (fn:=156) (l:=[(14, false), (15, false), (16, false), (17, false)]) 14 15 [(15, false), (16, false), (17, false)] [(14, false), (16, false), (17, false)] (by kernel_rfl) rfl rfl ?_ ?_
  refine wm_loop (fun i' m t ds S' => ∃ (i : Nat) (t0 : Tm), i' = n.mains.length - i ∧ i ≤ n.mains.length ∧ [] = ds ∧ ΔN ++ (ΔW ++ (Ω ++ (Δo ++ ⟨b1, true, .cells #[.slice qm n.mains.length cm, b, c, d, e] 28 (0, 0)⟩ :: S))) = S' ∧ m = ⟨ro, .send ch ((sendFrom n dt i).map postV ++ L0)⟩ ∧
      t = den [(62, iv i), (61, iv n.mains.length), (60, .slice qm n.mains.length cm), (7, .slice na lsN.length nc), (8, .slice wa lsW.length wc), (6, .slice pa (periodsN n).length pc), (1, iv dt), (2, .chan (some ch))] t0)
    _ ⟨0, _, rfl, Nat.zero_le _, rfl, rfl, rfl, keep ⟨rfl, rfl, rfl, rfl, rfl, rfl, rfl, rfl, trivial⟩⟩ ?_
  rintro i' m t ds S' ⟨i, t0, rfl, hi, rfl, rfl, rfl, rfl⟩
  repeat' first|(refine gX ?_;first|refine o_v rfl rfl ?_|(refine gL ?_;first|refine o_load rfl rfl rfl rfl ?_|refine o_loadR rfl rfl rfl (by omega) rfl rfl ?_|refine o_loadW rfl rfl rfl rfl ?_|refine o_loadK rfl rfl rfl ?_)|(refine gF ?_;first|refine o_fieldI rfl rfl rfl rfl ?_|refine o_field rfl rfl rfl rfl ?_)|(refine gB ?_;first|refine o_add rfl rfl rfl rfl (by omega) ?_|refine o_sub rfl rfl rfl rfl (by omega) ?_|refine o_eqNil rfl rfl rfl rfl rfl ?_)|(refine gI ?_;first|refine o_indexS rfl rfl rfl rfl rfl rfl (by omega) ?_|refine o_index rfl rfl rfl rfl rfl (by omega) ?_)|(refine gS ?_;first|refine o_store rfl rfl rfl rfl rfl rfl ?_|refine o_storeW rfl rfl rfl rfl rfl rfl ?_)|(refine o_allocZ rfl rfl ?_;intro _)|(refine o_box rfl rfl rfl ?_;intro _)|refine o_build rfl rfl rfl rfl rfl ?_|(refine o_bslice rfl rfl rfl rfl rfl rfl rfl ?_;intro _))|refine o_head0 rfl ?_|refine o_end ?_|refine o_head1 rfl ?_|(show WM _ _ _ _ (.seq (.region _ _ _) _) _ _ _ _;refine wm_seqP ?_)|(show WM _ _ _ _ (.block _ _) _ _ _ _;refine wm_block ?_)|(show WM _ _ _ _ (.seq (.cond _ .skip (.exit _)) _) _ _ _ _;refine wm_seqP ?_)|(show WM _ _ _ _ (.seq _ _) _ _ _ _;refine wm_seq ?_)|refine wp_seq ?_|refine o_region ?_|refine wp_block ?_|refine wp_skip ?_|refine wp_exit ?_|(refine w_condD rfl ?_ ?_<;>intro h)|(refine w_cond rfl ?_ ?_<;>intro h<;>try exact Bool.noConfusion h)|refine w_ret (S) (vs:=[]) rfl Res.nil ?_|refine anyF_of (fn:=156) (by decide +kernel) ?_|refine anyF_v1 (fn:=156) (by decide +kernel) rfl ?_|refine anyF_v0 (fn:=156) (by decide +kernel) rfl ?_|(show WP _ _ _ _ (.region 1 _ true) _ _ _ _;refine o_drawn [Zf 0,Zt 3,Zt 6,Zf 1,Zf 2,Zf 4,Zf 5,Zt 7,Zt 8,Zt 9,Zt 10,Zf 11] mixed (by kernel_rfl) ?_)|(show WP _ _ _ _ (.region 17 _ true) _ _ _ _;refine o_drawnA [Zt 0,Zt 1,Zt 2,Zt 3,Zt 4,Zt 5,Zt 6,Zt 7,Zt 8,Zt 9,Zt 10,Zt 11,Zt 12,Zt 13,Zf 14,Zf 15,Zf 16,Zf 17] mixed (by kernel_rfl) ?_)|refine o_br2 (fn:=156) (l:=[(14, false), (15, false), (16, false), (17, false)]) 14 15 [(15, false), (16, false), (17, false)] [(14, false), (16, false), (17, false)] (by kernel_rfl) rfl rfl ?_ ?_
  · rename_i b12
    have hil : i < n.mains.length := by omega
    change WM _ (Ec ro ch ((sendFrom n dt i).map postV ++ L0)) _ _ _ _ _ _ _
    have hlN := hrN.1
    have hlW := hrW.1
    refine wm_loop (fun k' m t ds S' => ∃ (k : Nat) (t0 : Tm), k' = (periodsN n).length - k ∧ k ≤ (periodsN n).length ∧ [] = ds ∧ ⟨b12, true, .cells (mainC (n.mains[i]'hil)) 72 (0, 0)⟩ :: (ΔN ++ (ΔW ++ (Ω ++ (Δo ++ ⟨b1, true, .cells #[.slice qm n.mains.length cm, b, c, d, e] 28 (0, 0)⟩ :: S)))) = S' ∧ m = ⟨ro, .send ch ((sendRow n dt i k ++ sendFrom n dt (i + 1)).map postV ++ L0)⟩ ∧
        t = den [(69, iv k), (68, iv (periodsN n).length), (67, .slice pa (periodsN n).length pc), (11, iv i), (12, .pointer (some ⟨b12, 0, none⟩)), (62, iv i), (61, iv n.mains.length), (60, .slice qm n.mains.length cm), (7, .slice na lsN.length nc), (8, .slice wa lsW.length wc), (6, .slice pa (periodsN n).length pc), (1, iv dt), (2, .chan (some ch))] t0)
      _ ⟨0, _, rfl, Nat.zero_le _, rfl, rfl, by rw [← sendFrom_at hil], keep ⟨rfl, rfl, rfl, rfl, rfl, rfl, rfl, rfl, rfl, rfl, rfl, rfl, rfl, trivial⟩⟩ ?_
    rintro k' m t ds S' ⟨k, t0, rfl, hk, rfl, rfl, rfl, rfl⟩
    change WM _ (Ec ro ch ((sendRow n dt i k ++ sendFrom n dt (i + 1)).map postV ++ L0)) _ _ _ _ _ _ _
    by_cases hkl : k < (periodsN n).length
    · obtain ⟨aN, cN, eN, _, hsN⟩ := hrN.2 k (by omega)
      obtain ⟨aW, cW, eW, _, hsW⟩ := hrW.2 k (by omega)
      simp only [SlG.v, Value.slice.injEq] at eN eW
      obtain ⟨eN1, eN2, _⟩ := eN
      obtain ⟨eW1, eW2, _⟩ := eW
      rw [← eN1] at hsN
      rw [← eW1] at hsW
      have i5 := SlI.mk hsN
      have i6 := SlI.mk hsW
      have hbN : i < (billsN n (at0 (periodsN n) k) dt).length := by rw [billsN_len]; exact hil
      have hbW : i < (wasN n (at0 (periodsN n) k) dt).length := by rw [wasN_len]; exact hil
      repeat' first|(refine gX ?_;first|refine o_v rfl rfl ?_|(refine gL ?_;first|refine o_load rfl rfl rfl rfl ?_|refine o_loadR rfl rfl rfl (by omega) rfl rfl ?_|refine o_loadW rfl rfl rfl rfl ?_|refine o_loadK rfl rfl rfl ?_)|(refine gF ?_;first|refine o_fieldI rfl rfl rfl rfl ?_|refine o_field rfl rfl rfl rfl ?_)|(refine gB ?_;first|refine o_add rfl rfl rfl rfl (by omega) ?_|refine o_sub rfl rfl rfl rfl (by omega) ?_|refine o_eqNil rfl rfl rfl rfl rfl ?_)|(refine gI ?_;first|refine o_indexS (xs := lsN) rfl rfl rfl rfl rfl rfl (by omega) ?_|refine o_indexS (xs := lsW) rfl rfl rfl rfl rfl rfl (by omega) ?_|refine o_indexS (xs := billsN n (at0 (periodsN n) k) dt) rfl rfl rfl rfl rfl eN2 hbN ?_|refine o_indexS (xs := wasN n (at0 (periodsN n) k) dt) rfl rfl rfl rfl rfl eW2 hbW ?_|refine o_indexS rfl rfl rfl rfl rfl rfl (by omega) ?_|refine o_index rfl rfl rfl rfl rfl (by omega) ?_)|(refine gS ?_;first|refine o_store rfl rfl rfl rfl rfl rfl ?_|refine o_storeW rfl rfl rfl rfl rfl rfl ?_)|(refine o_allocZ rfl rfl ?_;intro _)|(refine o_box rfl rfl rfl ?_;intro _)|refine o_build rfl rfl rfl rfl rfl ?_|(refine o_bslice rfl rfl rfl rfl rfl rfl rfl ?_;intro _))|refine o_head0 rfl ?_|refine o_end ?_|refine o_head1 rfl ?_|(show WM _ _ _ _ (.seq (.region 17 _ _) _) _ _ _ _;refine wm_cut (fun t ds S' => ∃ (b15 b16 : Nat) (t0 : Tm), [] = ds ∧ S'.Perm (⟨b15, true, .cells (billC ((billsN n (at0 (periodsN n) k) dt)[i]'hbN)) 47 (0, 0)⟩ :: ⟨b16, true, .cells (billC ((wasN n (at0 (periodsN n) k) dt)[i]'hbW)) 47 (0, 0)⟩ :: ⟨b12, true, .cells (mainC (n.mains[i]'hil)) 72 (0, 0)⟩ :: (ΔN ++ (ΔW ++ (Ω ++ (Δo ++ ⟨b1, true, .cells #[.slice qm n.mains.length cm, b, c, d, e] 28 (0, 0)⟩ :: S))))) ∧ t = den [(15, .pointer (some ⟨b15, 0, none⟩)), (16, .pointer (some ⟨b16, 0, none⟩)), (14, iv (at0 (periodsN n) k)), (69, iv k), (68, iv (periodsN n).length), (67, .slice pa (periodsN n).length pc), (11, iv i), (12, .pointer (some ⟨b12, 0, none⟩)), (62, iv i), (61, iv n.mains.length), (60, .slice qm n.mains.length cm), (7, .slice na lsN.length nc), (8, .slice wa lsW.length wc), (6, .slice pa (periodsN n).length pc), (1, iv dt), (2, .chan (some ch))] t0) ?_ ?_)|(show WM _ _ _ _ (.seq (.region _ _ _) _) _ _ _ _;refine wm_seqP ?_)|(show WM _ _ _ _ (.block _ _) _ _ _ _;refine wm_block ?_)|(show WM _ _ _ _ (.seq (.cond _ .skip (.exit _)) _) _ _ _ _;refine wm_seqP ?_)|(show WM _ _ _ _ (.seq _ _) _ _ _ _;refine wm_seq ?_)|(refine w_condD rfl ?_ ?_<;>intro h<;>try (exact absurd (by omega) h))|refine wp_seq ?_|refine o_region ?_|refine wp_block ?_|refine wp_skip ?_|refine wp_exit ?_|(refine w_condD rfl ?_ ?_<;>intro h)|(refine w_cond rfl ?_ ?_<;>intro h<;>try exact Bool.noConfusion h)|refine w_ret (S) (vs:=[]) rfl Res.nil ?_|refine anyF_of (fn:=156) (by decide +kernel) ?_|refine anyF_v1 (fn:=156) (by decide +kernel) rfl ?_|refine anyF_v0 (fn:=156) (by decide +kernel) rfl ?_|(show WP _ _ _ _ (.region 1 _ true) _ _ _ _;refine o_drawn [Zf 0,Zt 3,Zt 6,Zf 1,Zf 2,Zf 4,Zf 5,Zt 7,Zt 8,Zt 9,Zt 10,Zf 11] mixed (by kernel_rfl) ?_)|(show WP _ _ _ _ (.region 17 _ true) _ _ _ _;refine o_drawnA [Zt 0,Zt 1,Zt 2,Zt 3,Zt 4,Zt 5,Zt 6,Zt 7,Zt 8,Zt 9,Zt 10,Zt 11,Zt 12,Zt 13,Zf 14,Zf 15,Zf 16,Zf 17] mixed (by kernel_rfl) ?_)|refine o_br2 (fn:=156) (l:=[(14, false), (15, false), (16, false), (17, false)]) 14 15 [(15, false), (16, false), (17, false)] [(14, false), (16, false), (17, false)] (by kernel_rfl) rfl rfl ?_ ?_
      · rename_i bN bW
        exact ⟨_, List.Sublist.refl _, bN, bW, _, rfl, List.Perm.swap .., keep ⟨rfl, rfl, congrArg (fun q : Int => some (iv q)) (at0_get hkl), rfl, rfl, rfl, rfl, rfl, rfl, rfl, rfl, rfl, rfl, rfl, rfl, rfl, trivial⟩⟩
      · rename_i bW bN
        exact ⟨_, List.Sublist.refl _, bN, bW, _, rfl, List.Perm.refl _, keep ⟨rfl, rfl, congrArg (fun q : Int => some (iv q)) (at0_get hkl), rfl, rfl, rfl, rfl, rfl, rfl, rfl, rfl, rfl, rfl, rfl, rfl, rfl, trivial⟩⟩
      rintro _ _ S2 ⟨b15, b16, t0, rfl, hp, rfl⟩
      refine WM.perm ?_ hp
      have hB : BillOk ((billsN n (at0 (periodsN n) k) dt)[i]'hbN) := by rw [billAt_get]; exact billsN_bd hV
      have hW : BillOk ((wasN n (at0 (periodsN n) k) dt)[i]'hbW) := by rw [billAt_get]; exact wasN_bd hV
      have hrow := sendRow_at (n := n) (d := dt) (i := i) hkl
      unfold BillOk at hB hW
      repeat' first|(refine gX ?_;first|refine o_v rfl rfl ?_|(refine gL ?_;first|refine o_load rfl rfl rfl rfl ?_|refine o_loadR rfl rfl rfl (by omega) rfl rfl ?_|refine o_loadW rfl rfl rfl rfl ?_|refine o_loadK rfl rfl rfl ?_)|(refine gF ?_;first|refine o_fieldI rfl rfl rfl rfl ?_|refine o_field rfl rfl rfl rfl ?_)|(refine gB ?_;first|refine o_neS (k := 2) rfl rfl rfl rfl rfl rfl rfl rfl ?_|refine o_add rfl rfl rfl rfl (by omega) ?_|refine o_sub rfl rfl rfl rfl (by omega) ?_|refine o_eqNil rfl rfl rfl rfl rfl ?_)|(refine gI ?_;first|refine o_indexS rfl rfl rfl rfl rfl rfl (by omega) ?_|refine o_index rfl rfl rfl rfl rfl (by omega) ?_)|(refine gS ?_;first|refine o_store rfl rfl rfl rfl rfl rfl ?_|refine o_storeW rfl rfl rfl rfl rfl rfl ?_)|(refine o_allocZ rfl rfl ?_;intro _)|(refine o_box rfl rfl rfl ?_;intro _)|refine o_build rfl rfl rfl rfl rfl ?_|(refine o_bslice rfl rfl rfl rfl rfl rfl rfl ?_;intro _))|refine o_head0 rfl ?_|refine o_end ?_|refine o_head1 rfl ?_|(show WM _ _ _ _ (.seq (.region _ _ _) _) _ _ _ _;refine wm_seqP ?_)|(show WM _ _ _ _ (.seq _ _) _ _ _ _;refine wm_seq ?_)|(refine wm_condD rfl ?_ ?_<;>intro h)|(show WM _ _ _ _ (.region 19 _ _) _ _ _ _;refine wm_regionS 16 1 rfl ?_)|refine wm_skip ?_|(show WM _ _ _ _ (.region 20 _ _) _ _ _ _;refine wm_of ?_)|refine wp_seq ?_|refine o_region ?_|refine wp_block ?_|refine wp_skip ?_|refine wp_exit ?_|(refine w_condD rfl ?_ ?_<;>intro h)|(refine w_cond rfl ?_ ?_<;>intro h<;>try exact Bool.noConfusion h)|refine w_ret (S) (vs:=[]) rfl Res.nil ?_|refine anyF_of (fn:=156) (by decide +kernel) ?_|refine anyF_v1 (fn:=156) (by decide +kernel) rfl ?_|refine anyF_v0 (fn:=156) (by decide +kernel) rfl ?_|(show WP _ _ _ _ (.region 1 _ true) _ _ _ _;refine o_drawn [Zf 0,Zt 3,Zt 6,Zf 1,Zf 2,Zf 4,Zf 5,Zt 7,Zt 8,Zt 9,Zt 10,Zf 11] mixed (by kernel_rfl) ?_)|(show WP _ _ _ _ (.region 17 _ true) _ _ _ _;refine o_drawnA [Zt 0,Zt 1,Zt 2,Zt 3,Zt 4,Zt 5,Zt 6,Zt 7,Zt 8,Zt 9,Zt 10,Zt 11,Zt 12,Zt 13,Zf 14,Zf 15,Zf 16,Zf 17] mixed (by kernel_rfl) ?_)|refine o_br2 (fn:=156) (l:=[(14, false), (15, false), (16, false), (17, false)]) 14 15 [(15, false), (16, false), (17, false)] [(14, false), (16, false), (17, false)] (by kernel_rfl) rfl rfl ?_ ?_
      · have hne : ¬ billAt (billsN n (at0 (periodsN n) k) dt) i = billAt (wasN n (at0 (periodsN n) k) dt) i := fun e => h (by rw [billAt_get hbN, billAt_get hbW, e])
        have htag : (sendRow n dt i k ++ sendFrom n dt (i + 1)).map postV ++ L0 = postV ⟨dt, (n.mains[i]'hil).id, at0 (periodsN n) k, ((billsN n (at0 (periodsN n) k) dt)[i]'hbN).gas - ((wasN n (at0 (periodsN n) k) dt)[i]'hbW).gas, ((billsN n (at0 (periodsN n) k) dt)[i]'hbN).penalty - ((wasN n (at0 (periodsN n) k) dt)[i]'hbW).penalty⟩ :: ((sendRow n dt i (k + 1) ++ sendFrom n dt (i + 1)).map postV ++ L0) := by
          rw [hrow]
          unfold postAt
          rw [if_neg hne, billAt_get hbN, billAt_get hbW, idAt_get hil]
          rfl
        refine opsM_send (ro := ro) (c := ch) (v := postV ⟨dt, (n.mains[i]'hil).id, at0 (periodsN n) k, ((billsN n (at0 (periodsN n) k) dt)[i]'hbN).gas - ((wasN n (at0 (periodsN n) k) dt)[i]'hbW).gas, ((billsN n (at0 (periodsN n) k) dt)[i]'hbN).penalty - ((wasN n (at0 (periodsN n) k) dt)[i]'hbW).penalty⟩) (L := (sendRow n dt i (k + 1) ++ sendFrom n dt (i + 1)).map postV ++ L0) rfl ⟨rfl, rfl, congrArg (fun q => (⟨ro, .send ch q⟩ : Mode)) htag⟩ rfl rfl (opsM_nil ?_)
        repeat' first|(refine gX ?_;first|refine o_v rfl rfl ?_|(refine gL ?_;first|refine o_load rfl rfl rfl rfl ?_|refine o_loadR rfl rfl rfl (by omega) rfl rfl ?_|refine o_loadW rfl rfl rfl rfl ?_|refine o_loadK rfl rfl rfl ?_)|(refine gF ?_;first|refine o_fieldI rfl rfl rfl rfl ?_|refine o_field rfl rfl rfl rfl ?_)|(refine gB ?_;first|refine o_add rfl rfl rfl rfl (by omega) ?_|refine o_sub rfl rfl rfl rfl (by omega) ?_|refine o_eqNil rfl rfl rfl rfl rfl ?_)|(refine gI ?_;first|refine o_indexS rfl rfl rfl rfl rfl rfl (by omega) ?_|refine o_index rfl rfl rfl rfl rfl (by omega) ?_)|(refine gS ?_;first|refine o_store rfl rfl rfl rfl rfl rfl ?_|refine o_storeW rfl rfl rfl rfl rfl rfl ?_)|(refine o_allocZ rfl rfl ?_;intro _)|(refine o_box rfl rfl rfl ?_;intro _)|refine o_build rfl rfl rfl rfl rfl ?_|(refine o_bslice rfl rfl rfl rfl rfl rfl rfl ?_;intro _))|refine o_head0 rfl ?_|refine o_end ?_|refine o_head1 rfl ?_|(show WM _ _ _ _ (.region 20 _ _) _ _ _ _;refine wm_of ?_)|refine wp_seq ?_|refine o_region ?_|refine wp_block ?_|refine wp_skip ?_|refine wp_exit ?_|(refine w_condD rfl ?_ ?_<;>intro h)|(refine w_cond rfl ?_ ?_<;>intro h<;>try exact Bool.noConfusion h)|refine w_ret (S) (vs:=[]) rfl Res.nil ?_|refine anyF_of (fn:=156) (by decide +kernel) ?_|refine anyF_v1 (fn:=156) (by decide +kernel) rfl ?_|refine anyF_v0 (fn:=156) (by decide +kernel) rfl ?_|(show WP _ _ _ _ (.region 1 _ true) _ _ _ _;refine o_drawn [Zf 0,Zt 3,Zt 6,Zf 1,Zf 2,Zf 4,Zf 5,Zt 7,Zt 8,Zt 9,Zt 10,Zf 11] mixed (by kernel_rfl) ?_)|(show WP _ _ _ _ (.region 17 _ true) _ _ _ _;refine o_drawnA [Zt 0,Zt 1,Zt 2,Zt 3,Zt 4,Zt 5,Zt 6,Zt 7,Zt 8,Zt 9,Zt 10,Zt 11,Zt 12,Zt 13,Zf 14,Zf 15,Zf 16,Zf 17] mixed (by kernel_rfl) ?_)|refine o_br2 (fn:=156) (l:=[(14, false), (15, false), (16, false), (17, false)]) 14 15 [(15, false), (16, false), (17, false)] [(14, false), (16, false), (17, false)] (by kernel_rfl) rfl rfl ?_ ?_
        exact ⟨(periodsN n).length - (k + 1), by omega, _, .cons _ (.cons _ (List.Sublist.refl _)), k + 1, _, rfl, by omega, rfl, rfl, rfl, keep ⟨rfl, rfl, rfl, rfl, rfl, rfl, rfl, rfl, rfl, rfl, rfl, rfl, rfl, trivial⟩⟩
      · have heq : billAt (billsN n (at0 (periodsN n) k) dt) i = billAt (wasN n (at0 (periodsN n) k) dt) i := by
          have h' := Classical.not_not.1 h
          simp only [List.cons.injEq, and_true] at h'
          rw [← billAt_get hbN, ← billAt_get hbW]
          generalize (billsN n (at0 (periodsN n) k) dt)[i] = x at h'
          generalize (wasN n (at0 (periodsN n) k) dt)[i] = y at h'
          cases x
          cases y
          simp only [BillG.mk.injEq]
          exact h'
        have hskip : sendRow n dt i k = sendRow n dt i (k + 1) := by
          rw [hrow]
          unfold postAt
          rw [if_pos heq]
          rfl
        exact ⟨(periodsN n).length - (k + 1), by omega, _, .cons _ (.cons _ (List.Sublist.refl _)), k + 1, _, rfl, by omega, rfl, rfl, by rw [hskip], keep ⟨rfl, rfl, rfl, rfl, rfl, rfl, rfl, rfl, rfl, rfl, rfl, rfl, rfl, trivial⟩⟩
    · have hke : k = (periodsN n).length := by omega
      subst hke
      repeat' first|(refine gX ?_;first|refine o_v rfl rfl ?_|(refine gL ?_;first|refine o_load rfl rfl rfl rfl ?_|refine o_loadR rfl rfl rfl (by omega) rfl rfl ?_|refine o_loadW rfl rfl rfl rfl ?_|refine o_loadK rfl rfl rfl ?_)|(refine gF ?_;first|refine o_fieldI rfl rfl rfl rfl ?_|refine o_field rfl rfl rfl rfl ?_)|(refine gB ?_;first|refine o_add rfl rfl rfl rfl (by omega) ?_|refine o_sub rfl rfl rfl rfl (by omega) ?_|refine o_eqNil rfl rfl rfl rfl rfl ?_)|(refine gI ?_;first|refine o_indexS rfl rfl rfl rfl rfl rfl (by omega) ?_|refine o_index rfl rfl rfl rfl rfl (by omega) ?_)|(refine gS ?_;first|refine o_store rfl rfl rfl rfl rfl rfl ?_|refine o_storeW rfl rfl rfl rfl rfl rfl ?_)|(refine o_allocZ rfl rfl ?_;intro _)|(refine o_box rfl rfl rfl ?_;intro _)|refine o_build rfl rfl rfl rfl rfl ?_|(refine o_bslice rfl rfl rfl rfl rfl rfl rfl ?_;intro _))|refine o_head0 rfl ?_|refine o_end ?_|refine o_head1 rfl ?_|(show WM _ _ _ _ (.seq (.region _ _ _) _) _ _ _ _;refine wm_seqP ?_)|(show WM _ _ _ _ (.seq (.cond _ .skip (.exit _)) _) _ _ _ _;refine wm_seqP ?_)|(refine w_condD rfl ?_ ?_<;>intro h<;>try (exact absurd h (by omega)))|(show WM _ _ _ _ (.region 21 _ _) _ _ _ _;refine wm_of ?_)|refine wp_seq ?_|refine o_region ?_|refine wp_block ?_|refine wp_skip ?_|refine wp_exit ?_|(refine w_condD rfl ?_ ?_<;>intro h)|(refine w_cond rfl ?_ ?_<;>intro h<;>try exact Bool.noConfusion h)|refine w_ret (S) (vs:=[]) rfl Res.nil ?_|refine anyF_of (fn:=156) (by decide +kernel) ?_|refine anyF_v1 (fn:=156) (by decide +kernel) rfl ?_|refine anyF_v0 (fn:=156) (by decide +kernel) rfl ?_|(show WP _ _ _ _ (.region 1 _ true) _ _ _ _;refine o_drawn [Zf 0,Zt 3,Zt 6,Zf 1,Zf 2,Zf 4,Zf 5,Zt 7,Zt 8,Zt 9,Zt 10,Zf 11] mixed (by kernel_rfl) ?_)|(show WP _ _ _ _ (.region 17 _ true) _ _ _ _;refine o_drawnA [Zt 0,Zt 1,Zt 2,Zt 3,Zt 4,Zt 5,Zt 6,Zt 7,Zt 8,Zt 9,Zt 10,Zt 11,Zt 12,Zt 13,Zf 14,Zf 15,Zf 16,Zf 17] mixed (by kernel_rfl) ?_)|refine o_br2 (fn:=156) (l:=[(14, false), (15, false), (16, false), (17, false)]) 14 15 [(15, false), (16, false), (17, false)] [(14, false), (16, false), (17, false)] (by kernel_rfl) rfl rfl ?_ ?_
      exact ⟨n.mains.length - (i + 1), by omega, _, .cons _ (List.Sublist.refl _), i + 1, _, rfl, by omega, rfl, rfl, by show (⟨ro, .send ch ((sendRow n dt i (periodsN n).length ++ sendFrom n dt (i + 1)).map postV ++ L0)⟩ : Mode) = _; rw [sendRow_end (Nat.le_refl _), List.nil_append], keep ⟨rfl, rfl, rfl, rfl, rfl, rfl, rfl, rfl, trivial⟩⟩
  · have hie : i = n.mains.length := by omega
    subst hie
    refine w_fall (res_sem Res.nil ?_)
    refine ⟨?_, Sb.h⟩
    show (⟨ro, .send ch ((sendFrom n dt n.mains.length).map postV ++ L0)⟩ : Mode) = _
    rw [sendFrom_end (Nat.le_refl _)]
    rfl
end Go.Proofs.YtpnnmklacialgaaGreat
namespace Go.Proofs.YtpnnmklacialgaaGreat
open Go.Conc
attribute [local irreducible] WP OpF OpX CallW SemH retQ AnyF RoundW WM OpsM CallM
theorem ddT_sub {xs : List Int} {x : Int} : ∀ {j : Nat}, j ≤ xs.length → x ∈ ddT xs j → x ∈ xs
  | 0, _, h => by simp [ddT] at h
  | j + 1, hj, h => by
    replace h : x ∈ ddT xs j ++ _ := h
    rcases List.mem_append.1 h with h | h
    · exact ddT_sub (by omega) h
    · split at h
      · rw [List.mem_singleton.1 h, ← at0_get (by omega)]
        exact List.getElem_mem _
      · cases h
theorem sortedL_sub {xss : List (List Int)} {x : Int} (h : x ∈ sortedL xss) : x ∈ xss.flatten := by
  unfold sortedL dd at h
  have := ddT_sub (Nat.le_refl _) h
  exact (srtL_perm _).mem_iff.1 this
theorem head_night {s m p k t : Int} (h : headOk s m p k t = true) : 0 ≤ k ∧ k ≤ 100000 ∧ (t = 0 ∨ k < t ∧ t ≤ 100000) := by
  simp only [headOk, Bool.and_eq_true, lastsOk, decide_eq_true_eq] at h
  exact h.2
theorem datesN_ok {n : NetG} (h : Valid n) {d : Int} (hd : d ∈ datesN n) : 0 ≤ d ∧ d ≤ 100000 := by
  have := sortedL_sub hd
  simp only [nightsL, List.flatten_cons, List.flatten_nil, List.append_nil, List.mem_append, List.mem_flatMap] at this
  rcases this with ⟨x, hx, h1⟩ | ⟨x, hx, h1⟩ | ⟨x, hx, h1⟩
  · have h2 := (h.uses x hx).1
    simp only [useOk, Bool.and_eq_true] at h2
    have h3 := head_night h2.1.1
    unfold nightsUse at h1
    split at h1 <;> simp at h1 <;> omega
  · have h2 := (h.reads x hx).1
    simp only [readOk, Bool.and_eq_true] at h2
    have h3 := head_night h2.1
    unfold nightsRead at h1
    split at h1 <;> simp at h1 <;> omega
  · have h2 := (h.faults x hx).1
    simp only [faultOk, Bool.and_eq_true] at h2
    have h3 := head_night h2.1
    unfold nightsFault at h1
    split at h1 <;> simp at h1 <;> omega
def postsFrom (n : NetG) (known : Int) (j : Nat) : List PostG := ((datesN n).drop j).flatMap fun d => if d ≤ known then sendN n d else []
def postsN (n : NetG) (known : Int) : List PostG := postsFrom n known 0
theorem postsFrom_at {n : NetG} {known : Int} {j : Nat} (h : j < (datesN n).length) : postsFrom n known j = (if at0 (datesN n) j ≤ known then sendN n (at0 (datesN n) j) else []) ++ postsFrom n known (j + 1) := by
  unfold postsFrom
  rw [List.drop_eq_getElem_cons h, List.flatMap_cons, at0_get]
theorem postsFrom_end {n : NetG} {known : Int} {j : Nat} (h : (datesN n).length ≤ j) : postsFrom n known j = [] := by
  unfold postsFrom
  rw [List.drop_eq_nil_of_le h]
  rfl
theorem c155 (R : Ents) (n : NetG) (a b c d e : Value) (ro : Nat → Prop) (ch bt bn bk : Nat) (known : Int) (hn : NetV R a b c d e n) (hV : Valid n) (hs : SortOk (timesL n).flatten) (hs2 : SortOk (nightsL n).flatten) :
    WM Tryz.prog (Ec ro ch ((postsN n known).map postV)) 155 Tryz.f155.ntmps (Tryz.f155.body.getD .skip) (fun m' e t ds S => m' = ⟨ro, .send ch []⟩ ∧ (e = .normal ∨ e = .ret) ∧ ∃ ats ty cst, ds = [closeD ch ats ty cst])
      (den (dens [.pointer (some ⟨bt, 0, none⟩), .pointer (some ⟨bn, 0, none⟩), .pointer (some ⟨bk, 0, none⟩)] 0) fun _ => undef) [] (⟨bt, false, .cells #[.chan (some ch)] 207 (0, 0)⟩ :: ⟨bn, false, .cells #[a, b, c, d, e] 28 (0, 0)⟩ :: ⟨bk, false, .cells #[iv known] 3 (0, 0)⟩ :: R) := by
  have hdl := nightsL_len hV
  have hpl : (datesN n).length ≤ (nightsL n).flatten.length := sortedL_len
  refine wm_seq ?_
  refine wm_regionS 1 1 rfl ?_
  repeat' first|(refine gX ?_;first|refine o_v rfl rfl ?_|(refine gL ?_;first|refine o_load rfl rfl rfl rfl ?_|refine o_loadR rfl rfl rfl (by omega) rfl rfl ?_|refine o_loadW rfl rfl rfl rfl ?_|refine o_loadK rfl rfl rfl ?_)|(refine gB ?_;first|refine o_add rfl rfl rfl rfl (by omega) ?_)|(refine gI ?_;first|refine o_indexS rfl rfl rfl rfl rfl rfl (by omega) ?_|refine o_index rfl rfl rfl rfl rfl (by omega) ?_))|refine o_head0 rfl ?_|refine o_end ?_|refine o_head1 rfl ?_|refine wp_seq ?_|refine o_region ?_|refine wp_block ?_|refine wp_skip ?_|refine wp_exit ?_|(refine w_condD rfl ?_ ?_<;>intro h)|(refine w_cond rfl ?_ ?_<;>intro h<;>try exact Bool.noConfusion h)|refine w_ret (S) (vs:=[]) rfl Res.nil ?_
  refine opsM_defer (c := ch) rfl rfl rfl (opsM_nil ?_)
  change WM _ (Ec ro ch ((postsN n known).map postV)) _ _ _ _ _ _ _
  repeat' first|(refine gX ?_;first|refine o_v rfl rfl ?_|(refine gL ?_;first|refine o_load rfl rfl rfl rfl ?_|refine o_loadR rfl rfl rfl (by omega) rfl rfl ?_|refine o_loadW rfl rfl rfl rfl ?_|refine o_loadK rfl rfl rfl ?_)|(refine gB ?_;first|refine o_add rfl rfl rfl rfl (by omega) ?_)|(refine gC ?_;first|(refine o_callZ (R:=fun r S' => ∃ Δ, Own r (datesN n) Δ ∧ S' = Δ ++ _) rfl rfl rfl (c97 _ _ n _ _ _ _ _ (hn.sub Sb.h) hV hs2) ?_;rintro r _ ⟨Δo, hoo, rfl⟩;obtain ⟨da, dc, rfl, _, hda⟩ := hoo.slv;refine ⟨inferInstance, ?_⟩))|(refine gI ?_;first|refine o_indexS rfl rfl rfl rfl rfl rfl (by omega) ?_|refine o_index rfl rfl rfl rfl rfl (by omega) ?_))|refine o_head0 rfl ?_|refine o_end ?_|refine o_head1 rfl ?_|(show WM _ _ _ _ (.seq (.region _ _ _) _) _ _ _ _;refine wm_seqP ?_)|(show WM _ _ _ _ (.block _ _) _ _ _ _;refine wm_block ?_)|refine wp_seq ?_|refine o_region ?_|refine wp_block ?_|refine wp_skip ?_|refine wp_exit ?_|(refine w_condD rfl ?_ ?_<;>intro h)|(refine w_cond rfl ?_ ?_<;>intro h<;>try exact Bool.noConfusion h)|refine w_ret (S) (vs:=[]) rfl Res.nil ?_
  have i1 := SlI.mk hda
  refine wm_loop (fun i' m t ds S' => ∃ (j : Nat) (t0 : Tm), i' = (datesN n).length - j ∧ j ≤ (datesN n).length ∧ [closeD ch #[207] 0 #[false]] = ds ∧ Δo ++ ⟨bt, false, .cells #[.chan (some ch)] 207 (0, 0)⟩ :: ⟨bn, false, .cells #[a, b, c, d, e] 28 (0, 0)⟩ :: ⟨bk, false, .cells #[iv known] 3 (0, 0)⟩ :: R = S' ∧ m = ⟨ro, .send ch ((postsFrom n known j).map postV)⟩ ∧
      t = den [(9, iv j), (8, iv (datesN n).length), (7, .slice da (datesN n).length dc), (0, .pointer (some ⟨bt, 0, none⟩)), (1, .pointer (some ⟨bn, 0, none⟩)), (2, .pointer (some ⟨bk, 0, none⟩))] t0)
    _ ⟨0, _, rfl, Nat.zero_le _, rfl, rfl, rfl, keep ⟨rfl, rfl, rfl, rfl, rfl, rfl, trivial⟩⟩ ?_
  rintro i' m t ds S' ⟨j, t0, rfl, hj, rfl, rfl, rfl, rfl⟩
  change WM _ (Ec ro ch ((postsFrom n known j).map postV)) _ _ _ _ _ _ _
  by_cases hjl : j < (datesN n).length
  · have hat := postsFrom_at (known := known) hjl
    have hdo : 0 ≤ at0 (datesN n) j ∧ at0 (datesN n) j ≤ 100000 := datesN_ok hV (by rw [← at0_get hjl]; exact List.getElem_mem _)
    have hge : (datesN n)[j] = at0 (datesN n) j := at0_get hjl
    repeat' first|(refine gX ?_;first|refine o_v rfl rfl ?_|(refine gL ?_;first|refine o_load rfl rfl rfl rfl ?_|refine o_loadR rfl rfl rfl (by omega) rfl rfl ?_|refine o_loadW rfl rfl rfl rfl ?_|refine o_loadK rfl rfl rfl ?_)|(refine gB ?_;first|refine o_add rfl rfl rfl rfl (by omega) ?_)|(refine gI ?_;first|refine o_indexS rfl rfl rfl rfl rfl rfl (by omega) ?_|refine o_index rfl rfl rfl rfl rfl (by omega) ?_))|refine o_head0 rfl ?_|refine o_end ?_|refine o_head1 rfl ?_|(show WM _ _ _ _ (.seq (.region _ _ _) _) _ _ _ _;refine wm_seqP ?_)|(show WM _ _ _ _ (.seq (.cond _ .skip (.exit _)) _) _ _ _ _;refine wm_seqP ?_)|(show WM _ _ _ _ (.seq _ _) _ _ _ _;refine wm_seq ?_)|(show WM _ _ _ _ (.block _ _) _ _ _ _;refine wm_block ?_)|(refine w_condD rfl ?_ ?_<;>intro h<;>try (exact absurd (by omega) h))|(refine wm_condD rfl ?_ ?_<;>intro h)|(show WM _ _ _ _ (.region 5 _ _) _ _ _ _;refine wm_regionS 3 1 rfl ?_)|refine wm_skip ?_|(show WM _ _ _ _ (.region 6 _ _) _ _ _ _;refine wm_of ?_)|refine wp_seq ?_|refine o_region ?_|refine wp_block ?_|refine wp_skip ?_|refine wp_exit ?_|(refine w_condD rfl ?_ ?_<;>intro h)|(refine w_cond rfl ?_ ?_<;>intro h<;>try exact Bool.noConfusion h)|refine w_ret (S) (vs:=[]) rfl Res.nil ?_
    · rw [hge] at h
      have htag : (postsFrom n known j).map postV = (sendN n (at0 (datesN n) j)).map postV ++ (postsFrom n known (j + 1)).map postV := by rw [hat, if_pos h, List.map_append]
      have hcall : CallM Tryz.prog (Ec ro ch ((postsFrom n known j).map postV)) 156 #[.agg #[a, b, c, d, e], iv (datesN n)[j], .chan (some ch)] (Δo ++ ⟨bt, false, .cells #[.chan (some ch)] 207 (0, 0)⟩ :: ⟨bn, false, .cells #[a, b, c, d, e] 28 (0, 0)⟩ :: ⟨bk, false, .cells #[iv known] 3 (0, 0)⟩ :: R) fun m' r S' => m' = ⟨ro, .send ch ((postsFrom n known (j + 1)).map postV)⟩ ∧ List.Sublist (Δo ++ ⟨bt, false, .cells #[.chan (some ch)] 207 (0, 0)⟩ :: ⟨bn, false, .cells #[a, b, c, d, e] 28 (0, 0)⟩ :: ⟨bk, false, .cells #[iv known] 3 (0, 0)⟩ :: R) S' := by
        rw [htag, hge]
        exact c156 _ n a b c d e ro ch _ _ (hn.sub Sb.h) hV hs hdo
      refine opsM_call rfl rfl rfl hcall ?_
      rintro m' v S' ⟨rfl, hsub⟩
      refine opsM_nil ?_
      repeat' first|(refine gX ?_;first|refine o_v rfl rfl ?_|(refine gL ?_;first|refine o_load rfl rfl rfl rfl ?_|refine o_loadR rfl rfl rfl (by omega) rfl rfl ?_|refine o_loadW rfl rfl rfl rfl ?_|refine o_loadK rfl rfl rfl ?_)|(refine gB ?_;first|refine o_add rfl rfl rfl rfl (by omega) ?_)|(refine gI ?_;first|refine o_indexS rfl rfl rfl rfl rfl rfl (by omega) ?_|refine o_index rfl rfl rfl rfl rfl (by omega) ?_))|refine o_head0 rfl ?_|refine o_end ?_|refine o_head1 rfl ?_|(show WM _ _ _ _ (.region 6 _ _) _ _ _ _;refine wm_of ?_)|refine wp_seq ?_|refine o_region ?_|refine wp_block ?_|refine wp_skip ?_|refine wp_exit ?_|(refine w_condD rfl ?_ ?_<;>intro h)|(refine w_cond rfl ?_ ?_<;>intro h<;>try exact Bool.noConfusion h)|refine w_ret (S) (vs:=[]) rfl Res.nil ?_
      exact ⟨(datesN n).length - (j + 1), by omega, _, hsub, j + 1, _, rfl, by omega, rfl, rfl, rfl, keep ⟨rfl, rfl, rfl, rfl, rfl, rfl, trivial⟩⟩
    · rw [hge] at h
      have hskip : postsFrom n known j = postsFrom n known (j + 1) := by rw [hat, if_neg h]; rfl
      exact ⟨(datesN n).length - (j + 1), by omega, _, List.Sublist.refl _, j + 1, _, rfl, by omega, rfl, rfl, by rw [← hskip], keep ⟨rfl, rfl, rfl, rfl, rfl, rfl, trivial⟩⟩
  · have hje : j = (datesN n).length := by omega
    subst hje
    repeat' first|(refine gX ?_;first|refine o_v rfl rfl ?_|(refine gL ?_;first|refine o_load rfl rfl rfl rfl ?_|refine o_loadR rfl rfl rfl (by omega) rfl rfl ?_|refine o_loadW rfl rfl rfl rfl ?_|refine o_loadK rfl rfl rfl ?_)|(refine gB ?_;first|refine o_add rfl rfl rfl rfl (by omega) ?_)|(refine gI ?_;first|refine o_indexS rfl rfl rfl rfl rfl rfl (by omega) ?_|refine o_index rfl rfl rfl rfl rfl (by omega) ?_))|refine o_head0 rfl ?_|refine o_end ?_|refine o_head1 rfl ?_|(show WM _ _ _ _ (.seq (.region _ _ _) _) _ _ _ _;refine wm_seqP ?_)|(show WM _ _ _ _ (.seq (.cond _ .skip (.exit _)) _) _ _ _ _;refine wm_seqP ?_)|(refine w_condD rfl ?_ ?_<;>intro h<;>try (exact absurd h (by omega)))|refine wp_seq ?_|refine o_region ?_|refine wp_block ?_|refine wp_skip ?_|refine wp_exit ?_|(refine w_condD rfl ?_ ?_<;>intro h)|(refine w_cond rfl ?_ ?_<;>intro h<;>try exact Bool.noConfusion h)|refine w_ret (S) (vs:=[]) rfl Res.nil ?_
    refine ⟨?_, .inl rfl, _, _, _, rfl⟩
    show (⟨ro, .send ch ((postsFrom n known (datesN n).length).map postV)⟩ : Mode) = _
    rw [postsFrom_end (Nat.le_refl _)]
    rfl
inductive LowS : Ents → Ents → Prop
  | refl {S : Ents} : LowS S S
  | keep {e : Ent} {S' S : Ents} : LowS S' S → LowS (e :: S') (e :: S)
  | low {b : Nat} {o : Obj} {S' S : Ents} : LowS S' S → LowS (⟨b, false, o⟩ :: S') (⟨b, true, o⟩ :: S)
theorem LowS.mem {S' S : Ents} (h : LowS S' S) : ∀ e' ∈ S', ∃ e ∈ S, e.blk = e'.blk ∧ e.obj = e'.obj ∧ (e'.mine = true → e.mine = true) ∧ (e.mine = false → e'.mine = false) := by
  induction h with
  | refl => exact fun e he => ⟨e, he, rfl, rfl, id, id⟩
  | keep _ ih =>
    intro e' he
    rcases List.mem_cons.1 he with rfl | he
    · exact ⟨_, .head _, rfl, rfl, id, id⟩
    · obtain ⟨e, h1, h2⟩ := ih e' he; exact ⟨e, .tail _ h1, h2⟩
  | low _ ih =>
    intro e' he
    rcases List.mem_cons.1 he with rfl | he
    · exact ⟨_, .head _, rfl, rfl, fun _ => rfl, fun h => (by cases h)⟩
    · obtain ⟨e, h1, h2⟩ := ih e' he; exact ⟨e, .tail _ h1, h2⟩
theorem LowS.app {S' S : Ents} (h : LowS S' S) (F : Ents) : LowS (S' ++ F) (S ++ F) := by
  induction h with
  | refl => exact .refl
  | keep _ ih => exact .keep ih
  | low _ ih => exact .low ih
theorem LowS.apart {S' S : Ents} (h : LowS S' S) (hp : S.Pairwise fun e e' => (e.mine = true ∨ e'.mine = true) → e.blk ≠ e'.blk) : S'.Pairwise fun e e' => (e.mine = true ∨ e'.mine = true) → e.blk ≠ e'.blk := by
  induction h with
  | refl => exact hp
  | keep h ih =>
    obtain ⟨h1, h2⟩ := List.pairwise_cons.1 hp
    refine List.pairwise_cons.2 ⟨fun e' he hm => ?_, ih h2⟩
    obtain ⟨e, g1, g2, g3, g4, _⟩ := h.mem e' he
    rw [← g2]
    exact h1 e g1 (hm.imp id g4)
  | low h ih =>
    obtain ⟨h1, h2⟩ := List.pairwise_cons.1 hp
    refine List.pairwise_cons.2 ⟨fun e' he hm => ?_, ih h2⟩
    obtain ⟨e, g1, g2, g3, g4, _⟩ := h.mem e' he
    rw [← g2]
    exact h1 e g1 (.inl rfl)
theorem Holds.low {S' S : Ents} {w : World} {O ro : Nat → Prop} (h : Holds S w O ro) (hl : LowS S' S) : Holds S' w O ro :=
  ⟨fun e' he => by
    obtain ⟨e, g1, g2, g3, _, g5⟩ := hl.mem e' he
    obtain ⟨k1, k2⟩ := h.each e g1
    rw [← g2, ← g3]
    exact ⟨k1, k2.imp id fun x => ⟨g5 x.1, x.2⟩⟩, hl.apart h.apart⟩
theorem OpsM.low {P : Program} {E : Env} {fn n : Nat} {ops : Array Oper} {todo : List Nat} {K : Mode → Tm → List Deferred → Ents → Prop} {t : Tm} {ds : List Deferred} {S S' : Ents} (h : OpsM P E fn n ops todo K t ds S') (hl : LowS S' S) : OpsM P E fn n ops todo K t ds S := by
  unfold OpsM at *
  exact fun F b arr k cs w O Stop h1 h2 h3 h4 h5 => h F b arr k cs w O Stop h1 h2 h3 (h4.low (hl.app F)) h5
theorem CallW.low {P : Program} {E : Env} {f : FuncId} {args : Array Value} {R : Value → Ents → Prop} {S S' : Ents} (h : CallW P E f args S' R) (hl : LowS S' S) : CallW P E f args S R := by
  unfold CallW at *
  exact ⟨h.1, fun F c cs w O Stop h1 h2 => h.2 F c cs w O Stop (h1.low (hl.app F)) h2⟩
theorem o_chan {E : Env} {fn n : Nat} {K : Tm → List Deferred → Ents → Prop} {l : TL} {t : Tm} {ds : List Deferred} {S Z Zi : Ents} {ops : Array Oper} {i : Nat} {z : Bool} {rest : List (Nat × Bool)} {sq : Bool} {d : Nat} {ty : TypeId} {pos : String} {af : Array Edge} {g : Option (Nat × Bool)} {ct e sz by' : Nat} {x : Operand}
    (hw : wantL ops l t g = some true) (hd : Nat.blt d n = true) (hc : chanT Tryz.prog ct = some e) [he : Eb e sz by'] (hx : evL l t x = some (.int .i64 0))
    (h : ∀ c, OpF Tryz.prog E fn n ops sq rest K (den ((d, .chan (some c)) :: l) t) ds Z (⟨c, true, .chan 0 #[] false 0 0 false⟩ :: S)) : OpX Tryz.prog E fn n ops sq i z rest ⟨some d, .makeChan ct x, ty, pos, af, g⟩ K (den l t) ds Zi Z S := by
  obtain ⟨dir, hu⟩ := chanT_ok hc
  refine o_A rfl (R := fun u S' => ∃ c, u = .chan (some c) ∧ S' = ⟨c, true, .chan 0 #[] false 0 0 false⟩ :: S) (exec_of hw hd rfl rfl ?_) (by rintro _ _ ⟨c, rfl, rfl⟩; exact ⟨Z, fun _ hz => ⟨fun _ => List.Sublist.refl _, .cons _ hz⟩, h c⟩)
  unfold OpH execOp
  refine semH_bind (?_ : SemH Tryz.prog E.m (Instr.makeChan ct (ev (den l t) x)) S _)
  rw [evL_eq hx]
  unfold Instr.makeChan
  refine semH_bind (semH_pure ?_)
  refine semH_bind (semH_underlying hu ?_)
  simp only
  refine semH_bytes he.h.1 fun i hi => ?_
  rw [if_neg (by simp [IntKind.max, IntKind.signed, IntKind.bits])]
  refine semH_bind (semH_new fun c => semH_pure (semH_pure ⟨_, .inl rfl, c, rfl, rfl⟩))
end Go.Proofs.YtpnnmklacialgaaGreat
namespace Go.Proofs.YtpnnmklacialgaaGreat
open Go.Conc
attribute [local irreducible] WP OpF OpX CallW SemH retQ AnyF RoundW WM OpsM CallM
@[reducible] def Em (ro : Nat → Prop) (tg : Tag) (rd : Bool) : Env := ⟨true, XM Tryz.prog, ⟨ro, tg⟩, rd⟩
instance : Eb 66 5 40 := ⟨by kernel_rfl, by decide, by decide⟩
theorem chan207 : chanT Tryz.prog 207 = some 66 := by kernel_rfl
theorem zero66 : zeroV Tryz.prog 66 = some (postV ⟨0, 0, 0, 0, 0⟩) := by kernel_rfl
theorem c92 (ro : Nat → Prop) (rd : Bool) (S R : Ents) (n : NetG) (a b c d e : Value) (known : Int) (hn : NetV R a b c d e n) (hR : ∀ x ∈ R, x.mine = false ∧ x ∈ S) (hV : Valid n) (hs : SortOk (timesL n).flatten) (hs2 : SortOk (nightsL n).flatten) (hlen : (postsN n known).length ≤ 1000000) :
    CallW Tryz.prog (Em ro .plain rd) 92 #[.agg #[a, b, c, d, e], iv known] S fun r S' => ∃ Δ, Own r (postsN n known) Δ ∧ S' = Δ ++ S := by
  refine CallM.callW ?_
  refine callM_in (args := [.agg #[a, b, c, d, e], iv known]) Tryz.func92 (by decide) rfl rfl ?_
  repeat' first|(refine gX ?_;first|refine o_v rfl rfl ?_|(refine gL ?_;first|refine o_load rfl rfl rfl rfl ?_|refine o_loadR rfl rfl rfl (by omega) rfl rfl ?_|refine o_loadW rfl rfl rfl rfl ?_|refine o_loadK rfl rfl rfl ?_)|(refine gS ?_;first|refine o_store rfl rfl rfl rfl rfl rfl ?_|refine o_storeW rfl rfl rfl rfl rfl rfl ?_)|(refine o_chan rfl rfl chan207 rfl ?_;intro ch)|(refine o_allocZ rfl rfl ?_;intro _)|(refine o_box rfl rfl rfl ?_;intro _)|(refine o_bslice rfl rfl rfl rfl rfl rfl rfl ?_;intro _))|refine o_head0 rfl ?_|refine o_end ?_|refine o_head1 rfl ?_|(show WM _ _ _ _ (.seq (.region 2 _ _) _) _ _ _ _;refine wm_seq ?_)|(show WM _ _ _ _ (.seq (.region _ _ _) _) _ _ _ _;refine wm_seqP ?_)|(show WM _ _ _ _ (.region 2 _ _) _ _ _ _;refine wm_regionS 1 1 rfl ?_)|refine wp_seq ?_|refine o_region ?_|refine wp_block ?_|refine wp_skip ?_|refine wp_exit ?_|(refine w_condD rfl ?_ ?_<;>intro h)|(refine w_cond rfl ?_ ?_<;>intro h<;>try exact Bool.noConfusion h)|refine w_ret (S) (vs:=[_]) rfl (Res.tmp rfl Res.nil) ?_
  rename_i bn bk bt
  refine OpsM.low (S' := ⟨bt, false, .cells #[.chan (some ch)] 207 (0, 0)⟩ :: ⟨ch, true, .chan 0 #[] false 0 0 false⟩ :: ⟨bk, false, .cells #[iv known] 3 (0, 0)⟩ :: ⟨bn, false, .cells #[a, b, c, d, e] 28 (0, 0)⟩ :: S) ?_ (.low (.keep (.low (.low .refl))))
  refine opsM_go (c := ch) (s := 0) (r := 0) (tm := false) (f := 155) (cap := [.pointer (some ⟨bt, 0, none⟩), .pointer (some ⟨bn, 0, none⟩), .pointer (some ⟨bk, 0, none⟩)]) (S0 := ⟨bt, false, .cells #[.chan (some ch)] 207 (0, 0)⟩ :: ⟨bk, false, .cells #[iv known] 3 (0, 0)⟩ :: ⟨bn, false, .cells #[a, b, c, d, e] 28 (0, 0)⟩ :: S)
    (R := ⟨bt, false, .cells #[.chan (some ch)] 207 (0, 0)⟩ :: ⟨bn, false, .cells #[a, b, c, d, e] 28 (0, 0)⟩ :: ⟨bk, false, .cells #[iv known] 3 (0, 0)⟩ :: R) (L := (postsN n known).map postV) rfl ⟨rfl, rfl, rfl⟩ rfl (List.Perm.swap ..) ?_ ?_ ?_
  · intro x hx
    simp only [List.mem_cons] at hx
    rcases hx with rfl | rfl | rfl | hx
    · exact ⟨rfl, by simp⟩
    · exact ⟨rfl, by simp⟩
    · exact ⟨rfl, by simp⟩
    · exact ⟨(hR x hx).1, .tail _ (.tail _ (.tail _ (hR x hx).2))⟩
  · intro ro' w hh
    exact runC_of Tryz.func155 (by decide) rfl rfl rfl (c155 R n a b c d e ro' ch bt bn bk known hn hV hs hs2) hh
  intro ro'
  refine opsM_nil ?_
  change WM _ (Em ro' (.recv ch ((postsN n known).map postV)) rd) _ _ _ _ _ _ _
  repeat' first|(refine gX ?_;first|refine o_v rfl rfl ?_|(refine gL ?_;first|refine o_load rfl rfl rfl rfl ?_|refine o_loadR rfl rfl rfl (by omega) rfl rfl ?_|refine o_loadW rfl rfl rfl rfl ?_|refine o_loadK rfl rfl rfl ?_)|(refine gS ?_;first|refine o_store rfl rfl rfl rfl rfl rfl ?_|refine o_storeW rfl rfl rfl rfl rfl rfl ?_)|(refine o_allocZ rfl rfl ?_;intro _)|(refine o_box rfl rfl rfl ?_;intro _)|(refine o_bslice rfl rfl rfl rfl rfl rfl rfl ?_;intro _))|refine o_head0 rfl ?_|refine o_end ?_|refine o_head1 rfl ?_|(show WM _ _ _ _ (.seq (.seq (.region _ _ _) (.block _ _)) _) _ _ _ _;refine wm_seq ?_)|(show WM _ _ _ _ (.seq (.region _ _ _) _) _ _ _ _;refine wm_seqP ?_)|(show WM _ _ _ _ (.block _ _) _ _ _ _;refine wm_block ?_)|refine wp_seq ?_|refine o_region ?_|refine wp_block ?_|refine wp_skip ?_|refine wp_exit ?_|(refine w_condD rfl ?_ ?_<;>intro h)|(refine w_cond rfl ?_ ?_<;>intro h<;>try exact Bool.noConfusion h)|refine w_ret (S) (vs:=[_]) rfl (Res.tmp rfl Res.nil) ?_
  refine wm_loop (fun i' m t ds S' => ∃ (j : Nat) (t0 : Tm) (w : Value) (Δ : Ents), i' = (postsN n known).length - j ∧ j ≤ (postsN n known).length ∧ [] = ds ∧ Δ ++ ⟨bt, false, .cells #[.chan (some ch)] 207 (0, 0)⟩ :: ⟨bk, false, .cells #[iv known] 3 (0, 0)⟩ :: ⟨bn, false, .cells #[a, b, c, d, e] 28 (0, 0)⟩ :: S = S' ∧ m = ⟨ro', .recv ch (((postsN n known).drop j).map postV)⟩ ∧
      t = den [(10, .chan (some ch)), (6, w)] t0 ∧ Own w ((postsN n known).take j) Δ)
    _ ⟨0, _, _, [], rfl, Nat.zero_le _, rfl, rfl, rfl, keep ⟨rfl, rfl, trivial⟩, .nil⟩ ?_
  rintro i' m t ds S' ⟨j, t0, w, Δ, rfl, hj, rfl, rfl, rfl, rfl, ho⟩
  change WM _ (Em ro' (.recv ch (((postsN n known).drop j).map postV)) rd) _ _ _ _ _ _ _
  refine wm_seq ?_
  refine wm_regionS 0 2 rfl (o_end ?_)
  have hlt : ((postsN n known).take j).length ≤ 1000000 := by rw [List.length_take]; omega
  by_cases hjl : j < (postsN n known).length
  · have hdr : ((postsN n known).drop j).map postV = postV ((postsN n known)[j]'hjl) :: ((postsN n known).drop (j + 1)).map postV := by rw [List.drop_eq_getElem_cons hjl, List.map_cons]
    refine opsM_recv (ro := ro') (c := ch) (v := postV ((postsN n known)[j]'hjl)) (L := ((postsN n known).drop (j + 1)).map postV) rfl rfl ⟨rfl, rfl, congrArg (fun q => (⟨ro', .recv ch q⟩ : Mode)) hdr⟩ chan207 zero66 rfl (opsM_rest (j := 1) (r := 1) ?_)
    repeat' first|(refine gX ?_;first|refine o_v rfl rfl ?_|(refine gL ?_;first|refine o_load rfl rfl rfl rfl ?_|refine o_loadR rfl rfl rfl (by omega) rfl rfl ?_|refine o_loadW rfl rfl rfl rfl ?_|refine o_loadK rfl rfl rfl ?_)|(refine gC ?_;first|(refine o_append1 ((postsN n known)[j]'(by first|done|omega)) rfl rfl rfl rfl ho rfl (by omega) rfl rfl rfl rfl ?_;intro w2 Δ2 ho2;refine ⟨inferInstance, ?_⟩))|(refine gS ?_;first|refine o_store rfl rfl rfl rfl rfl rfl ?_|refine o_storeW rfl rfl rfl rfl rfl rfl ?_)|(refine o_allocZ rfl rfl ?_;intro _)|(refine o_box rfl rfl rfl ?_;intro _)|(refine o_bslice rfl rfl rfl rfl rfl rfl rfl ?_;intro _))|refine o_head0 rfl ?_|refine o_end ?_|refine o_head1 rfl ?_|(show WM _ _ _ _ (.seq (.region _ _ _) _) _ _ _ _;refine wm_seqP ?_)|(show WM _ _ _ _ (.seq (.cond _ .skip (.exit _)) _) _ _ _ _;refine wm_seqP ?_)|(show WM _ _ _ _ (.block _ _) _ _ _ _;refine wm_block ?_)|(show WM _ _ _ _ (.region _ _ _) _ _ _ _;refine wm_of ?_)|(refine w_cond rfl ?_ ?_<;>intro h<;>try exact Bool.noConfusion h)|refine wp_seq ?_|refine o_region ?_|refine wp_block ?_|refine wp_skip ?_|refine wp_exit ?_|(refine w_condD rfl ?_ ?_<;>intro h)|(refine w_cond rfl ?_ ?_<;>intro h<;>try exact Bool.noConfusion h)|refine w_ret (S) (vs:=[_]) rfl (Res.tmp rfl Res.nil) ?_
    refine ⟨(postsN n known).length - (j + 1), by omega, _, .append_left (.cons _ (.cons _ (List.Sublist.refl _))) _, j + 1, _, _, Δ2, rfl, by omega, rfl, rfl, rfl, keep ⟨rfl, rfl, trivial⟩, ?_⟩
    rw [List.take_succ_eq_append_getElem hjl]
    exact ho2
  · have hje : j = (postsN n known).length := by omega
    subst hje
    have hdr : ((postsN n known).drop (postsN n known).length).map postV = [] := by rw [List.drop_length]; rfl
    refine opsM_recvEnd ro (ro := ro') (c := ch) rfl rfl ⟨rfl, rfl, congrArg (fun q => (⟨ro', .recv ch q⟩ : Mode)) hdr⟩ chan207 zero66 rfl (opsM_rest (j := 1) (r := 1) ?_)
    rw [List.take_length] at ho
    repeat' first|(refine gX ?_;first|refine o_v rfl rfl ?_|(refine gL ?_;first|refine o_load rfl rfl rfl rfl ?_|refine o_loadR rfl rfl rfl (by omega) rfl rfl ?_|refine o_loadW rfl rfl rfl rfl ?_|refine o_loadK rfl rfl rfl ?_)|(refine gS ?_;first|refine o_store rfl rfl rfl rfl rfl rfl ?_|refine o_storeW rfl rfl rfl rfl rfl rfl ?_)|(refine o_allocZ rfl rfl ?_;intro _)|(refine o_box rfl rfl rfl ?_;intro _)|(refine o_bslice rfl rfl rfl rfl rfl rfl rfl ?_;intro _))|refine o_head0 rfl ?_|refine o_end ?_|refine o_head1 rfl ?_|(show WM _ _ _ _ (.seq (.region _ _ _) _) _ _ _ _;refine wm_seqP ?_)|(show WM _ _ _ _ (.seq (.cond _ .skip (.exit _)) _) _ _ _ _;refine wm_seqP ?_)|(refine w_cond rfl ?_ ?_<;>intro h<;>try exact Bool.noConfusion h)|(show WM _ _ _ _ .ret _ _ _ _;refine wm_of ?_)|refine wp_seq ?_|refine o_region ?_|refine wp_block ?_|refine wp_skip ?_|refine wp_exit ?_|(refine w_condD rfl ?_ ?_<;>intro h)|(refine w_cond rfl ?_ ?_<;>intro h<;>try exact Bool.noConfusion h)|refine w_ret (Δ ++ S) (vs:=[_]) rfl (Res.tmp rfl Res.nil) ?_|refine w_ret (S) (vs:=[_]) rfl (Res.tmp rfl Res.nil) ?_
    exact ⟨rfl, Δ, ho, rfl⟩
theorem NetV.subset {S S' : Ents} {a b c d e : Value} {n : NetG} (h : NetV S a b c d e n) (hs : ∀ x ∈ S, x ∈ S') : NetV S' a b c d e n := by
  have key : ∀ {α : Type} [En : Enc α] {v : Value} {xs : List α}, SlV S v xs → SlV S' v xs := by
    rintro α En v xs ⟨q, cap, h1, h2, h3⟩
    exact ⟨q, cap, h1, h2, fun h0 => ⟨(h3 h0).1, let ⟨mn, c, ty, fz, h4, h5⟩ := (h3 h0).2; ⟨mn, c, ty, fz, hs _ h4, h5⟩⟩⟩
  exact ⟨key h.mains, key h.uses, key h.readings, key h.faults, key h.prices, h.mains_le, h.uses_le, h.readings_le, h.faults_le, h.prices_le⟩
theorem flat_bd {α β : Type} {f : α → List β} {k : Nat} : ∀ {l : List α}, (∀ x ∈ l, (f x).length ≤ k) → (l.flatMap f).length ≤ k * l.length
  | [], _ => by simp
  | x :: l, h => by
    have h1 := h x (.head _)
    have h2 := flat_bd (f := f) (l := l) fun y hy => h y (.tail _ hy)
    rw [List.flatMap_cons, List.length_append, List.length_cons, Nat.mul_add, Nat.mul_one]
    omega
theorem postAt_len {n : NetG} {d p : Int} {i : Nat} : (postAt n d p i).length ≤ 1 := by
  unfold postAt
  split <;> simp
theorem sendN_len {n : NetG} (h : Valid n) {d : Int} : (sendN n d).length ≤ 2160 := by
  have h1 := timesL_len h
  have h2 : (periodsN n).length ≤ (timesL n).flatten.length := sortedL_len
  have h3 : ∀ i, (sendRow n d i 0).length ≤ 180 := fun i => by
    unfold sendRow
    have := flat_bd (f := fun p => postAt n d p i) (k := 1) (l := (periodsN n).drop 0) fun p _ => postAt_len
    simp only [List.drop_zero] at this ⊢
    omega
  unfold sendN sendFrom
  have := flat_bd (f := fun i => sendRow n d i 0) (k := 180) (l := List.range' 0 (n.mains.length - 0)) fun i _ => h3 i
  have h12 := h.m12
  rw [List.length_range'] at this
  omega
theorem postsN_len {n : NetG} (h : Valid n) {known : Int} : (postsN n known).length ≤ 777600 := by
  have h1 := nightsL_len h
  have h2 : (datesN n).length ≤ (nightsL n).flatten.length := sortedL_len
  unfold postsN postsFrom
  have := flat_bd (f := fun d => if d ≤ known then sendN n d else []) (k := 2160) (l := (datesN n).drop 0) fun d _ => by
    split
    · exact sendN_len h
    · simp
  simp only [List.drop_zero] at this ⊢
  omega
def PostOk (x : PostG) : Prop := -150000000000000000 ≤ x.gas ∧ x.gas ≤ 150000000000000000 ∧ -60000000 ≤ x.penalty ∧ x.penalty ≤ 60000000
theorem postsN_ok {n : NetG} (h : Valid n) {known : Int} {x : PostG} (hx : x ∈ postsN n known) : PostOk x := by
  unfold postsN postsFrom at hx
  obtain ⟨d, _, hx⟩ := List.mem_flatMap.1 hx
  split at hx
  · unfold sendN sendFrom at hx
    obtain ⟨i, _, hx⟩ := List.mem_flatMap.1 hx
    unfold sendRow at hx
    obtain ⟨p, _, hx⟩ := List.mem_flatMap.1 hx
    unfold postAt at hx
    split at hx
    · cases hx
    · rw [List.mem_singleton.1 hx]
      have h1 := billsN_bd h (p := p) (k := d) (i := i)
      have h2 := wasN_bd h (p := p) (d := d) (i := i)
      unfold BillOk at h1 h2
      unfold PostOk
      simp only
      omega
  · cases hx
def postsG (n : NetG) (known : Int) : List PostG := if lookE n 0 known = 0 then postsN n known else []
def SortsOk (n : NetG) : Prop := Valid n → SortOk (timesL n).flatten ∧ SortOk (nightsL n).flatten
theorem c21 (ro : Nat → Prop) (rd : Bool) (S R : Ents) (n : NetG) (a b c d e : Value) (known : Int) (hn : NetV R a b c d e n) (hR : ∀ x ∈ R, x.mine = false ∧ x ∈ S) (hs : SortsOk n) :
    CallW Tryz.prog (Em ro .plain rd) 21 #[.agg #[a, b, c, d, e], iv known] S fun r S' => ∃ v Δ, r = .tuple #[v, iv (lookE n 0 known)] ∧ Own v (postsG n known) Δ ∧ S' = Δ ++ S := by
  refine call_in (args := [.agg #[a, b, c, d, e], iv known]) Tryz.func21 (by decide) rfl rfl ?_
  have hnS := hn.subset fun x hx => (hR x hx).2
  repeat' first|(refine gX ?_;first|refine o_v rfl rfl ?_|(refine gL ?_;first|refine o_load rfl rfl rfl rfl ?_|refine o_loadR rfl rfl rfl (by omega) rfl rfl ?_|refine o_loadW rfl rfl rfl rfl ?_|refine o_loadK rfl rfl rfl ?_)|(refine gC ?_;first|refine o_callF rfl rfl rfl (c72 _ _ n _ _ _ _ _ _ _ (hnS.sub Sb.h)) ?_|(refine o_callZ (R:=fun r S' => ∃ Δ, Own r (postsN n known) Δ ∧ S' = Δ ++ _) rfl rfl rfl (c92 ro rd _ R n _ _ _ _ _ known hn (fun x hx => ⟨(hR x hx).1, .tail _ (hR x hx).2⟩) (look_valid (n := n) (p := 0) (k := known) (by omega)) (hs (look_valid (n := n) (p := 0) (k := known) (by omega))).1 (hs (look_valid (n := n) (p := 0) (k := known) (by omega))).2 (Nat.le_trans (postsN_len (look_valid (n := n) (p := 0) (k := known) (by omega))) (by omega))) ?_;rintro r _ ⟨Δ, ho, rfl⟩;refine ⟨inferInstance, ?_⟩))|(refine o_box rfl rfl rfl ?_;intro _))|refine o_head0 rfl ?_|refine o_end ?_|refine o_head1 rfl ?_|refine wp_seq ?_|refine o_region ?_|refine wp_skip ?_|(refine w_condD rfl ?_ ?_<;>intro h)|(refine w_cond rfl ?_ ?_<;>intro h<;>try exact Bool.noConfusion h)|refine w_ret (Δ ++ S) (vs:=[_,_]) rfl (Res.tmp rfl (Res.tmp rfl Res.nil)) ?_|refine w_ret (S) (vs:=[_,_]) rfl (Res.tmp rfl (Res.tmp rfl Res.nil)) ?_
  · refine ⟨_, [], rfl, ?_, rfl⟩
    unfold postsG
    rw [if_neg h]
    exact .nil
  · have h0 : lookE n 0 known = 0 := Classical.not_not.1 h
    refine ⟨_, Δ, by rw [h0]; rfl, ?_, rfl⟩
    unfold postsG
    rw [if_pos h0]
    exact ho
def balT (l : List PostG) (main : Int) : Nat → Int
  | 0 => 0
  | j + 1 => balT l main j + (match l[j]? with | some x => if x.main = main then x.gas - x.penalty else 0 | none => 0)
theorem balT_succ {l : List PostG} {main : Int} {j : Nat} (h : j < l.length) : balT l main (j + 1) = balT l main j + if l[j].main = main then l[j].gas - l[j].penalty else 0 := by
  show balT l main j + (match l[j]? with | some x => if x.main = main then x.gas - x.penalty else 0 | none => 0) = _
  rw [List.getElem?_eq_getElem h]
def balE (n : NetG) (main known : Int) : Int := if validB n = true then (if placeF n main < 0 then 70 else lookE n 0 known) else 74
def balG (n : NetG) (main known : Int) : Int := if balE n main known = 0 then balT (postsN n known) main (postsN n known).length else 0
def BalOk (n : NetG) (main known : Int) : Prop := ∀ j, j ≤ (postsN n known).length → -4000000000000000000 ≤ balT (postsN n known) main j ∧ balT (postsN n known) main j ≤ 4000000000000000000
theorem c23 (ro : Nat → Prop) (rd : Bool) (S R : Ents) (n : NetG) (a b c d e : Value) (main known : Int) (hn : NetV R a b c d e n) (hR : ∀ x ∈ R, x.mine = false ∧ x ∈ S) (hs : SortsOk n) (hb : Valid n → BalOk n main known) :
    CallW Tryz.prog (Em ro .plain rd) 23 #[.agg #[a, b, c, d, e], iv main, iv known] S fun r S' => r = .tuple #[iv (balG n main known), iv (balE n main known)] ∧ S' = S := by
  refine call_in (args := [.agg #[a, b, c, d, e], iv main, iv known]) Tryz.func23 (by decide) rfl rfl ?_
  have hnS := hn.subset fun x hx => (hR x hx).2
  repeat' first|(refine gX ?_;first|refine o_v rfl rfl ?_|(refine gL ?_;first|refine o_load rfl rfl rfl rfl ?_|refine o_loadR rfl rfl rfl (by omega) rfl rfl ?_|refine o_loadW rfl rfl rfl rfl ?_|refine o_loadK rfl rfl rfl ?_)|(refine gF ?_;first|refine o_fieldI rfl rfl rfl rfl ?_|refine o_field rfl rfl rfl rfl ?_)|(refine gB ?_;first|refine o_add rfl rfl rfl rfl (by omega) ?_|refine o_sub rfl rfl rfl rfl (by omega) ?_|refine o_eqNil rfl rfl rfl rfl rfl ?_)|(refine gC ?_;first|refine o_callF rfl rfl rfl (c71 _ _ n _ _ _ _ _ (hnS.sub Sb.h)) ?_|refine o_callF rfl rfl rfl (c87 _ _ n _ _ _ _ _ _ (hnS.sub Sb.h)) ?_|(refine o_callZ rfl rfl rfl (c21 ro rd _ R n _ _ _ _ _ known hn (fun x hx => ⟨(hR x hx).1, .tail _ (hR x hx).2⟩) hs) ?_;rintro r _ ⟨v, Δ, rfl, ho, rfl⟩;obtain ⟨wa, wc, rfl, _, hra⟩ := ho.slv;have i1 := SlI.mk hra;refine ⟨inferInstance, ?_⟩))|(refine gI ?_;first|refine o_indexS rfl rfl rfl rfl rfl rfl (by omega) ?_|refine o_index rfl rfl rfl rfl rfl (by omega) ?_)|(refine gS ?_;first|refine o_store rfl rfl rfl rfl rfl rfl ?_|refine o_storeW rfl rfl rfl rfl rfl rfl ?_)|(refine o_allocZ rfl rfl ?_;intro _)|(refine o_box rfl rfl rfl ?_;intro _))|refine o_head0 rfl ?_|refine o_end ?_|refine o_head1 rfl ?_|refine wp_seq ?_|refine o_region ?_|refine wp_block ?_|refine wp_skip ?_|refine wp_exit ?_|(refine w_condD rfl ?_ ?_<;>intro h)|(refine w_cond rfl ?_ ?_<;>intro h<;>try exact Bool.noConfusion h)|refine w_ret (S) (vs:=[_,_]) rfl (Res.tmp rfl (Res.tmp rfl Res.nil)) ?_
  · have hv : ¬ validB n = true := fun hc => h (if_pos hc)
    have ee : balE n main known = 74 := if_neg hv
    exact ⟨by unfold balG; rw [if_neg hv, if_neg (show ¬ balE n main known = 0 by rw [ee]; decide), ee]; rfl, rfl⟩
  all_goals have hv : validB n = true := Classical.byContradiction fun hc => by simp_all
  · have ee : balE n main known = 70 := by unfold balE; rw [if_pos hv, if_pos h]
    exact ⟨by unfold balG; rw [if_neg (show ¬ balE n main known = 0 by rw [ee]; decide), ee]; rfl, rfl⟩
  · have ee : balE n main known = lookE n 0 known := by unfold balE; rw [if_pos hv, if_neg (by assumption)]
    exact ⟨by unfold balG; rw [if_neg (show ¬ balE n main known = 0 by rw [ee]; exact h), ee]; rfl, rfl⟩
  have hl : lookE n 0 known = 0 := by omega
  have ee : balE n main known = 0 := by unfold balE; rw [if_pos hv, if_neg (by assumption), hl]
  have hpg : postsG n known = postsN n known := if_pos hl
  have hV := look_valid (n := n) (p := 0) (k := known) hl
  have hpl := postsN_len hV (known := known)
  replace hb := hb hV
  rw [hpg] at ho hra
  clear i1
  have i1 := SlI.mk hra
  rename_i b0 _ _ _
  refine wp_loop (fun i' t ds S' => ∃ (j : Nat) (t0 : Tm), i' = (postsN n known).length - j ∧ j ≤ (postsN n known).length ∧ [] = ds ∧ Δ ++ ⟨b0, true, .cells (Value.agg #[a, b, c, d, e]).cells 28 (0, 0)⟩ :: S = S' ∧ t = den [(34, iv j), (33, iv (postsN n known).length), (32, .slice wa (postsN n known).length wc), (11, iv (balT (postsN n known) main j)), (1, iv main), (6, iv 0), (7, iv 0)] t0)
    (postsN n known).length ⟨0, _, rfl, Nat.zero_le _, rfl, rfl, by rw [hpg]; exact keep ⟨rfl, rfl, rfl, rfl, rfl, rfl, rfl, trivial⟩⟩ ?_
  rintro i' t ds S' ⟨j, t0, rfl, hj, rfl, rfl, rfl⟩
  by_cases hjl : j < (postsN n known).length
  · have hpo := postsN_ok hV (List.getElem_mem hjl)
    have hb1 := hb j (by omega)
    have hb2 := hb (j + 1) (by omega)
    have hst := balT_succ (main := main) hjl
    unfold PostOk at hpo
    by_cases hm : (postsN n known)[j].main = main
    · rw [if_pos hm] at hst
      repeat' first|(refine gX ?_;first|refine o_v rfl rfl ?_|(refine gL ?_;first|refine o_load rfl rfl rfl rfl ?_|refine o_loadR rfl rfl rfl (by omega) rfl rfl ?_|refine o_loadW rfl rfl rfl rfl ?_|refine o_loadK rfl rfl rfl ?_)|(refine gF ?_;first|refine o_fieldI rfl rfl rfl rfl ?_|refine o_field rfl rfl rfl rfl ?_)|(refine gB ?_;first|refine o_add rfl rfl rfl rfl (by omega) ?_|refine o_sub rfl rfl rfl rfl (by omega) ?_|refine o_eqNil rfl rfl rfl rfl rfl ?_)|(refine gI ?_;first|refine o_indexS rfl rfl rfl rfl rfl rfl (by omega) ?_|refine o_index rfl rfl rfl rfl rfl (by omega) ?_)|(refine gS ?_;first|refine o_store rfl rfl rfl rfl rfl rfl ?_|refine o_storeW rfl rfl rfl rfl rfl rfl ?_)|(refine o_allocZ rfl rfl ?_;intro _)|(refine o_box rfl rfl rfl ?_;intro _))|refine o_head0 rfl ?_|refine o_end ?_|refine o_head1 rfl ?_|(refine w_condD rfl ?_ ?_<;>intro h<;>try (first|exact absurd (by omega) h|exact absurd hm h))|refine wp_seq ?_|refine o_region ?_|refine wp_block ?_|refine wp_skip ?_|refine wp_exit ?_|(refine w_condD rfl ?_ ?_<;>intro h)|(refine w_cond rfl ?_ ?_<;>intro h<;>try exact Bool.noConfusion h)|refine w_ret (S) (vs:=[_,_]) rfl (Res.tmp rfl (Res.tmp rfl Res.nil)) ?_
      exact ⟨(postsN n known).length - (j + 1), by omega, _, .cons _ (List.Sublist.refl _), j + 1, _, rfl, by omega, rfl, rfl, keep ⟨rfl, rfl, rfl, congrArg (fun q : Int => some (iv q)) hst.symm, rfl, rfl, rfl, trivial⟩⟩
    · rw [if_neg hm, Int.add_zero] at hst
      repeat' first|(refine gX ?_;first|refine o_v rfl rfl ?_|(refine gL ?_;first|refine o_load rfl rfl rfl rfl ?_|refine o_loadR rfl rfl rfl (by omega) rfl rfl ?_|refine o_loadW rfl rfl rfl rfl ?_|refine o_loadK rfl rfl rfl ?_)|(refine gF ?_;first|refine o_fieldI rfl rfl rfl rfl ?_|refine o_field rfl rfl rfl rfl ?_)|(refine gB ?_;first|refine o_add rfl rfl rfl rfl (by omega) ?_|refine o_sub rfl rfl rfl rfl (by omega) ?_|refine o_eqNil rfl rfl rfl rfl rfl ?_)|(refine gI ?_;first|refine o_indexS rfl rfl rfl rfl rfl rfl (by omega) ?_|refine o_index rfl rfl rfl rfl rfl (by omega) ?_)|(refine gS ?_;first|refine o_store rfl rfl rfl rfl rfl rfl ?_|refine o_storeW rfl rfl rfl rfl rfl rfl ?_)|(refine o_allocZ rfl rfl ?_;intro _)|(refine o_box rfl rfl rfl ?_;intro _))|refine o_head0 rfl ?_|refine o_end ?_|refine o_head1 rfl ?_|(refine w_condD rfl ?_ ?_<;>intro h<;>try (first|exact absurd (by omega) h|exact absurd h hm))|refine wp_seq ?_|refine o_region ?_|refine wp_block ?_|refine wp_skip ?_|refine wp_exit ?_|(refine w_condD rfl ?_ ?_<;>intro h)|(refine w_cond rfl ?_ ?_<;>intro h<;>try exact Bool.noConfusion h)|refine w_ret (S) (vs:=[_,_]) rfl (Res.tmp rfl (Res.tmp rfl Res.nil)) ?_
      exact ⟨(postsN n known).length - (j + 1), by omega, _, .cons _ (List.Sublist.refl _), j + 1, _, rfl, by omega, rfl, rfl, keep ⟨rfl, rfl, rfl, congrArg (fun q : Int => some (iv q)) hst.symm, rfl, rfl, rfl, trivial⟩⟩
  · have hje : j = (postsN n known).length := by omega
    subst hje
    repeat' first|(refine gX ?_;first|refine o_v rfl rfl ?_|(refine gL ?_;first|refine o_load rfl rfl rfl rfl ?_|refine o_loadR rfl rfl rfl (by omega) rfl rfl ?_|refine o_loadW rfl rfl rfl rfl ?_|refine o_loadK rfl rfl rfl ?_)|(refine gF ?_;first|refine o_fieldI rfl rfl rfl rfl ?_|refine o_field rfl rfl rfl rfl ?_)|(refine gB ?_;first|refine o_add rfl rfl rfl rfl (by omega) ?_|refine o_sub rfl rfl rfl rfl (by omega) ?_|refine o_eqNil rfl rfl rfl rfl rfl ?_)|(refine gI ?_;first|refine o_indexS rfl rfl rfl rfl rfl rfl (by omega) ?_|refine o_index rfl rfl rfl rfl rfl (by omega) ?_)|(refine gS ?_;first|refine o_store rfl rfl rfl rfl rfl rfl ?_|refine o_storeW rfl rfl rfl rfl rfl rfl ?_)|(refine o_allocZ rfl rfl ?_;intro _)|(refine o_box rfl rfl rfl ?_;intro _))|refine o_head0 rfl ?_|refine o_end ?_|refine o_head1 rfl ?_|(refine w_condD rfl ?_ ?_<;>intro h<;>try (exact absurd h (by omega)))|refine wp_seq ?_|refine o_region ?_|refine wp_block ?_|refine wp_skip ?_|refine wp_exit ?_|(refine w_condD rfl ?_ ?_<;>intro h)|(refine w_cond rfl ?_ ?_<;>intro h<;>try exact Bool.noConfusion h)|refine w_ret (S) (vs:=[_,_]) rfl (Res.tmp rfl (Res.tmp rfl Res.nil)) ?_
    refine ⟨?_, rfl⟩
    rw [ee]
    unfold balG
    rw [if_pos ee]
    rfl
end Go.Proofs.YtpnnmklacialgaaGreat
namespace Go.Proofs.YtpnnmklacialgaaGreat
open Go.Conc
attribute [local irreducible] WP OpF OpX CallW SemH retQ AnyF RoundW WM OpsM CallM
def netS : NetG where
  mains := [⟨1, 0, ⟨0, 10⟩⟩, ⟨2, 1, ⟨0, 5⟩⟩, ⟨3, 1, ⟨0, 5⟩⟩]
  uses := [⟨10, 2, 4, ⟨600, 660⟩, ⟨5, 6⟩, 1, 0⟩, ⟨11, 3, 4, ⟨1200, 1200⟩, ⟨4, 4⟩, 1, 0⟩]
  readings := [⟨20, 2, 4, ⟨55, 60⟩, 5, 0⟩, ⟨21, 1, 4, ⟨130, 150⟩, 6, 0⟩, ⟨22, 1, 4, ⟨160, 170⟩, 9, 12⟩]
  faults := [⟨30, 3, 4, 2, 7, 0⟩]
  prices := [⟨0, 200, 12⟩]
theorem CallW.weakenL {P : Program} {E : Env} {f : FuncId} {args : Array Value} {S : Ents} {R R' : Value → Ents → Prop} (h : CallW P E f args S R) (hr : ∀ v S', R v S' → ∃ S'', LowS S'' S' ∧ R' v S'') : CallW P E f args S R' := by
  unfold CallW at *
  exact ⟨h.1, fun F c cs w O Stop h1 h2 => h.2 F c cs w O Stop h1 fun v S' w' O' q hh => by
    obtain ⟨S'', hl, hq⟩ := hr v S' q
    exact h2 v S'' w' O' hq (hh.low (hl.app F))⟩
theorem c86 (E : Env) (S : Ents) : CallW Tryz.prog E 86 #[] S fun r S' => ∃ a b c d e R, r = .agg #[a, b, c, d, e] ∧ NetV R a b c d e netS ∧ (∀ x ∈ R, x.mine = false) ∧ S' = R ++ S := by
  refine CallW.weakenL (R := fun r S' => ∃ a b c d e R R0, r = .agg #[a, b, c, d, e] ∧ NetV R a b c d e netS ∧ (∀ x ∈ R, x.mine = false) ∧ S' = R0 ++ S ∧ LowS (R ++ S) (R0 ++ S)) ?_ ?_
  · refine call_in (args := []) Tryz.func86 (by decide) rfl rfl ?_
    repeat' first|(refine gX ?_;first|refine o_v rfl rfl ?_|(refine gS ?_;first|refine o_store rfl rfl rfl rfl rfl rfl ?_|refine o_storeW rfl rfl rfl rfl rfl rfl ?_)|(refine o_allocZ rfl rfl ?_;intro _)|refine o_build rfl rfl rfl rfl rfl ?_|(refine o_bslice rfl rfl rfl rfl rfl rfl rfl ?_;intro _))|refine o_head0 rfl ?_|refine o_end ?_|refine o_head1 rfl ?_|refine wp_seq ?_|refine o_region ?_|refine w_retA (vs:=[_]) rfl (Res.cell rfl rfl Res.nil) ?_|refine w_ret (S) (vs:=[_]) rfl (Res.cell rfl rfl Res.nil) ?_
    refine ⟨_, _, _, _, _, [⟨_, false, _⟩, ⟨_, false, _⟩, ⟨_, false, _⟩, ⟨_, false, _⟩, ⟨_, false, _⟩, ⟨_, false, _⟩], [_, _, _, _, _, _], rfl, ?_, ?_, rfl, .low (.low (.low (.low (.low (.low .refl)))))⟩
    · refine ⟨slv_one (xs := netS.mains) (.tail _ (.tail _ (.tail _ (.tail _ (.head _))))) rfl (by decide), slv_one (xs := netS.uses) (.tail _ (.tail _ (.tail _ (.head _)))) rfl (by decide), slv_one (xs := netS.readings) (.tail _ (.tail _ (.head _))) rfl (by decide), slv_one (xs := netS.faults) (.tail _ (.head _)) rfl (by decide), slv_one (xs := netS.prices) (.head _) rfl (by decide), ?_, ?_, ?_, ?_, ?_⟩ <;> decide
    · simp
  · rintro _ _ ⟨a, b, c, d, e, R, R0, rfl, hn, hR, rfl, hl⟩
    exact ⟨_, hl, a, b, c, d, e, R, rfl, hn, hR, rfl⟩
theorem flow1 : flowG netS 2 4 5 = ⟨55, 60⟩ ∧ flowE netS 2 4 5 = 0 := by decide +kernel
theorem flow2 : flowG netS 1 4 6 = ⟨135, 150⟩ ∧ flowE netS 1 4 6 = 0 := by decide +kernel
theorem used1 : usedG netS 2 4 5 = ⟨50, 60⟩ := by decide +kernel
theorem conf1 : confL netS 4 9 = [20, 22] ∧ confE netS 4 9 = 0 := by decide +kernel
theorem moved1 : movedL netS 1 4 6 = [20, 21] := by decide +kernel
theorem owed1 : owedG netS 3 4 7 = ⟨160, 24⟩ ∧ owedE netS 3 4 7 = 0 := by decide +kernel
theorem lost1 : lostG netS 4 6 = ⟨0, 20⟩ ∧ lostE netS 4 6 = 0 := by decide +kernel
theorem look1 : lookE netS 0 9 = 0 ∧ lookE netS 0 12 = 0 ∧ validB netS = true ∧ placeF netS 3 = 2 := by decide +kernel
theorem srtL_eqP {xs ys : List Int} (h1 : ys.Perm xs) (h2 : ys.Pairwise fun a b => a ≤ b) : srtL xs = ys :=
  (List.Perm.eq_of_pairwise (le := fun a b : Int => a ≤ b) (fun a b _ _ h1 h2 => by omega) h2 (srtL_pair xs) (h1.trans (srtL_perm xs).symm)).symm
theorem dates1 : datesN netS = [1, 5, 6, 7, 9, 12] := by
  have e : srtL (nightsL netS).flatten = [1, 1, 5, 6, 7, 9, 12] := srtL_eqP (by decide) (by decide)
  unfold datesN sortedL
  rw [e]
  decide
theorem periods1 : periodsN netS = [4] := by
  have e : srtL (timesL netS).flatten = [4, 4, 4, 4, 4, 4] := srtL_eqP (by decide) (by decide)
  unfold periodsN sortedL
  rw [e]
  decide
theorem sends1 {d : Int} {l : List PostG} (h : (List.range' 0 3).flatMap (fun i => ([4] : List Int).flatMap fun p => postAt netS d p i) = l) : sendN netS d = l := by
  unfold sendN sendFrom sendRow
  rw [periods1]
  exact h
theorem postsS (known : Int) : postsN netS known = ([1, 5, 6, 7, 9, 12] : List Int).flatMap fun d => if d ≤ known then (List.range' 0 3).flatMap (fun i => ([4] : List Int).flatMap fun p => postAt netS d p i) else [] := by
  unfold postsN postsFrom
  rw [dates1]
  congr 1
  funext d
  rw [sends1 rfl]
def posts9 : List PostG := [⟨1, 2, 4, 100, 0⟩, ⟨1, 3, 4, 160, 0⟩, ⟨7, 3, 4, 0, 24⟩, ⟨9, 2, 4, -100, 0⟩, ⟨9, 3, 4, -160, 0⟩]
def posts12 : List PostG := posts9 ++ [⟨12, 2, 4, 100, 0⟩, ⟨12, 3, 4, 160, 0⟩]
theorem posts9_eq : postsG netS 9 = posts9 := by
  unfold postsG
  rw [if_pos look1.1, postsS]
  decide +kernel
theorem posts12_eq : postsN netS 12 = posts12 := by
  rw [postsS]
  decide +kernel
theorem bal1 : BalOk netS 3 12 := by
  unfold BalOk
  rw [posts12_eq]
  intro j hj
  have : ∀ j, j < 8 → -4000000000000000000 ≤ balT posts12 3 j ∧ balT posts12 3 j ≤ 4000000000000000000 := by decide +kernel
  exact this j (Nat.lt_succ_of_le hj)
theorem bal2 : balE netS 3 12 = 0 := by
  unfold balE
  rw [if_pos look1.2.2.1, look1.2.2.2, if_neg (by decide), look1.2.1]
theorem bal3 : balG netS 3 12 = 136 := by
  unfold balG
  rw [if_pos bal2, posts12_eq]
  decide +kernel
theorem sorts1 : SortsOk netS := fun _ => ⟨sortOk_short (by decide), sortOk_short (by decide)⟩
section
variable (E : Env) (S : Ents) (a b c d e : Value) (hn : NetV S a b c d e netS)
include hn
theorem s37a : CallW Tryz.prog E 37 #[.agg #[a, b, c, d, e], iv 2, iv 4, iv 5] S fun r S' => r = .tuple #[.agg (rangeC ⟨55, 60⟩), iv 0] ∧ S' = S := by
  have := c37 E S netS a b c d e 2 4 5 hn
  rwa [flow1.1, flow1.2] at this
theorem s37b : CallW Tryz.prog E 37 #[.agg #[a, b, c, d, e], iv 1, iv 4, iv 6] S fun r S' => r = .tuple #[.agg (rangeC ⟨135, 150⟩), iv 0] ∧ S' = S := by
  have := c37 E S netS a b c d e 1 4 6 hn
  rwa [flow2.1, flow2.2] at this
theorem s39 : CallW Tryz.prog E 39 #[.agg #[a, b, c, d, e], iv 2, iv 4, iv 5] S fun r S' => r = .tuple #[.agg (rangeC ⟨50, 60⟩), iv 0] ∧ S' = S := by
  have := c39 E S netS a b c d e 2 4 5 hn
  rwa [used1, flow1.2] at this
theorem s11 : CallW Tryz.prog E 11 #[.agg #[a, b, c, d, e], iv 4, iv 9] S fun r S' => ∃ Δ v, Own v ([20, 22] : List Int) Δ ∧ r = .tuple #[v, iv 0] ∧ S' = Δ ++ S := by
  have := c11 E S netS a b c d e 4 9 hn
  rwa [conf1.1, conf1.2] at this
theorem s13 : CallW Tryz.prog E 13 #[.agg #[a, b, c, d, e], iv 1, iv 4, iv 6] S fun r S' => ∃ Δ v, Own v ([20, 21] : List Int) Δ ∧ r = .tuple #[v, iv 0] ∧ S' = Δ ++ S := by
  have := c13 E S netS a b c d e 1 4 6 hn
  rwa [moved1, flow2.2] at this
theorem s19 : CallW Tryz.prog E 19 #[.agg #[a, b, c, d, e], iv 3, iv 4, iv 7] S fun r S' => r = .tuple #[.agg (billC ⟨160, 24⟩), iv 0] ∧ S' = S := by
  have := c19 E S netS a b c d e 3 4 7 hn
  rwa [owed1.1, owed1.2] at this
theorem s43 : CallW Tryz.prog E 43 #[.agg #[a, b, c, d, e], iv 4, iv 6] S fun r S' => r = .tuple #[.agg (rangeC ⟨0, 20⟩), iv 0] ∧ S' = S := by
  have := c43 E S netS a b c d e 4 6 hn
  rwa [lost1.1, lost1.2] at this
end
section
variable (ro : Nat → Prop) (rd : Bool) (S R : Ents) (a b c d e : Value) (hn : NetV R a b c d e netS) (hR : ∀ x ∈ R, x.mine = false) (hs : List.Sublist R S)
include hn hR hs
theorem s21 : CallW Tryz.prog (Em ro .plain rd) 21 #[.agg #[a, b, c, d, e], iv 9] S fun r S' => ∃ v Δ, r = .tuple #[v, iv 0] ∧ Own v posts9 Δ ∧ S' = Δ ++ S := by
  have := c21 ro rd S R netS a b c d e 9 hn (fun x hx => ⟨hR x hx, hs.subset hx⟩) sorts1
  rwa [look1.1, posts9_eq] at this
theorem s23 : CallW Tryz.prog (Em ro .plain rd) 23 #[.agg #[a, b, c, d, e], iv 3, iv 12] S fun r S' => r = .tuple #[iv 136, iv 0] ∧ S' = S := by
  have := c23 ro rd S R netS a b c d e 3 12 hn (fun x hx => ⟨hR x hx, hs.subset hx⟩) sorts1 fun _ => bal1
  rwa [bal3, bal2] at this
end
theorem slv_two {S : Ents} {b : Nat} {x y : Int} {tb : TypeId} : SlV (⟨b, true, .cells #[.int .i64 x, .int .i64 y] tb (0, 0)⟩ :: S) (.slice (some ⟨b, 0, none⟩) 2 2) [x, y] :=
  slv_one (xs := [x, y]) (mn := true) (.head _) rfl (Nat.le_refl _)
instance : IntsT 66 5 := ⟨by kernel_rfl⟩
theorem c18 (ro : Nat → Prop) (rd : Bool) (S : Ents) : CallW Tryz.prog (Em ro .plain rd) 18 #[] S fun r S' => r = .bool true ∧ S' = S := by
  refine call_in (args := []) Tryz.func18 (by decide) rfl rfl ?_
  repeat' first|(refine gX ?_;first|refine o_v rfl rfl ?_|(refine o_splitD rfl rfl rfl ?_ ?_<;>intro h)|(refine o_split rfl rfl rfl ?_ ?_<;>intro h<;>fail_if_success exact Bool.noConfusion h)|(refine gL ?_;first|refine o_load rfl rfl rfl rfl ?_|refine o_loadR rfl rfl rfl (by omega) rfl rfl ?_|refine o_loadW rfl rfl rfl rfl ?_|refine o_loadK rfl rfl rfl ?_)|(refine gB ?_;first|refine o_eqS (k := 2) rfl rfl rfl rfl rfl rfl rfl rfl ?_|refine o_eqS (k := 5) rfl rfl rfl rfl rfl rfl rfl rfl ?_|refine o_eqNil rfl rfl rfl rfl rfl ?_)|(refine gC ?_;first|(refine o_callZ rfl rfl rfl (c86 _ _) ?_;rintro r _ ⟨a, b, c, d, e, R, rfl, hn, hR, rfl⟩;obtain ⟨qa, ka, rfl, _, _⟩ := hn.mains;obtain ⟨qb, kb, rfl, _, _⟩ := hn.uses;obtain ⟨qc, kc, rfl, _, _⟩ := hn.readings;obtain ⟨qd, kd, rfl, _, _⟩ := hn.faults;obtain ⟨qe, ke, rfl, _, _⟩ := hn.prices;refine ⟨inferInstance, ?_⟩)|refine o_callF rfl rfl rfl (s37a _ _ _ _ _ _ _ (hn.sub Sb.h)) ?_|refine o_callF rfl rfl rfl (s37b _ _ _ _ _ _ _ (hn.sub Sb.h)) ?_|refine o_callF rfl rfl rfl (s39 _ _ _ _ _ _ _ (hn.sub Sb.h)) ?_|(refine o_callZ rfl rfl rfl (s11 _ _ _ _ _ _ _ (hn.sub Sb.h)) ?_;rintro r _ ⟨Δc, vc, hoc, rfl, rfl⟩;refine ⟨inferInstance, ?_⟩)|(refine o_callZ rfl rfl rfl (s13 _ _ _ _ _ _ _ (hn.sub Sb.h)) ?_;rintro r _ ⟨Δm, vm, hom, rfl, rfl⟩;refine ⟨inferInstance, ?_⟩)|refine o_callF rfl rfl rfl (s19 _ _ _ _ _ _ _ (hn.sub Sb.h)) ?_|(refine o_callZ rfl rfl rfl (s21 ro rd _ R _ _ _ _ _ hn hR Sb.h) ?_;rintro r _ ⟨vp, Δp, rfl, hop, rfl⟩;obtain ⟨qp, kp, rfl, _, hrp⟩ := hop.slv;have i1 := SlI.mk hrp;refine ⟨inferInstance, ?_⟩)|refine o_callF rfl rfl rfl (s23 ro rd _ R _ _ _ _ _ hn hR Sb.h) ?_|refine o_callF rfl rfl rfl (s43 _ _ _ _ _ _ _ (hn.sub Sb.h)) ?_|refine o_callF (v := .bool true) rfl rfl rfl (c15 _ _ [20, 22] [20, 22] _ _ (hoc.slv.sub Sb.h) slv_two (by decide) (by decide)) ?_|refine o_callF (v := .bool true) rfl rfl rfl (c15 _ _ [20, 21] [20, 21] _ _ (hom.slv.sub Sb.h) slv_two (by decide) (by decide)) ?_)|(refine gI ?_;first|refine o_indexZ 3 rfl rfl rfl rfl rfl rfl rfl (by decide) ?_|refine o_indexS rfl rfl rfl rfl rfl rfl (by omega) ?_|refine o_index rfl rfl rfl rfl rfl (by omega) ?_)|(refine gS ?_;first|refine o_store rfl rfl rfl rfl rfl rfl ?_|refine o_storeW rfl rfl rfl rfl rfl rfl ?_)|(refine o_allocZ rfl rfl ?_;intro _)|refine o_skip rfl rfl ?_|refine o_skipN rfl rfl ?_|refine o_build rfl rfl rfl rfl rfl ?_|(refine o_bslice rfl rfl rfl rfl rfl rfl rfl ?_;intro _)|(refine o_splitP rfl ?_ ?_<;>intro h<;>fail_if_success exact Bool.noConfusion h))|refine o_head0 rfl ?_|refine o_end ?_|refine o_head1 rfl ?_|refine wp_seq ?_|refine o_region ?_|refine w_ret (S) (vs:=[_]) rfl (Res.tmp rfl Res.nil) ?_
  all_goals first|exact ⟨rfl, rfl⟩|exact (h rfl).elim
end Go.Proofs.YtpnnmklacialgaaGreat
namespace Go.Proofs.YtpnnmklacialgaaGreat
open Go.Conc
attribute [local irreducible] WP OpF OpX CallW SemH retQ AnyF RoundW WM OpsM CallM
theorem o_boolT {P : Program} {E : Env} {f : FuncId} {args : Array Value} {S : Ents} {b : Bool} (h : CallW P E f args S fun r S' => r = .bool b ∧ S' = S) (hb : b = true) : CallW P E f args S fun r S' => r = .bool true ∧ S' = S := by
  rwa [hb] at h
section
variable (E : Env) (S : Ents) (n : NetG) (a b c d e : Value)
end
end Go.Proofs.YtpnnmklacialgaaGreat
namespace Go.Proofs.YtpnnmklacialgaaGreat
open Go.Conc
attribute [local irreducible] WP OpF OpX CallW SemH retQ AnyF RoundW
theorem c199 (E : Env) (S0 Δ : Ents) (xs : List Int) (a : Option Addr) (len cap lo hi : Nat) (ho : Own (.slice a len cap) xs Δ) (hlh : lo < hi) (hh : hi ≤ xs.length) (hm : xs.length ≤ 4000000) :
    CallW Tryz.prog E 199 #[.slice a len cap, iv lo, iv hi] (Δ ++ S0) fun r S' => ∃ ys Δ', Own (.slice a len cap) ys Δ' ∧ Seg lo hi xs ys ∧ S' = Δ' ++ S0 := by
  have hlen : len = xs.length := by obtain ⟨_, _, h, _⟩ := ho.slv; cases h; rfl
  refine call_in (args := [.slice a len cap, iv lo, iv hi]) Tryz.func199 (by decide) rfl rfl ?_
  repeat' first|(refine gX ?_;first|refine o_v rfl rfl ?_|(refine gL ?_;first|refine o_load rfl rfl rfl rfl ?_|refine o_loadR rfl rfl rfl (by omega) rfl rfl ?_|refine o_loadW rfl rfl rfl rfl ?_|refine o_loadK rfl rfl rfl ?_)|(refine gB ?_;first|refine o_add rfl rfl rfl rfl (by omega) ?_|refine o_sub rfl rfl rfl rfl (by omega) ?_)|(refine gI ?_;first|refine o_indexS rfl rfl rfl rfl rfl rfl (by omega) ?_|refine o_index rfl rfl rfl rfl rfl (by omega) ?_)|(refine gS ?_;first|refine o_store rfl rfl rfl rfl rfl rfl ?_|refine o_storeW rfl rfl rfl rfl rfl rfl ?_))|refine o_head0 rfl ?_|refine o_end ?_|refine o_head1 rfl ?_|refine wp_seq ?_|refine o_region ?_|refine wp_block ?_|refine wp_skip ?_|refine wp_exit ?_|(refine w_condD rfl ?_ ?_<;>intro h)|(refine w_cond rfl ?_ ?_<;>intro h<;>try exact Bool.noConfusion h)|refine w_ret (S) (vs:=[]) rfl Res.nil ?_|(show WP _ _ _ _ (.region 3 _ true) _ _ _ _;refine o_drawnZ [Zf 0,Zf 1,Zt 2,Zt 3,Zf 4,Zf 5,Zf 6,Zf 7,Zf 8,Zf 9,Zf 10,Zf 11,Zf 12,Zf 13,Zf 14,Zt 15] [] mixed (by kernel_rfl) (List.nil_sublist _) ?_)
  refine wp_loop (fun m t ds S' => ∃ (i j : Nat) (t0 : Tm) (ys : List Int) (Δ : Ents), m = j + 1 - i ∧ lo ≤ i ∧ j < hi ∧ [] = ds ∧ Δ ++ S0 = S' ∧ t = den [(6, iv i), (7, iv j), (0, .slice a len cap)] t0 ∧ Own (.slice a len cap) ys Δ ∧ Seg lo hi xs ys)
    _ ⟨lo, hi - 1, _, xs, Δ, rfl, by omega, by omega, rfl, rfl, keep ⟨rfl, congrArg (fun q : Int => some (iv q)) (show (hi : Int) - 1 = ((hi - 1 : Nat) : Int) by omega), rfl, trivial⟩, ho, Seg.refl _ _ _⟩ ?_
  clear ho
  rintro m t ds S' ⟨i, j, t0, ys, Δ, rfl, hi1, hj1, rfl, rfl, rfl, ho, hsg⟩
  obtain ⟨_, hrt⟩ := ho.sla
  have i6 := SlI.mk hrt
  have hyl := hsg.len
  have hyl' : len = ys.length := hlen.trans hyl.symm
  repeat' first|(refine gX ?_;first|refine o_v rfl rfl ?_|(refine gL ?_;first|refine o_load rfl rfl rfl rfl ?_|refine o_loadR rfl rfl rfl (by omega) rfl rfl ?_|refine o_loadW rfl rfl rfl rfl ?_|refine o_loadK rfl rfl rfl ?_)|(refine gB ?_;first|refine o_add rfl rfl rfl rfl (by omega) ?_|refine o_sub rfl rfl rfl rfl (by omega) ?_)|(refine gI ?_;first|refine o_indexS rfl rfl rfl rfl rfl hyl' (by omega) ?_|refine o_indexS rfl rfl rfl rfl rfl (hyl'.trans List.length_set.symm) (by rw [List.length_set]; omega) ?_|refine o_indexS rfl rfl rfl rfl rfl rfl (by omega) ?_|refine o_index rfl rfl rfl rfl rfl (by omega) ?_)|(refine gS ?_;first|(refine o_storeO (ys[j]'(by first|done|omega)) rfl rfl rfl ho (by omega) rfl rfl rfl rfl ?_;intro Δ2 ho2;refine ⟨_, inferInstance, ?_⟩;obtain ⟨_, hrt2⟩ := ho2.sla;have i7 := SlI.mk hrt2)|(refine o_storeO (ys[i]'(by first|done|omega)) rfl rfl rfl ho2 (by rw [List.length_set]; omega) rfl rfl rfl rfl ?_;intro Δ3 ho3;refine ⟨_, inferInstance, ?_⟩)|refine o_store rfl rfl rfl rfl rfl rfl ?_|refine o_storeW rfl rfl rfl rfl rfl rfl ?_))|refine o_head0 rfl ?_|refine o_end ?_|refine o_head1 rfl ?_|refine wp_seq ?_|refine o_region ?_|refine wp_block ?_|refine wp_skip ?_|refine wp_exit ?_|(refine w_condD rfl ?_ ?_<;>intro h)|(refine w_cond rfl ?_ ?_<;>intro h<;>try exact Bool.noConfusion h)|refine w_retA (vs:=[]) rfl Res.nil ?_|refine w_ret (S) (vs:=[]) rfl Res.nil ?_|(show WP _ _ _ _ (.region 3 _ true) _ _ _ _;refine o_drawnZ [Zf 0,Zf 1,Zt 2,Zt 3,Zf 4,Zf 5,Zf 6,Zf 7,Zf 8,Zf 9,Zf 10,Zf 11,Zf 12,Zf 13,Zf 14,Zt 15] [] mixed (by kernel_rfl) (List.nil_sublist _) ?_)
  · simp only [at0_get] at ho3
    exact ⟨j - 1 + 1 - (i + 1), by omega, _, List.Sublist.refl _, i + 1, j - 1, _, _, Δ3, rfl, by omega, by omega, rfl, rfl, keep ⟨rfl, congrArg (fun q : Int => some (iv q)) (show (j : Int) - 1 = ((j - 1 : Nat) : Int) by omega), rfl, trivial⟩, ho3, hsg.trans (Seg.sw (by omega) (by omega) (by omega) (by omega) (by omega))⟩
  · refine w_fall (res_sem Res.nil ?_)
    exact ⟨ys, Δ, ho, hsg, rfl⟩
theorem c211 (E : Env) (S : Ents) (xs : List Int) (a : Option Addr) (cap b i j : Nat) (w : Int) (hv : SlV S (.slice a xs.length cap) xs) (hi : i < xs.length) (hj : j < xs.length) (hw : 0 ≤ w ∧ w ≤ 1000) :
    CallW Tryz.prog E 211 #[.slice a xs.length cap, iv i, iv j, .pointer (some ⟨b, 0, none⟩)] (⟨b, true, .cells #[iv w] 3 (0, 0)⟩ :: S) fun r S' => ∃ (i' j' : Nat) (w' : Int), r = .tuple #[iv i', iv j'] ∧ ((i' = i ∧ j' = j) ∨ (i' = j ∧ j' = i)) ∧ 0 ≤ w' ∧ w' ≤ w + 1 ∧ S' = ⟨b, true, .cells #[iv w'] 3 (0, 0)⟩ :: S := by
  obtain ⟨_, _, h0, _, hr⟩ := hv
  cases h0
  have i6 := SlI.mk (hr.sub (.cons ⟨b, true, .cells #[iv w] 3 (0, 0)⟩ (List.Sublist.refl _)))
  refine call_in (args := [.slice a xs.length cap, iv i, iv j, .pointer (some ⟨b, 0, none⟩)]) Tryz.func211 (by decide) rfl rfl ?_
  repeat' first|(refine gX ?_;first|refine o_v rfl rfl ?_|(refine gL ?_;first|refine o_load rfl rfl rfl rfl ?_|refine o_loadR rfl rfl rfl (by omega) rfl rfl ?_|refine o_loadW rfl rfl rfl rfl ?_|refine o_loadK rfl rfl rfl ?_)|(refine gB ?_;first|refine o_add rfl rfl rfl rfl (by omega) ?_)|(refine gC ?_;first|refine o_callF rfl rfl rfl (c201 _ _ _ _) ?_)|(refine gI ?_;first|refine o_indexS rfl rfl rfl rfl rfl rfl (by omega) ?_|refine o_indexS rfl rfl rfl rfl rfl rfl (by omega) ?_|refine o_index rfl rfl rfl rfl rfl (by omega) ?_)|(refine gS ?_;first|refine o_store rfl rfl rfl rfl rfl rfl ?_|refine o_storeW rfl rfl rfl rfl rfl rfl ?_))|refine o_head0 rfl ?_|refine o_end ?_|refine o_head1 rfl ?_|refine wp_seq ?_|refine o_region ?_|refine wp_skip ?_|(refine w_condD rfl ?_ ?_<;>intro h)|(refine w_cond rfl ?_ ?_<;>intro h<;>try exact Bool.noConfusion h)|refine w_retA (vs:=[_,_]) rfl (Res.tmp rfl (Res.tmp rfl Res.nil)) ?_|refine w_ret (S) (vs:=[_,_]) rfl (Res.tmp rfl (Res.tmp rfl Res.nil)) ?_|(show WP _ _ _ _ (.region 1 _ true) _ _ _ _;refine o_drawnZ [Zf 0,Zf 1,Zf 2,Zf 3,Zf 4,Zf 5,Zf 6,Zf 7,Zt 8] [] mixed (by kernel_rfl) (List.nil_sublist _) ?_)
  · exact ⟨j, i, w + 1, rfl, .inr ⟨rfl, rfl⟩, by omega, by omega, rfl⟩
  · exact ⟨i, j, w, rfl, .inl ⟨rfl, rfl⟩, by omega, by omega, rfl⟩
theorem c210 (E : Env) (S : Ents) (xs : List Int) (a : Option Addr) (cap b i j k : Nat) (w : Int) (hv : SlV S (.slice a xs.length cap) xs) (hi : i < xs.length) (hj : j < xs.length) (hk : k < xs.length) (hw : 0 ≤ w ∧ w ≤ 900) :
    CallW Tryz.prog E 210 #[.slice a xs.length cap, iv i, iv j, iv k, .pointer (some ⟨b, 0, none⟩)] (⟨b, true, .cells #[iv w] 3 (0, 0)⟩ :: S) fun r S' => ∃ (q : Nat) (w' : Int), r = iv q ∧ (q = i ∨ q = j ∨ q = k) ∧ 0 ≤ w' ∧ w' ≤ w + 3 ∧ S' = ⟨b, true, .cells #[iv w'] 3 (0, 0)⟩ :: S := by
  refine call_in (args := [.slice a xs.length cap, iv i, iv j, iv k, .pointer (some ⟨b, 0, none⟩)]) Tryz.func210 (by decide) rfl rfl ?_
  repeat' first|(refine gX ?_;first|refine o_v rfl rfl ?_|(refine gC ?_;first|(refine o_callZ rfl rfl rfl (c211 _ S xs a cap b i j w hv hi hj (by omega)) ?_;rintro r _ ⟨i1, j1, w1, rfl, hc1, hw1, hw1', rfl⟩;refine ⟨inferInstance, ?_⟩)|(refine o_callZ rfl rfl rfl (c211 _ S xs a cap b j1 k w1 hv (by omega) hk (by omega)) ?_;rintro r _ ⟨j2, k2, w2, rfl, hc2, hw2, hw2', rfl⟩;refine ⟨inferInstance, ?_⟩)|(refine o_callZ rfl rfl rfl (c211 _ S xs a cap b i1 j2 w2 hv (by omega) (by omega) (by omega)) ?_;rintro r _ ⟨i3, j3, w3, rfl, hc3, hw3, hw3', rfl⟩;refine ⟨inferInstance, ?_⟩)))|refine o_head0 rfl ?_|refine o_end ?_|refine o_head1 rfl ?_|refine wp_seq ?_|refine o_region ?_|refine w_retA (vs:=[_]) rfl (Res.tmp rfl Res.nil) ?_|refine w_ret (S) (vs:=[_]) rfl (Res.tmp rfl Res.nil) ?_
  exact ⟨j3, w3, rfl, by omega, by omega, by omega, rfl⟩
theorem c209 (E : Env) (S : Ents) (xs : List Int) (a : Option Addr) (cap b i : Nat) (w : Int) (hv : SlV S (.slice a xs.length cap) xs) (h0 : 0 < i) (hi : i + 1 < xs.length) (hw : 0 ≤ w ∧ w ≤ 900) (hm : xs.length ≤ 4000000) :
    CallW Tryz.prog E 209 #[.slice a xs.length cap, iv i, .pointer (some ⟨b, 0, none⟩)] (⟨b, true, .cells #[iv w] 3 (0, 0)⟩ :: S) fun r S' => ∃ (q : Nat) (w' : Int), r = iv q ∧ (q + 1 = i ∨ q = i ∨ q = i + 1) ∧ 0 ≤ w' ∧ w' ≤ w + 3 ∧ S' = ⟨b, true, .cells #[iv w'] 3 (0, 0)⟩ :: S := by
  refine call_in (args := [.slice a xs.length cap, iv i, .pointer (some ⟨b, 0, none⟩)]) Tryz.func209 (by decide) rfl rfl ?_
  have e1 : (i : Int) - 1 = ((i - 1 : Nat) : Int) := by omega
  have e2 : (i : Int) + 1 = ((i + 1 : Nat) : Int) := by omega
  have key := c210 E S xs a cap b (i - 1) i (i + 1) w hv (by omega) (by omega) hi hw
  rw [← e1, ← e2] at key
  repeat' first|(refine gX ?_;first|refine o_v rfl rfl ?_|(refine gB ?_;first|refine o_add rfl rfl rfl rfl (by omega) ?_|refine o_sub rfl rfl rfl rfl (by omega) ?_)|(refine gC ?_;first|(refine o_callZ rfl rfl rfl key ?_;rintro r _ ⟨q, w1, rfl, hc1, hw1, hw1', rfl⟩;refine ⟨inferInstance, ?_⟩)))|refine o_head0 rfl ?_|refine o_end ?_|refine o_head1 rfl ?_|refine wp_seq ?_|refine o_region ?_|refine w_retA (vs:=[_]) rfl (Res.tmp rfl Res.nil) ?_|refine w_ret (S) (vs:=[_]) rfl (Res.tmp rfl Res.nil) ?_
  exact ⟨q, w1, rfl, by omega, by omega, by omega, rfl⟩
theorem c198 (E : Env) (S : Ents) (xs : List Int) (a : Option Addr) (cap lo hi : Nat) (hv : SlV S (.slice a xs.length cap) xs) (hlh : lo + 12 < hi) (hh : hi ≤ xs.length) (hm : xs.length ≤ 4000000) :
    CallW Tryz.prog E 198 #[.slice a xs.length cap, iv lo, iv hi] S fun r S' => ∃ (q : Nat) (z : Int), r = .tuple #[iv q, iv z] ∧ lo ≤ q ∧ q < hi ∧ S' = S := by
  obtain ⟨q4, h4⟩ : ∃ q4 : Nat, q4 = (hi - lo) / 4 := ⟨_, rfl⟩
  have e1 : (lo : Int) + ((hi : Int) - lo) / 4 * 1 = ((lo + q4 : Nat) : Int) := by omega
  have e2 : (lo : Int) + ((hi : Int) - lo) / 4 * 2 = ((lo + 2 * q4 : Nat) : Int) := by omega
  have e3 : (lo : Int) + ((hi : Int) - lo) / 4 * 3 = ((lo + 3 * q4 : Nat) : Int) := by omega
  have k1 := fun b w h0 hw => c209 E S xs a cap b (lo + q4) w hv h0 (by omega) hw hm
  have k2 := fun b w h0 hw => c209 E S xs a cap b (lo + 2 * q4) w hv h0 (by omega) hw hm
  have k3 := fun b w h0 hw => c209 E S xs a cap b (lo + 3 * q4) w hv h0 (by omega) hw hm
  have k4 := fun b hw => c210 E S xs a cap b (lo + q4) (lo + 2 * q4) (lo + 3 * q4) 0 hv (by omega) (by omega) (by omega) hw
  rw [← e1] at k1
  rw [← e2] at k2
  rw [← e3] at k3
  rw [← e1, ← e2, ← e3] at k4
  refine call_in (args := [.slice a xs.length cap, iv lo, iv hi]) Tryz.func198 (by decide) rfl rfl ?_
  repeat' first|(refine gX ?_;first|refine o_v rfl rfl ?_|(refine gL ?_;first|refine o_load rfl rfl rfl rfl ?_|refine o_loadR rfl rfl rfl (by omega) rfl rfl ?_|refine o_loadW rfl rfl rfl rfl ?_|refine o_loadK rfl rfl rfl ?_)|(refine gB ?_;first|refine o_quoN rfl rfl rfl rfl (by decide) (by omega) ?_|refine o_mul rfl rfl rfl rfl (by omega) ?_|refine o_add rfl rfl rfl rfl (by omega) ?_|refine o_sub rfl rfl rfl rfl (by omega) ?_|refine o_eqNil rfl rfl rfl rfl rfl ?_)|(refine gC ?_;first|(refine o_callZ rfl rfl rfl (k1 _ _ (by omega) (by omega)) ?_;rintro r _ ⟨q1, w1, rfl, hc1, hw1, hw1', rfl⟩;refine ⟨inferInstance, ?_⟩)|(refine o_callZ rfl rfl rfl (k2 _ _ (by omega) (by omega)) ?_;rintro r _ ⟨q2, w2, rfl, hc2, hw2, hw2', rfl⟩;refine ⟨inferInstance, ?_⟩)|(refine o_callZ rfl rfl rfl (k3 _ _ (by omega) (by omega)) ?_;rintro r _ ⟨q3, w3, rfl, hc3, hw3, hw3', rfl⟩;refine ⟨inferInstance, ?_⟩)|(refine o_callZ rfl rfl rfl (c210 E S xs a cap _ q1 q2 q3 w3 hv (by omega) (by omega) (by omega) (by omega)) ?_;rintro r _ ⟨q5, w5, rfl, hc5, hw5, hw5', rfl⟩;refine ⟨inferInstance, ?_⟩)|(refine o_callZ rfl rfl rfl (k4 _ (by omega)) ?_;rintro r _ ⟨q5, w5, rfl, hc5, hw5, hw5', rfl⟩;refine ⟨inferInstance, ?_⟩))|(refine o_allocZ rfl rfl ?_;intro _))|refine o_head0 rfl ?_|refine o_end ?_|refine o_head1 rfl ?_|(refine w_condD rfl ?_ ?_<;>intro h<;>try (exact absurd (by omega) h))|refine wp_seq ?_|refine o_region ?_|refine wp_block ?_|refine wp_skip ?_|(refine w_condD rfl ?_ ?_<;>intro h)|(refine w_cond rfl ?_ ?_<;>intro h<;>try exact Bool.noConfusion h)|refine w_ret (S) (vs:=[_,_]) rfl (Res.tmp rfl (Res.tmp rfl Res.nil)) ?_
  all_goals exact ⟨q5, _, rfl, by omega, by omega, rfl⟩
end Go.Proofs.YtpnnmklacialgaaGreat
