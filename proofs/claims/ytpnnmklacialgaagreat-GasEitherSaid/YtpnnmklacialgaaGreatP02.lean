/- The rules in the form in which a walk applies them: the temporaries as a list ahead of whatever else they hold.
   The program's types, as a table.
   The tables of the program's types as functions.
   One judgement for both kinds of regions, and the values of the quiet operations, computed.
   Rows of elements: how lists lie in memory.
   The rules of a walk: memory, arithmetic, calls. -/
import Derived.Test.YtpnnmklacialgaaGreatP01
import Derived.IntWalk
import Derived.KernelRfl
set_option linter.unusedVariables false
set_option linter.unusedSimpArgs false
namespace Go.Proofs.YtpnnmklacialgaaGreat
open Go.Conc

abbrev TL := List (Nat × Value)
def den : TL → Tm → Tm
  | [], t => t
  | (k, v) :: l, t => upd (den l t) k v
def lk : TL → Tm → Nat → Option Value
  | [], t, j => some (t j)
  | (k, v) :: l, t, j => bif Nat.beq j k then some v else lk l t j
def evL (l : TL) (t : Tm) : Operand → Option Value
  | .tmp k => lk l t k
  | .const v => some v
  | .global g => some (.pointer (some ⟨g, 0, none⟩))
  | .func f => some (.func (.func f) #[] #[])

theorem lk_eq {l : TL} {t : Tm} {j : Nat} {v : Value} (h : lk l t j = some v) : den l t j = v := by
  induction l with
  | nil => exact Option.some.inj h
  | cons p l ih =>
    obtain ⟨k, u⟩ := p
    simp only [lk] at h
    simp only [den, upd]
    cases hb : Nat.beq j k <;> simp only [hb, cond_true, cond_false] at h ⊢
    · exact ih h
    · exact Option.some.inj h

theorem evL_eq {l : TL} {t : Tm} {x : Operand} {v : Value} (h : evL l t x = some v) : ev (den l t) x = v := by
  cases x with
  | tmp k => exact lk_eq h
  | const c => exact Option.some.inj h
  | global g => exact Option.some.inj h
  | func f => exact Option.some.inj h

def evLs (l : TL) (t : Tm) : List Operand → Option (List Value)
  | [] => some []
  | x :: xs => match evL l t x, evLs l t xs with
    | some v, some vs => some (v :: vs)
    | _, _ => none

theorem evLs_eq {l : TL} {t : Tm} : ∀ {xs : List Operand} {vs : List Value}, evLs l t xs = some vs → xs.map (ev (den l t)) = vs
  | [], vs, h => Option.some.inj h
  | x :: xs, vs, h => by
    simp only [evLs] at h
    cases h1 : evL l t x with
    | none => simp [h1] at h
    | some v =>
      cases h2 : evLs l t xs with
      | none => simp [h1, h2] at h
      | some ws =>
        simp only [h1, h2, Option.some.injEq] at h
        subst h
        simp [evL_eq h1, evLs_eq h2]

/-- Block b is known: found by instance search. -/
class InS (b : Nat) (S : Ents) (mn : outParam Bool) (o : outParam Obj) : Prop where
  h : (⟨b, mn, o⟩ : Ent) ∈ S
instance inS_head {b : Nat} {mn : Bool} {o : Obj} {S : Ents} : InS b (⟨b, mn, o⟩ :: S) mn o := ⟨.head _⟩
instance (priority := low) inS_tail {b : Nat} {mn : Bool} {o : Obj} {S : Ents} {e : Ent} [i : InS b S mn o] : InS b (e :: S) mn o := ⟨.tail _ i.h⟩
/-- Block b is mine; re: what is known with another content there. -/
class OwnS (b : Nat) (S : Ents) (o : outParam Obj) (re : outParam (Obj → Ents)) : Prop where
  h : ∀ o', Upd S b o o' (re o')
instance ownS_head {b : Nat} {o : Obj} {S : Ents} : OwnS b (⟨b, true, o⟩ :: S) o fun o' => ⟨b, true, o'⟩ :: S := ⟨fun _ => .here⟩
instance (priority := low) ownS_tail {b : Nat} {o : Obj} {S : Ents} {e : Ent} {re : Obj → Ents} [i : OwnS b S o re] : OwnS b (e :: S) o fun o' => e :: re o' := ⟨fun o' => .there (i.h o')⟩
/-- S₀ is the end of S. -/
class TlS (S₀ S : Ents) : Prop where
  h : Tl S₀ S
instance tlS_refl {S : Ents} : TlS S S := ⟨.refl⟩
instance (priority := low) tlS_cons {S₀ S : Ents} {e : Ent} [i : TlS S₀ S] : TlS S₀ (e :: S) := ⟨.cons i.h⟩

def OpsF (P : Program) (E : Env) (fn n : Nat) (ops : Array Oper) (i : Nat) (Q : Tm → List Deferred → Ents → Prop) (t : Tm) (ds : List Deferred) (S : Ents) : Prop :=
  OpsW P E fn n ops (List.range' i (ops.size - i)) Q t ds S

/-- The operation o comes next. -/
def OpsX (P : Program) (E : Env) (fn n : Nat) (ops : Array Oper) (i : Nat) (o : Oper) (Q : Tm → List Deferred → Ents → Prop) (t : Tm) (ds : List Deferred) (S : Ents) : Prop :=
  ops[i]? = some o → OpsF P E fn n ops i Q t ds S

section
variable {P : Program} {E : Env} {fn n : Nat} {Q : Post} {K : Tm → List Deferred → Ents → Prop} {l : TL} {t : Tm} {ds : List Deferred} {S : Ents} {ops : Array Oper} {i : Nat} {o : Oper} {d : Option Nat} {ty ty' : TypeId} {pos : String} {af : Array Edge} {g : Option (Nat × Bool)}

theorem w_region {id : Nat} (h : OpsF P E fn n ops 0 (Q .normal) t ds S) : WP P E fn n (.region id ops false) Q t ds S := wp_region (by rw [List.range_eq_range']; exact h)

theorem f_head (ho : ops[i]? = some o) (h : OpsX P E fn n ops i o K t ds S) : OpsF P E fn n ops i K t ds S := h ho

theorem f_end (he : ops[i]? = none) (h : K t ds S) : OpsF P E fn n ops i K t ds S := by
  have : ops.size ≤ i := by
    rcases Nat.lt_or_ge i ops.size with hl | hl
    · rw [Array.getElem?_eq_getElem hl] at he; cases he
    · exact hl
  unfold OpsF
  rw [Nat.sub_eq_zero_of_le this]
  exact ops_nil h

theorem range_cons (ho : ops[i]? = some o) : List.range' i (ops.size - i) = i :: List.range' (i + 1) (ops.size - (i + 1)) := by
  have := lt_of_some ho
  obtain ⟨k, hk⟩ : ∃ k, ops.size - i = k + 1 := ⟨ops.size - i - 1, by omega⟩
  rw [hk, List.range'_succ, show ops.size - (i + 1) = k by omega]

theorem f_op {R : Value → Ents → Prop} (ho : ops[i]? = some o) (hw : wantB ops t o = true) (hd : isDefer o.op = false) (hdst : dstOk n o.dst = true) (hr : OpH P E.m o (ev t) S R)
    (h : ∀ v S', R v S' → OpsF P E fn n ops (i + 1) K (updo t o.dst v) ds S') : OpsF P E fn n ops i K t ds S := by
  unfold OpsF at *
  rw [range_cons ho]
  exact ops_op ho hw hd hdst hr h

theorem f_skip {d : Nat} (hw : wantB ops (den l t) o = false) (hdst : o.dst = some d) (hd : Nat.blt d n = true) (h : OpsF P E fn n ops (i + 1) K (den ((d, undef) :: l) t) ds S) : OpsX P E fn n ops i o K (den l t) ds S := fun ho => by
  unfold OpsF at *
  rw [range_cons ho]
  refine ops_unwanted ho hw (by rw [hdst]; exact hd) ?_
  rw [hdst]
  exact h

/-- The outcome of a guard, or of any bool, told. -/
theorem t_split {M : Tm → Prop} (d : Nat) {b : Bool} (hb : lk l t d = some (.bool b)) (h1 : b = true → M (den ((d, .bool true) :: l) t)) (h2 : b = false → M (den ((d, .bool false) :: l) t)) : M (den l t) := by
  have e := lk_eq hb
  cases b with
  | true =>
    have h := h1 rfl
    rwa [show den ((d, .bool true) :: l) t = den l t from upd_same e] at h
  | false =>
    have h := h2 rfl
    rwa [show den ((d, .bool false) :: l) t = den l t from upd_same e] at h

theorem f_split {g : Nat} {w : Bool} {d : Nat} {b : Bool} (hg : o.guard = some (g, w)) (hd : (ops[g]?).bind (·.dst) = some d) (hb : lk l t d = some (.bool b))
    (h1 : b = true → OpsF P E fn n ops i K (den ((d, .bool true) :: l) t) ds S) (h2 : b = false → OpsF P E fn n ops i K (den ((d, .bool false) :: l) t) ds S) : OpsX P E fn n ops i o K (den l t) ds S := fun ho =>
  t_split (M := fun t => OpsF P E fn n ops i K t ds S) d hb h1 h2

theorem f_mv {d : Nat} {x : Operand} {v : Value} (hw : wantB ops (den l t) ⟨some d, .move x, ty, pos, af, g⟩ = true) (hd : Nat.blt d n = true) (hx : evL l t x = some v)
    (h : OpsF P E fn n ops (i + 1) K (den ((d, v) :: l) t) ds S) : OpsX P E fn n ops i ⟨some d, .move x, ty, pos, af, g⟩ K (den l t) ds S := fun ho =>
  f_op (R := fun u S' => u = v ∧ S' = S) ho hw rfl hd (op_pure (v := v) (by simp [pureVal, evL_eq hx]) ⟨rfl, rfl⟩) (by rintro _ _ ⟨rfl, rfl⟩; exact h)

theorem f_as {d : Nat} {x : Operand} {v : Value} (hw : wantB ops (den l t) ⟨some d, .assign x, ty, pos, af, g⟩ = true) (hd : Nat.blt d n = true) (hx : evL l t x = some v)
    (h : OpsF P E fn n ops (i + 1) K (den ((d, v) :: l) t) ds S) : OpsX P E fn n ops i ⟨some d, .assign x, ty, pos, af, g⟩ K (den l t) ds S := fun ho =>
  f_op (R := fun u S' => u = v ∧ S' = S) ho hw rfl hd (op_pure (v := v) (by simp [pureVal, evL_eq hx]) ⟨rfl, rfl⟩) (by rintro _ _ ⟨rfl, rfl⟩; exact h)

theorem f_pick {d : Nat} {c x y : Operand} {b : Bool} {u v : Value} (hw : wantB ops (den l t) ⟨some d, .pick c x y, ty, pos, af, g⟩ = true) (hd : Nat.blt d n = true) (hc : evL l t c = some (.bool b)) (hv : (bif b then evL l t x else evL l t y) = some v)
    (h : OpsF P E fn n ops (i + 1) K (den ((d, v) :: l) t) ds S) : OpsX P E fn n ops i ⟨some d, .pick c x y, ty, pos, af, g⟩ K (den l t) ds S := fun ho =>
  f_op (R := fun u S' => u = v ∧ S' = S) ho hw rfl hd (op_pure (v := v) (by cases b <;> simp only [cond_true, cond_false] at hv <;> simp [pureVal, evL_eq hc, evL_eq hv]) ⟨rfl, rfl⟩) (by rintro _ _ ⟨rfl, rfl⟩; exact h)

theorem f_not {d : Nat} {x : Operand} {b : Bool} (hw : wantB ops (den l t) ⟨some d, .unOp .not ty' x, ty, pos, af, g⟩ = true) (hd : Nat.blt d n = true) (hx : evL l t x = some (.bool b))
    (h : OpsF P E fn n ops (i + 1) K (den ((d, .bool (!b)) :: l) t) ds S) : OpsX P E fn n ops i ⟨some d, .unOp .not ty' x, ty, pos, af, g⟩ K (den l t) ds S := fun ho =>
  f_op (R := fun u S' => u = .bool (!b) ∧ S' = S) ho hw rfl hd (op_pure (v := .bool (!b)) (by simp [pureVal, evL_eq hx]) ⟨rfl, rfl⟩) (by rintro _ _ ⟨rfl, rfl⟩; exact h)

theorem f_ext {d k : Nat} {x : Operand} {vs : Array Value} {v : Value} (hw : wantB ops (den l t) ⟨some d, .extract x k, ty, pos, af, g⟩ = true) (hd : Nat.blt d n = true) (hx : evL l t x = some (.tuple vs)) (hv : vs[k]? = some v)
    (h : OpsF P E fn n ops (i + 1) K (den ((d, v) :: l) t) ds S) : OpsX P E fn n ops i ⟨some d, .extract x k, ty, pos, af, g⟩ K (den l t) ds S := fun ho =>
  f_op (R := fun u S' => u = v ∧ S' = S) ho hw rfl hd (op_pure (v := v) (by simp [pureVal, evL_eq hx, hv]) ⟨rfl, rfl⟩) (by rintro _ _ ⟨rfl, rfl⟩; exact h)

theorem f_mkfunc {d : Nat} {fn' : Fn} {xs ys : Array Operand} {us vs : List Value} (hw : wantB ops (den l t) ⟨some d, .makeFunc fn' xs ys, ty, pos, af, g⟩ = true) (hd : Nat.blt d n = true) (hx : evLs l t xs.toList = some us) (hy : evLs l t ys.toList = some vs)
    (h : OpsF P E fn n ops (i + 1) K (den ((d, .func fn' us.toArray vs.toArray) :: l) t) ds S) : OpsX P E fn n ops i ⟨some d, .makeFunc fn' xs ys, ty, pos, af, g⟩ K (den l t) ds S := fun ho =>
  f_op (R := fun u S' => u = .func fn' us.toArray vs.toArray ∧ S' = S) ho hw rfl hd (op_pure (v := .func fn' us.toArray vs.toArray) (by
    have h1 := evLs_eq hx
    have h2 := evLs_eq hy
    simp only [pureVal]
    rw [← h1, ← h2]
    congr 2 <;> (apply Array.ext'; simp)) ⟨rfl, rfl⟩) (by rintro _ _ ⟨rfl, rfl⟩; exact h)

theorem f_int {d : Nat} {op : BinOp} {t1 t2 : TypeId} {x y : Operand} {k : IntKind} {a b : Int} {v : Value} (hw : wantB ops (den l t) ⟨some d, .binOp op t1 x y t2, ty, pos, af, g⟩ = true) (hd : Nat.blt d n = true)
    (hx : evL l t x = some (.int k a)) (hy : evL l t y = some (.int k b)) (hv : intVal op k a b = some v) (h : OpsF P E fn n ops (i + 1) K (den ((d, v) :: l) t) ds S) : OpsX P E fn n ops i ⟨some d, .binOp op t1 x y t2, ty, pos, af, g⟩ K (den l t) ds S := fun ho =>
  f_op (R := fun u S' => u = v ∧ S' = S) ho hw rfl hd (op_int (evL_eq hx) (evL_eq hy) hv ⟨rfl, rfl⟩) (by rintro _ _ ⟨rfl, rfl⟩; exact h)

theorem f_len {d : Nat} {x : Operand} {e : TypeId} {a : Option Addr} {len cap : Nat} {ty' : TypeId} (hw : wantB ops (den l t) ⟨some d, .call { callee := .builtin .len, args := #[x], argTypes := #[ty'] }, ty, pos, af, g⟩ = true) (hd : Nat.blt d n = true)
    (hu : P.underlying ty' = some (.slice e)) (hx : evL l t x = some (.slice a len cap)) (h : OpsF P E fn n ops (i + 1) K (den ((d, .int .i64 (len : Int)) :: l) t) ds S) : OpsX P E fn n ops i ⟨some d, .call { callee := .builtin .len, args := #[x], argTypes := #[ty'] }, ty, pos, af, g⟩ K (den l t) ds S := fun ho =>
  f_op (R := fun u S' => u = .int .i64 (len : Int) ∧ S' = S) ho hw rfl hd (op_len hu (evL_eq hx) ⟨rfl, rfl⟩) (by rintro _ _ ⟨rfl, rfl⟩; exact h)

theorem f_alloc {d : Nat} {ty' : TypeId} {cs : Array Value} (hw : wantB ops (den l t) ⟨some d, .alloc ty', ty, pos, af, g⟩ = true) (hd : Nat.blt d n = true) (hz : zeroOf P ty' = some cs)
    (h : ∀ b, OpsF P E fn n ops (i + 1) K (den ((d, .pointer (some ⟨b, 0, none⟩)) :: l) t) ds (⟨b, true, .cells cs ty' (0, 0)⟩ :: S)) : OpsX P E fn n ops i ⟨some d, .alloc ty', ty, pos, af, g⟩ K (den l t) ds S := fun ho =>
  f_op (R := fun u S' => ∃ b, u = .pointer (some ⟨b, 0, none⟩) ∧ S' = ⟨b, true, .cells cs ty' (0, 0)⟩ :: S) ho hw rfl hd (op_alloc hz fun b => ⟨b, rfl, rfl⟩) (by rintro _ _ ⟨b, rfl, rfl⟩; exact h b)

theorem f_box {d : Nat} {ty' : TypeId} {x : Operand} {v : Value} (hw : wantB ops (den l t) ⟨some d, .box ty' x, ty, pos, af, g⟩ = true) (hd : Nat.blt d n = true) (hx : evL l t x = some v)
    (h : ∀ b, OpsF P E fn n ops (i + 1) K (den ((d, .pointer (some ⟨b, 0, none⟩)) :: l) t) ds (⟨b, true, .cells v.cells ty' (0, 0)⟩ :: S)) : OpsX P E fn n ops i ⟨some d, .box ty' x, ty, pos, af, g⟩ K (den l t) ds S := fun ho =>
  f_op (R := fun u S' => ∃ b, u = .pointer (some ⟨b, 0, none⟩) ∧ S' = ⟨b, true, .cells v.cells ty' (0, 0)⟩ :: S) ho hw rfl hd (op_box (by rw [evL_eq hx]) fun b => ⟨b, rfl, rfl⟩) (by rintro _ _ ⟨b, rfl, rfl⟩; exact h b)

theorem f_field {d s f k : Nat} {x : Operand} {b off : Nat} (hw : wantB ops (den l t) ⟨some d, .fieldAddr s x f, ty, pos, af, g⟩ = true) (hd : Nat.blt d n = true) (hf : foff P s f = some k) (hx : evL l t x = some (.pointer (some ⟨b, off, none⟩)))
    (h : OpsF P E fn n ops (i + 1) K (den ((d, .pointer (some ⟨b, off + k, none⟩)) :: l) t) ds S) : OpsX P E fn n ops i ⟨some d, .fieldAddr s x f, ty, pos, af, g⟩ K (den l t) ds S := fun ho =>
  f_op (R := fun u S' => u = .pointer (some ⟨b, off + k, none⟩) ∧ S' = S) ho hw rfl hd (op_field hf (evL_eq hx) ⟨rfl, rfl⟩) (by rintro _ _ ⟨rfl, rfl⟩; exact h)

theorem f_index {d : Nat} {ty' e : TypeId} {sz : Bool × Nat} {x y : Operand} {b off len cap j : Nat} {k : IntKind} (hw : wantB ops (den l t) ⟨some d, .indexAddr ty' x y, ty, pos, af, g⟩ = true) (hd : Nat.blt d n = true)
    (hu : P.underlying ty' = some (.slice e)) (hk : tyk P e = some sz) (hx : evL l t x = some (.slice (some ⟨b, off, none⟩) len cap)) (hy : evL l t y = some (.int k (j : Int))) (hj : j < len)
    (h : OpsF P E fn n ops (i + 1) K (den ((d, .pointer (some ⟨b, off + j * sz.2, none⟩)) :: l) t) ds S) : OpsX P E fn n ops i ⟨some d, .indexAddr ty' x y, ty, pos, af, g⟩ K (den l t) ds S := fun ho =>
  f_op (R := fun u S' => u = .pointer (some ⟨b, off + j * sz.2, none⟩) ∧ S' = S) ho hw rfl hd (op_index hu hk (evL_eq hx) (evL_eq hy) hj ⟨rfl, rfl⟩) (by rintro _ _ ⟨rfl, rfl⟩; exact h)

theorem f_load1 {d : Nat} {ty' s : TypeId} {x : Operand} {b off : Nat} {mn : Bool} {c : Array Value} {tb : TypeId} {fz : Nat × Nat} {v : Value} (hw : wantB ops (den l t) ⟨some d, .load ty' x, ty, pos, af, g⟩ = true) (hd : Nat.blt d n = true)
    (hk : tyk P ty' = some (false, s)) (hx : evL l t x = some (.pointer (some ⟨b, off, none⟩))) [he : InS b S mn (.cells c tb fz)] (hv : c[off]? = some v)
    (h : OpsF P E fn n ops (i + 1) K (den ((d, v) :: l) t) ds S) : OpsX P E fn n ops i ⟨some d, .load ty' x, ty, pos, af, g⟩ K (den l t) ds S := fun ho =>
  f_op (R := fun u S' => u = v ∧ S' = S) ho hw rfl hd (op_load1 hk (evL_eq hx) he.h hv ⟨rfl, rfl⟩) (by rintro _ _ ⟨rfl, rfl⟩; exact h)

theorem f_loadW {d : Nat} {ty' s : TypeId} {x : Operand} {b : Nat} {mn : Bool} {c : Array Value} {tb : TypeId} {fz : Nat × Nat} (hw : wantB ops (den l t) ⟨some d, .load ty' x, ty, pos, af, g⟩ = true) (hd : Nat.blt d n = true)
    (hk : tyk P ty' = some (true, s)) (hx : evL l t x = some (.pointer (some ⟨b, 0, none⟩))) [he : InS b S mn (.cells c tb fz)] (hs : c.size = s)
    (h : OpsF P E fn n ops (i + 1) K (den ((d, .agg c) :: l) t) ds S) : OpsX P E fn n ops i ⟨some d, .load ty' x, ty, pos, af, g⟩ K (den l t) ds S := fun ho =>
  f_op (R := fun u S' => u = .agg c ∧ S' = S) ho hw rfl hd (op_loadW hk (evL_eq hx) he.h hs ⟨rfl, rfl⟩) (by rintro _ _ ⟨rfl, rfl⟩; exact h)

theorem f_storeW {ty' : TypeId} {k : Bool × Nat} {x y : Operand} {b : Nat} {c : Array Value} {tb : TypeId} {v : Value} {re : Obj → Ents} (hw : wantB ops (den l t) ⟨none, .store ty' x y, ty, pos, af, g⟩ = true)
    (hk : tyk P ty' = some k) (hx : evL l t x = some (.pointer (some ⟨b, 0, none⟩))) (hy : evL l t y = some v) [hu : OwnS b S (.cells c tb (0, 0)) re] (hsz : v.cells.size = k.2) (hone : (v.cells.toList.all (·.oneCell')) = true) (hl : c.size = k.2)
    (h : OpsF P E fn n ops (i + 1) K (den l t) ds (re (.cells v.cells tb (0, 0)))) : OpsX P E fn n ops i ⟨none, .store ty' x y, ty, pos, af, g⟩ K (den l t) ds S := fun ho =>
  f_op (R := fun _ S'' => S'' = re (.cells v.cells tb (0, 0))) ho hw rfl rfl (op_storeW hk (evL_eq hx) (by rw [evL_eq hy]) hsz hone hl (hu.h _) rfl) (by rintro _ _ rfl; exact h)

theorem f_store {ty' : TypeId} {k : Bool × Nat} {x y : Operand} {b off : Nat} {c : Array Value} {tb : TypeId} {v : Value} {re : Obj → Ents} (hw : wantB ops (den l t) ⟨none, .store ty' x y, ty, pos, af, g⟩ = true)
    (hk : tyk P ty' = some k) (hx : evL l t x = some (.pointer (some ⟨b, off, none⟩))) (hy : evL l t y = some v) [hu : OwnS b S (.cells c tb (0, 0)) re] (hsz : v.cells.size = k.2) (hone : (v.cells.toList.all (·.oneCell')) = true) (hl : off + k.2 ≤ c.size)
    (h : OpsF P E fn n ops (i + 1) K (den l t) ds (re (.cells (setCells c off v.cells.toList) tb (0, 0)))) : OpsX P E fn n ops i ⟨none, .store ty' x y, ty, pos, af, g⟩ K (den l t) ds S := fun ho =>
  f_op (R := fun _ S'' => S'' = re (.cells (setCells c off v.cells.toList) tb (0, 0))) ho hw rfl rfl (op_store hk (evL_eq hx) (by rw [evL_eq hy]) hsz hone hl (hu.h _) rfl) (by rintro _ _ rfl; exact h)

theorem f_call {d : Nat} {f : FuncId} {args : Array Operand} {ats : Array TypeId} {vs : List Value} {R : Value → Ents → Prop} (hw : wantB ops (den l t) ⟨some d, .call { callee := .value (.func f), args := args, argTypes := ats }, ty, pos, af, g⟩ = true) (hd : Nat.blt d n = true)
    (hx : evLs l t args.toList = some vs) (hr : CallW P E f vs.toArray S R) (h : ∀ v S', R v S' → OpsF P E fn n ops (i + 1) K (den ((d, v) :: l) t) ds S') : OpsX P E fn n ops i ⟨some d, .call { callee := .value (.func f), args := args, argTypes := ats }, ty, pos, af, g⟩ K (den l t) ds S := fun ho => by
  unfold OpsF at *
  rw [range_cons ho]
  refine ops_call ho rfl hw hd (first := #[]) (captured := #[]) (f := f) rfl ?_ hr h
  have := evLs_eq hx
  rw [← this]
  apply Array.ext'
  simp

theorem w_cond {c : Operand} {x y : Code} {b : Bool} (hc : evL l t c = some (.bool b)) (h1 : b = true → WP P E fn n x Q (den l t) ds S) (h2 : b = false → WP P E fn n y Q (den l t) ds S) : WP P E fn n (.cond c x y) Q (den l t) ds S := wp_cond (evL_eq hc) h1 h2

def dens : List Value → Nat → TL
  | [], _ => []
  | v :: vs, i => (i, v) :: dens vs (i + 1)

theorem den_dens (vs : List Value) : ∀ (i j : Nat), den (dens vs i) (fun _ => undef) j = if i ≤ j then vs.getD (j - i) undef else undef := by
  induction vs with
  | nil => intro i j; simp [dens, den]
  | cons v vs ih =>
    intro i j
    simp only [dens, den, upd]
    by_cases e : j = i
    · subst e; simp
    · rw [beq_ne e, cond_false, ih]
      by_cases h : i ≤ j
      · rw [if_pos (by omega), if_pos h]
        obtain ⟨k, rfl⟩ : ∃ k, j = i + 1 + k := ⟨j - (i + 1), by omega⟩
        rw [show i + 1 + k - (i + 1) = k by omega, show i + 1 + k - i = k + 1 by omega]
        rfl
      · rw [if_neg (by omega), if_neg h]

theorem call_in {f : FuncId} {fr : Func} {c : Code} {args : List Value} {R : Value → Ents → Prop} (hf : P.funcs[f]? = some fr) (hname : (fr.name == "runtime.NumGoroutine") = false) (hb : fr.body = some c) (hargs : Nat.ble args.length fr.ntmps = true)
    (h : WP P E f fr.ntmps c (retQ P E.m fr.results R) (den (dens args 0) fun _ => undef) [] S) : CallW P E f args.toArray S R := by
  refine callW_of hf hname hb (by simpa using Nat.le_of_ble_eq_true hargs) ?_
  have e : enterT args.toArray = den (dens args 0) fun _ => undef := by
    funext j
    rw [den_dens]
    simp [enterT, Array.getD, List.getD]
    split <;> simp_all
  rw [e]
  exact h

theorem ret_tmp {r : Nat} {v : Value} {rs : Array ResultVar} {m : Mode} {R : Value → Ents → Prop} {S' : Ents} (hrs : rs = #[.tmp r]) (hv : lk l t r = some v) (hs : List.Sublist S' S) (h : R v S') : SemH P m (resultsT rs (den l t)) S R := by
  subst hrs
  have e : resultsT #[.tmp r] (den l t) = pure (den l t r) := by simp [resultsT]
  rw [e, lk_eq hv]
  exact semH_drop (semH_pure h) hs
end
def lkAll (l : TL) (t : Tm) : TL → Prop
  | [] => True
  | (k, v) :: K => lk l t k = some v ∧ lkAll l t K

theorem keep {l : TL} {t : Tm} : ∀ {K : TL}, lkAll l t K → den l t = den K (den l t)
  | [], _ => rfl
  | (k, v) :: K, h => by
    have h1 := keep h.2
    simp only [den]
    rw [← h1]
    exact (upd_same (lk_eq h.1)).symm

theorem wrap_in {a : Int} (h1 : -9223372036854775808 ≤ a) (h2 : a ≤ 9223372036854775807) : IntKind.i64.wrap a = a := IntWalk.i64_in a ⟨h1, h2⟩

/-- A slice's elements, each of sz cells. -/
def Row (S : Ents) (b off sz n : Nat) (f : Nat → Array Value) : Prop :=
  ∃ mn c ty fz, (⟨b, mn, .cells c ty fz⟩ : Ent) ∈ S ∧ ∀ i, i < n → off + i * sz + sz ≤ c.size ∧ c.extract (off + i * sz) (off + i * sz + sz) = f i

theorem op_loadR {P : Program} {m : Mode} {S S₀ : Ents} {ρ : Operand → Value} {d : Option Tmp} {ty s : TypeId} {pos : String} {t' : TypeId} {af : Array Edge} {g : Option (Nat × Bool)} {x : Operand} {b off n i : Nat} {f : Nat → Array Value} {R : Value → Ents → Prop}
    (hr : Row S₀ b off s n f) (hs : Tl S₀ S) (hi : i < n) (hk : tyk P ty = some (true, s)) (ha : ρ x = .pointer (some ⟨b, off + i * s, none⟩)) (h : R (.agg (f i)) S) : OpH P m ⟨d, .load ty x, t', pos, af, g⟩ ρ S R := by
  obtain ⟨mn, c, ty', fz, he, hc⟩ := hr
  exact op_loadA hk ha (hs.mem he) (hc i hi).1 (hc i hi).2 h

section
variable {P : Program} {E : Env} {fn n : Nat} {K : Tm → List Deferred → Ents → Prop} {l : TL} {t : Tm} {ds : List Deferred} {S S₀ : Ents} {ops : Array Oper} {i : Nat} {ty : TypeId} {pos : String} {af : Array Edge} {g : Option (Nat × Bool)}

theorem f_loadR {d : Nat} {ty' s : TypeId} {x : Operand} {b off nn j : Nat} {f : Nat → Array Value} (hr : Row S₀ b off s nn f) (hw : wantB ops (den l t) ⟨some d, .load ty' x, ty, pos, af, g⟩ = true) (hd : Nat.blt d n = true)
    (hk : tyk P ty' = some (true, s)) (hx : evL l t x = some (.pointer (some ⟨b, off + j * s, none⟩))) [hs : TlS S₀ S] (hj : j < nn)
    (h : OpsF P E fn n ops (i + 1) K (den ((d, .agg (f j)) :: l) t) ds S) : OpsX P E fn n ops i ⟨some d, .load ty' x, ty, pos, af, g⟩ K (den l t) ds S := fun ho =>
  f_op (R := fun u S' => u = .agg (f j) ∧ S' = S) ho hw rfl hd (op_loadR hr hs.h hj hk (evL_eq hx) ⟨rfl, rfl⟩) (by rintro _ _ ⟨rfl, rfl⟩; exact h)

theorem f_add {d : Nat} {t1 t2 : TypeId} {x y : Operand} {a b : Int} (hw : wantB ops (den l t) ⟨some d, .binOp .add t1 x y t2, ty, pos, af, g⟩ = true) (hd : Nat.blt d n = true)
    (hx : evL l t x = some (.int .i64 a)) (hy : evL l t y = some (.int .i64 b)) (h1 : -9223372036854775808 ≤ a + b ∧ a + b ≤ 9223372036854775807) (h : OpsF P E fn n ops (i + 1) K (den ((d, .int .i64 (a + b)) :: l) t) ds S) : OpsX P E fn n ops i ⟨some d, .binOp .add t1 x y t2, ty, pos, af, g⟩ K (den l t) ds S :=
  f_int hw hd hx hy (by rw [intVal, wrap_in h1.1 h1.2]) h
theorem f_sub {d : Nat} {t1 t2 : TypeId} {x y : Operand} {a b : Int} (hw : wantB ops (den l t) ⟨some d, .binOp .sub t1 x y t2, ty, pos, af, g⟩ = true) (hd : Nat.blt d n = true)
    (hx : evL l t x = some (.int .i64 a)) (hy : evL l t y = some (.int .i64 b)) (h1 : -9223372036854775808 ≤ a - b ∧ a - b ≤ 9223372036854775807) (h : OpsF P E fn n ops (i + 1) K (den ((d, .int .i64 (a - b)) :: l) t) ds S) : OpsX P E fn n ops i ⟨some d, .binOp .sub t1 x y t2, ty, pos, af, g⟩ K (den l t) ds S :=
  f_int hw hd hx hy (by rw [intVal, wrap_in h1.1 h1.2]) h
theorem f_mul {d : Nat} {t1 t2 : TypeId} {x y : Operand} {a b : Int} (hw : wantB ops (den l t) ⟨some d, .binOp .mul t1 x y t2, ty, pos, af, g⟩ = true) (hd : Nat.blt d n = true)
    (hx : evL l t x = some (.int .i64 a)) (hy : evL l t y = some (.int .i64 b)) (h1 : -9223372036854775808 ≤ a * b ∧ a * b ≤ 9223372036854775807) (h : OpsF P E fn n ops (i + 1) K (den ((d, .int .i64 (a * b)) :: l) t) ds S) : OpsX P E fn n ops i ⟨some d, .binOp .mul t1 x y t2, ty, pos, af, g⟩ K (den l t) ds S :=
  f_int hw hd hx hy (by rw [intVal, wrap_in h1.1 h1.2]) h
end
end Go.Proofs.YtpnnmklacialgaaGreat
namespace Go.Proofs.YtpnnmklacialgaaGreat
class Tyk (t : Nat) (k : outParam (Bool × Nat)) : Prop where h : tyk Tryz.prog t = some k
class Zo (t : Nat) (cs : outParam (Array Value)) : Prop where h : zeroOf Tryz.prog t = some cs
class Fo (s f : Nat) (k : outParam Nat) : Prop where h : foff Tryz.prog s f = some k
class Sl (t : Nat) (e : outParam Nat) : Prop where h : Tryz.prog.underlying t = some (.slice e)
instance : Tyk 3 (false, 1) := ⟨by kernel_rfl⟩
instance : Tyk 4 (false, 1) := ⟨by kernel_rfl⟩
instance : Tyk 22 (false, 1) := ⟨by kernel_rfl⟩
instance : Tyk 23 (false, 1) := ⟨by kernel_rfl⟩
instance : Tyk 24 (false, 1) := ⟨by kernel_rfl⟩
instance : Tyk 25 (false, 1) := ⟨by kernel_rfl⟩
instance : Tyk 26 (false, 1) := ⟨by kernel_rfl⟩
instance : Tyk 28 (true, 5) := ⟨by kernel_rfl⟩
instance : Tyk 30 (true, 2) := ⟨by kernel_rfl⟩
instance : Tyk 32 (true, 3) := ⟨by kernel_rfl⟩
instance : Tyk 33 (false, 1) := ⟨by kernel_rfl⟩
instance : Tyk 34 (false, 1) := ⟨by kernel_rfl⟩
instance : Tyk 47 (true, 2) := ⟨by kernel_rfl⟩
instance : Tyk 66 (true, 5) := ⟨by kernel_rfl⟩
instance : Tyk 70 (true, 2) := ⟨by kernel_rfl⟩
instance : Tyk 72 (true, 4) := ⟨by kernel_rfl⟩
instance : Tyk 74 (true, 9) := ⟨by kernel_rfl⟩
instance : Tyk 76 (true, 7) := ⟨by kernel_rfl⟩
instance : Tyk 78 (true, 6) := ⟨by kernel_rfl⟩
instance : Tyk 82 (true, 3) := ⟨by kernel_rfl⟩
instance : Tyk 84 (true, 5) := ⟨by kernel_rfl⟩
instance : Tyk 98 (true, 4) := ⟨by kernel_rfl⟩
instance : Tyk 104 (true, 3) := ⟨by kernel_rfl⟩
instance : Tyk 111 (true, 29) := ⟨by kernel_rfl⟩
instance : Tyk 115 (false, 1) := ⟨by kernel_rfl⟩
instance : Tyk 116 (false, 1) := ⟨by kernel_rfl⟩
instance : Tyk 117 (false, 1) := ⟨by kernel_rfl⟩
instance : Tyk 118 (false, 1) := ⟨by kernel_rfl⟩
instance : Tyk 119 (false, 1) := ⟨by kernel_rfl⟩
instance : Tyk 128 (false, 1) := ⟨by kernel_rfl⟩
instance : Tyk 130 (true, 5) := ⟨by kernel_rfl⟩
instance : Tyk 133 (false, 1) := ⟨by kernel_rfl⟩
instance : Tyk 137 (false, 1) := ⟨by kernel_rfl⟩
instance : Tyk 138 (true, 24) := ⟨by kernel_rfl⟩
instance : Tyk 140 (true, 78) := ⟨by kernel_rfl⟩
instance : Tyk 144 (false, 1) := ⟨by kernel_rfl⟩
instance : Tyk 159 (true, 7) := ⟨by kernel_rfl⟩
instance : Tyk 160 (false, 1) := ⟨by kernel_rfl⟩
instance : Tyk 163 (false, 1) := ⟨by kernel_rfl⟩
instance : Tyk 166 (false, 1) := ⟨by kernel_rfl⟩
instance : Tyk 178 (false, 1) := ⟨by kernel_rfl⟩
instance : Tyk 183 (true, 9) := ⟨by kernel_rfl⟩
instance : Tyk 186 (true, 6) := ⟨by kernel_rfl⟩
instance : Tyk 193 (false, 1) := ⟨by kernel_rfl⟩
instance : Tyk 197 (false, 1) := ⟨by kernel_rfl⟩
instance : Tyk 207 (false, 1) := ⟨by kernel_rfl⟩
instance : Tyk 255 (false, 1) := ⟨by kernel_rfl⟩
instance : Zo 3 #[.int .i64 0] := ⟨by kernel_rfl⟩
instance : Zo 28 #[.slice none 0 0, .slice none 0 0, .slice none 0 0, .slice none 0 0, .slice none 0 0] := ⟨by kernel_rfl⟩
instance : Zo 30 #[.int .i64 0, .int .i64 0] := ⟨by kernel_rfl⟩
instance : Zo 33 #[.slice none 0 0] := ⟨by kernel_rfl⟩
instance : Zo 34 #[.int .i64 0] := ⟨by kernel_rfl⟩
instance : Zo 47 #[.int .i64 0, .int .i64 0] := ⟨by kernel_rfl⟩
instance : Zo 66 #[.int .i64 0, .int .i64 0, .int .i64 0, .int .i64 0, .int .i64 0] := ⟨by kernel_rfl⟩
instance : Zo 70 #[.int .i64 0, .int .i64 0] := ⟨by kernel_rfl⟩
instance : Zo 72 #[.int .i64 0, .int .i64 0, .int .i64 0, .int .i64 0] := ⟨by kernel_rfl⟩
instance : Zo 74 #[.int .i64 0, .int .i64 0, .int .i64 0, .int .i64 0, .int .i64 0, .int .i64 0, .int .i64 0, .int .i64 0, .int .i64 0] := ⟨by kernel_rfl⟩
instance : Zo 76 #[.int .i64 0, .int .i64 0, .int .i64 0, .int .i64 0, .int .i64 0, .int .i64 0, .int .i64 0] := ⟨by kernel_rfl⟩
instance : Zo 78 #[.int .i64 0, .int .i64 0, .int .i64 0, .int .i64 0, .int .i64 0, .int .i64 0] := ⟨by kernel_rfl⟩
instance : Zo 82 #[.slice none 0 0, .slice none 0 0, .slice none 0 0] := ⟨by kernel_rfl⟩
instance : Zo 104 #[.int .i64 0, .int .i64 0, .int .i64 0] := ⟨by kernel_rfl⟩
instance : Zo 128 #[.slice none 0 0] := ⟨by kernel_rfl⟩
instance : Zo 130 #[.slice none 0 0, .slice none 0 0, .slice none 0 0, .slice none 0 0, .bool false] := ⟨by kernel_rfl⟩
instance : Zo 133 #[.pointer none] := ⟨by kernel_rfl⟩
instance : Zo 144 #[.slice none 0 0] := ⟨by kernel_rfl⟩
instance : Zo 159 #[.int .i64 0, .int .i64 0, .int .i64 0, .int .i64 0, .int .i64 0, .int .i64 0, .int .i64 0] := ⟨by kernel_rfl⟩
instance : Zo 183 #[.int .i64 0, .int .i64 0, .int .i64 0, .int .i64 0, .int .i64 0, .int .i64 0, .int .i64 0, .int .i64 0, .int .i64 0] := ⟨by kernel_rfl⟩
instance : Zo 186 #[.int .i64 0, .int .i64 0, .int .i64 0, .int .i64 0, .int .i64 0, .int .i64 0] := ⟨by kernel_rfl⟩
instance : Zo 207 #[.chan none] := ⟨by kernel_rfl⟩
instance : Zo 255 #[.int .u64 0] := ⟨by kernel_rfl⟩
instance : Fo 28 0 0 := ⟨by kernel_rfl⟩
instance : Fo 28 1 1 := ⟨by kernel_rfl⟩
instance : Fo 28 2 2 := ⟨by kernel_rfl⟩
instance : Fo 28 3 3 := ⟨by kernel_rfl⟩
instance : Fo 28 4 4 := ⟨by kernel_rfl⟩
instance : Fo 30 0 0 := ⟨by kernel_rfl⟩
instance : Fo 30 1 1 := ⟨by kernel_rfl⟩
instance : Fo 32 0 0 := ⟨by kernel_rfl⟩
instance : Fo 32 1 1 := ⟨by kernel_rfl⟩
instance : Fo 47 0 0 := ⟨by kernel_rfl⟩
instance : Fo 47 1 1 := ⟨by kernel_rfl⟩
instance : Fo 66 0 0 := ⟨by kernel_rfl⟩
instance : Fo 66 1 1 := ⟨by kernel_rfl⟩
instance : Fo 66 2 2 := ⟨by kernel_rfl⟩
instance : Fo 66 3 3 := ⟨by kernel_rfl⟩
instance : Fo 66 4 4 := ⟨by kernel_rfl⟩
instance : Fo 70 0 0 := ⟨by kernel_rfl⟩
instance : Fo 70 1 1 := ⟨by kernel_rfl⟩
instance : Fo 72 0 0 := ⟨by kernel_rfl⟩
instance : Fo 72 1 1 := ⟨by kernel_rfl⟩
instance : Fo 72 2 2 := ⟨by kernel_rfl⟩
instance : Fo 74 0 0 := ⟨by kernel_rfl⟩
instance : Fo 74 1 1 := ⟨by kernel_rfl⟩
instance : Fo 74 2 2 := ⟨by kernel_rfl⟩
instance : Fo 74 3 3 := ⟨by kernel_rfl⟩
instance : Fo 74 4 5 := ⟨by kernel_rfl⟩
instance : Fo 74 5 7 := ⟨by kernel_rfl⟩
instance : Fo 74 6 8 := ⟨by kernel_rfl⟩
instance : Fo 76 0 0 := ⟨by kernel_rfl⟩
instance : Fo 76 1 1 := ⟨by kernel_rfl⟩
instance : Fo 76 2 2 := ⟨by kernel_rfl⟩
instance : Fo 76 3 3 := ⟨by kernel_rfl⟩
instance : Fo 76 4 5 := ⟨by kernel_rfl⟩
instance : Fo 76 5 6 := ⟨by kernel_rfl⟩
instance : Fo 78 0 0 := ⟨by kernel_rfl⟩
instance : Fo 78 1 1 := ⟨by kernel_rfl⟩
instance : Fo 78 2 2 := ⟨by kernel_rfl⟩
instance : Fo 78 3 3 := ⟨by kernel_rfl⟩
instance : Fo 78 4 4 := ⟨by kernel_rfl⟩
instance : Fo 78 5 5 := ⟨by kernel_rfl⟩
instance : Fo 82 0 0 := ⟨by kernel_rfl⟩
instance : Fo 82 1 1 := ⟨by kernel_rfl⟩
instance : Fo 82 2 2 := ⟨by kernel_rfl⟩
instance : Fo 84 0 0 := ⟨by kernel_rfl⟩
instance : Fo 84 1 2 := ⟨by kernel_rfl⟩
instance : Fo 98 0 0 := ⟨by kernel_rfl⟩
instance : Fo 98 1 1 := ⟨by kernel_rfl⟩
instance : Fo 98 2 2 := ⟨by kernel_rfl⟩
instance : Fo 98 3 3 := ⟨by kernel_rfl⟩
instance : Fo 104 0 0 := ⟨by kernel_rfl⟩
instance : Fo 104 1 1 := ⟨by kernel_rfl⟩
instance : Fo 104 2 2 := ⟨by kernel_rfl⟩
instance : Fo 111 0 0 := ⟨by kernel_rfl⟩
instance : Fo 111 1 4 := ⟨by kernel_rfl⟩
instance : Fo 111 2 13 := ⟨by kernel_rfl⟩
instance : Fo 111 3 20 := ⟨by kernel_rfl⟩
instance : Fo 111 4 26 := ⟨by kernel_rfl⟩
instance : Fo 130 0 0 := ⟨by kernel_rfl⟩
instance : Fo 130 1 1 := ⟨by kernel_rfl⟩
instance : Fo 130 2 2 := ⟨by kernel_rfl⟩
instance : Fo 130 3 3 := ⟨by kernel_rfl⟩
instance : Fo 130 4 4 := ⟨by kernel_rfl⟩
instance : Fo 140 0 0 := ⟨by kernel_rfl⟩
instance : Fo 140 1 5 := ⟨by kernel_rfl⟩
instance : Fo 140 2 29 := ⟨by kernel_rfl⟩
instance : Fo 140 3 53 := ⟨by kernel_rfl⟩
instance : Fo 140 4 77 := ⟨by kernel_rfl⟩
instance : Fo 159 0 0 := ⟨by kernel_rfl⟩
instance : Fo 159 1 1 := ⟨by kernel_rfl⟩
instance : Fo 159 2 2 := ⟨by kernel_rfl⟩
instance : Fo 159 3 3 := ⟨by kernel_rfl⟩
instance : Fo 159 4 5 := ⟨by kernel_rfl⟩
instance : Fo 159 5 6 := ⟨by kernel_rfl⟩
instance : Fo 183 0 0 := ⟨by kernel_rfl⟩
instance : Fo 183 1 1 := ⟨by kernel_rfl⟩
instance : Fo 183 2 2 := ⟨by kernel_rfl⟩
instance : Fo 183 5 7 := ⟨by kernel_rfl⟩
instance : Fo 183 6 8 := ⟨by kernel_rfl⟩
instance : Fo 186 0 0 := ⟨by kernel_rfl⟩
instance : Fo 186 1 1 := ⟨by kernel_rfl⟩
instance : Fo 186 2 2 := ⟨by kernel_rfl⟩
instance : Fo 186 3 3 := ⟨by kernel_rfl⟩
instance : Fo 186 4 4 := ⟨by kernel_rfl⟩
instance : Fo 186 5 5 := ⟨by kernel_rfl⟩
instance : Sl 22 72 := ⟨by kernel_rfl⟩
instance : Sl 23 74 := ⟨by kernel_rfl⟩
instance : Sl 24 76 := ⟨by kernel_rfl⟩
instance : Sl 25 78 := ⟨by kernel_rfl⟩
instance : Sl 26 104 := ⟨by kernel_rfl⟩
instance : Sl 33 3 := ⟨by kernel_rfl⟩
instance : Sl 45 66 := ⟨by kernel_rfl⟩
instance : Sl 128 70 := ⟨by kernel_rfl⟩
instance : Sl 144 47 := ⟨by kernel_rfl⟩
instance : Sl 160 159 := ⟨by kernel_rfl⟩
instance : Sl 193 183 := ⟨by kernel_rfl⟩
instance : Sl 197 186 := ⟨by kernel_rfl⟩
instance : Sl 209 144 := ⟨by kernel_rfl⟩
instance : Sl 219 33 := ⟨by kernel_rfl⟩
end Go.Proofs.YtpnnmklacialgaaGreat
namespace Go.Proofs.YtpnnmklacialgaaGreat
def lk2 : List (Nat × Nat × Nat) → Nat → Nat → Option Nat
  | [], _, _ => none
  | (a, b, c) :: l, x, y => bif Nat.beq a x && Nat.beq b y then some c else lk2 l x y
def lk1 {α : Type} : List (Nat × α) → Nat → Option α
  | [], _ => none
  | (a, c) :: l, x => bif Nat.beq a x then some c else lk1 l x
def lk3 : List (Nat × Nat × Bool × Nat × Nat) → Nat → Nat → Option (Bool × Nat × Nat)
  | [], _, _ => none
  | (a, b, c) :: l, x, y => bif Nat.beq a x && Nat.beq b y then some c else lk3 l x y
theorem lk1_mem {α : Type} {l : List (Nat × α)} {x : Nat} {c : α} (h : lk1 l x = some c) : (x, c) ∈ l := by
  induction l with
  | nil => cases h
  | cons p l ih =>
    obtain ⟨a, c'⟩ := p
    simp only [lk1] at h
    cases hb : Nat.beq a x with
    | true => rw [hb] at h; cases h; rw [Nat.eq_of_beq_eq_true hb]; exact .head _
    | false => rw [hb] at h; exact .tail _ (ih h)
theorem lk2_mem {l : List (Nat × Nat × Nat)} {x y c : Nat} (h : lk2 l x y = some c) : (x, y, c) ∈ l := by
  induction l with
  | nil => cases h
  | cons p l ih =>
    obtain ⟨a, b, c'⟩ := p
    simp only [lk2] at h
    cases hb : (Nat.beq a x && Nat.beq b y) with
    | true =>
      rw [hb] at h; cases h
      simp only [Bool.and_eq_true] at hb
      rw [Nat.eq_of_beq_eq_true hb.1, Nat.eq_of_beq_eq_true hb.2]; exact .head _
    | false => rw [hb] at h; exact .tail _ (ih h)
theorem lk3_mem {l : List (Nat × Nat × Bool × Nat × Nat)} {x y : Nat} {c : Bool × Nat × Nat} (h : lk3 l x y = some c) : (x, y, c) ∈ l := by
  induction l with
  | nil => cases h
  | cons p l ih =>
    obtain ⟨a, b, c'⟩ := p
    simp only [lk3] at h
    cases hb : (Nat.beq a x && Nat.beq b y) with
    | true =>
      rw [hb] at h; cases h
      simp only [Bool.and_eq_true] at hb
      rw [Nat.eq_of_beq_eq_true hb.1, Nat.eq_of_beq_eq_true hb.2]; exact .head _
    | false => rw [hb] at h; exact .tail _ (ih h)
theorem all_lk1 {α : Type} {l : List (Nat × α)} {p : Nat × α → Bool} (h1 : l.all p = true) {x : Nat} {c : α} (h : lk1 l x = some c) : p (x, c) = true := List.all_eq_true.1 h1 _ (lk1_mem h)
theorem all_lk2 {l : List (Nat × Nat × Nat)} {p : Nat × Nat × Nat → Bool} (h1 : l.all p = true) {x y c : Nat} (h : lk2 l x y = some c) : p (x, y, c) = true := List.all_eq_true.1 h1 _ (lk2_mem h)
theorem all_lk3 {l : List (Nat × Nat × Bool × Nat × Nat)} {p : Nat × Nat × Bool × Nat × Nat → Bool} (h1 : l.all p = true) {x y : Nat} {c : Bool × Nat × Nat} (h : lk3 l x y = some c) : p (x, y, c) = true := List.all_eq_true.1 h1 _ (lk3_mem h)
/-- A field of a struct value: an aggregate?, offset, cells. -/
def fpart (P : Program) (t f : Nat) : Option (Bool × Nat × Nat) :=
  match P.underlying t with
  | some (.struct fs) => match fs[f]? with
    | some x => (tyk P x.type).map fun k => (k.1, x.offset, k.2)
    | none => none
  | _ => none
def slel (P : Program) (t : Nat) : Option Nat := match P.underlying t with | some (.slice e) => some e | _ => none
def arel (P : Program) (t : Nat) : Option (Nat × Nat) := match P.underlying t with | some (.array n e) => some (n, e) | _ => none
def inkd (P : Program) (t : Nat) : Option IntKind := match P.underlying t with | some (.int k) => some k | _ => none
def stplaces (P : Program) (t : Nat) : Option (List (Nat × Nat)) := match P.underlying t with
  | some (.struct fs) => fs.toList.mapM fun f => (tyk P f.type).map fun k => (f.offset, k.2)
  | some (.array n e) => (tyk P e).map fun k => (List.range n).map fun i => (i * k.2, k.2)
  | _ => none
def foT : List (Nat × Nat × Nat) := [(28, 0, 0), (28, 1, 1), (28, 2, 2), (28, 3, 3), (28, 4, 4), (30, 0, 0), (30, 1, 1), (32, 0, 0), (32, 1, 1), (47, 0, 0), (47, 1, 1), (66, 0, 0), (66, 1, 1), (66, 2, 2), (66, 3, 3), (66, 4, 4), (70, 0, 0), (70, 1, 1), (72, 0, 0), (72, 1, 1), (72, 2, 2), (74, 0, 0), (74, 1, 1), (74, 2, 2), (74, 3, 3), (74, 4, 5), (74, 5, 7), (74, 6, 8), (76, 0, 0), (76, 1, 1), (76, 2, 2), (76, 3, 3), (76, 4, 5), (76, 5, 6), (78, 0, 0), (78, 1, 1), (78, 2, 2), (78, 3, 3), (78, 4, 4), (78, 5, 5), (82, 0, 0), (82, 1, 1), (82, 2, 2), (84, 0, 0), (84, 1, 2), (98, 0, 0), (98, 1, 1), (98, 2, 2), (98, 3, 3), (104, 0, 0), (104, 1, 1), (104, 2, 2), (111, 0, 0), (111, 1, 4), (111, 2, 13), (111, 3, 20), (111, 4, 26), (130, 0, 0), (130, 1, 1), (130, 2, 2), (130, 3, 3), (130, 4, 4), (140, 0, 0), (140, 1, 5), (140, 2, 29), (140, 3, 53), (140, 4, 77), (159, 0, 0), (159, 1, 1), (159, 2, 2), (159, 3, 3), (159, 4, 5), (159, 5, 6), (183, 0, 0), (183, 1, 1), (183, 2, 2), (183, 5, 7), (183, 6, 8), (186, 0, 0), (186, 1, 1), (186, 2, 2), (186, 3, 3), (186, 4, 4), (186, 5, 5)]
theorem foT_ok {s f k : Nat} (h : lk2 foT s f = some k) : foff Tryz.prog s f = some k := by
  have h1 : (foT.all fun e => foff Tryz.prog e.1 e.2.1 == some e.2.2) = true := by kernel_rfl
  exact eq_of_beq (all_lk2 h1 h)
def fpT : List (Nat × Nat × Bool × Nat × Nat) := [(70, 0, false, 0, 1), (70, 1, false, 1, 1), (130, 4, false, 4, 1)]
theorem fpT_ok {s f : Nat} {k : Bool × Nat × Nat} (h : lk3 fpT s f = some k) : fpart Tryz.prog s f = some k := by
  have h1 : (fpT.all fun e => fpart Tryz.prog e.1 e.2.1 == some e.2.2) = true := by kernel_rfl
  exact eq_of_beq (all_lk3 h1 h)
def slT : List (Nat × Nat) := [(22, 72), (23, 74), (24, 76), (25, 78), (26, 104), (33, 3), (45, 66), (128, 70), (144, 47), (160, 159), (193, 183), (197, 186), (209, 144), (219, 33)]
theorem slT_ok {t e : Nat} (h : lk1 slT t = some e) : Tryz.prog.underlying t = some (.slice e) := by
  have h1 : (slT.all fun e => slel Tryz.prog e.1 == some e.2) = true := by kernel_rfl
  have h2 := eq_of_beq (all_lk1 h1 h)
  simp only [slel] at h2
  split at h2
  · simp_all
  · cases h2
def arT : List (Nat × Nat × Nat) := [(138, 12, 70), (185, 3, 3)]
theorem arel_ok {P : Program} {t : Nat} {e : Nat × Nat} (h : arel P t = some e) : P.underlying t = some (.array e.1 e.2) := by
  unfold arel at h
  split at h
  · cases h; assumption
  · cases h
theorem arT_ok {t : Nat} {e : Nat × Nat} (h : lk1 arT t = some e) : Tryz.prog.underlying t = some (.array e.1 e.2) := by
  have h1 : (arT.all fun e => arel Tryz.prog e.1 == some e.2) = true := by kernel_rfl
  exact arel_ok (eq_of_beq (all_lk1 h1 h))
def itT : List (Nat × IntKind) := [(3, .i64), (5, .u8), (216, .u64), (252, .u32), (254, .u64), (255, .u64)]
theorem itT_ok {t : Nat} {k : IntKind} (h : lk1 itT t = some k) : Tryz.prog.underlying t = some (.int k) := by
  have h1 : (itT.all fun e => inkd Tryz.prog e.1 == some e.2) = true := by kernel_rfl
  have h2 := eq_of_beq (all_lk1 h1 h)
  simp only [inkd] at h2
  split at h2
  · simp_all
  · cases h2
def stT : List (Nat × List (Nat × Nat)) := [(28, [(0, 1), (1, 1), (2, 1), (3, 1), (4, 1)]), (30, [(0, 1), (1, 1)]), (47, [(0, 1), (1, 1)]), (66, [(0, 1), (1, 1), (2, 1), (3, 1), (4, 1)]), (70, [(0, 1), (1, 1)]), (72, [(0, 1), (1, 1), (2, 2)]), (74, [(0, 1), (1, 1), (2, 1), (3, 2), (5, 2), (7, 1), (8, 1)]), (76, [(0, 1), (1, 1), (2, 1), (3, 2), (5, 1), (6, 1)]), (78, [(0, 1), (1, 1), (2, 1), (3, 1), (4, 1), (5, 1)]), (82, [(0, 1), (1, 1), (2, 1)]), (104, [(0, 1), (1, 1), (2, 1)]), (130, [(0, 1), (1, 1), (2, 1), (3, 1), (4, 1)]), (140, [(0, 5), (5, 24), (29, 24), (53, 24), (77, 1)]), (185, [(0, 1), (1, 1), (2, 1)])]
theorem stT_ok {t : Nat} {k : List (Nat × Nat)} (h : lk1 stT t = some k) : stplaces Tryz.prog t = some k := by
  have h1 : (stT.all fun e => stplaces Tryz.prog e.1 == some e.2) = true := by kernel_rfl
  exact eq_of_beq (all_lk1 h1 h)
end Go.Proofs.YtpnnmklacialgaaGreat
namespace Go.Proofs.YtpnnmklacialgaaGreat
open Go.Conc

/-- An address inside a row: element j of sz cells, cell k of it. -/
@[irreducible] def ix (off j sz k : Nat) : Nat := off + j * sz + k
theorem ix_eq (off j sz k : Nat) : ix off j sz k = off + j * sz + k := by unfold ix; rfl
theorem ix_add (off j sz k f : Nat) : ix off j sz k + f = ix off j sz (k + f) := by simp only [ix_eq]; omega

def OpF (P : Program) (E : Env) (fn n : Nat) (ops : Array Oper) (sq : Bool) (l : List (Nat × Bool)) (K : Tm → List Deferred → Ents → Prop) (t : Tm) (ds : List Deferred) (Z S : Ents) : Prop :=
  (sq = true → OpsW P E fn n ops (l.map (·.1)) K t ds S) ∧ (sq = false → DrF P E n ops l K t ds Z S)
def OpX (P : Program) (E : Env) (fn n : Nat) (ops : Array Oper) (sq : Bool) (i : Nat) (z : Bool) (rest : List (Nat × Bool)) (o : Oper) (K : Tm → List Deferred → Ents → Prop) (t : Tm) (ds : List Deferred) (Zi Z S : Ents) : Prop :=
  ops[i]? = some o → (sq = true → z = false) → (Zi = bif z then Z else S) → OpF P E fn n ops sq ((i, z) :: rest) K t ds Z S ∧
    (sq = false → isAct o.op = true → List.Sublist Z S → ∃ R, Exec P E n ops o t S R ∧ ∀ v S', R v S' → ∃ Z', (z = false → List.Sublist Z Z') ∧ List.Sublist Z' S' ∧ DrF P E n ops rest K (updo t o.dst v) ds Z' S') ∧
    (sq = false → isAct o.op = false → List.Sublist Z S → ∃ v, VOp P E n ops o t Zi v ∧ DrF P E n ops rest K (updo t o.dst v) ds Z S)

def seqL (i : Nat) : Nat → List (Nat × Bool)
  | 0 => []
  | k + 1 => (i, false) :: seqL (i + 1) k
theorem seqL_map : ∀ (k i : Nat), (seqL i k).map (·.1) = List.range' i k
  | 0, i => rfl
  | k + 1, i => by simp only [seqL, List.map_cons, List.range'_succ, seqL_map k]

class KZ (sq : Bool) (Z S : Ents) : Prop where h : sq = false → List.Sublist Z S
instance kz_true {Z S : Ents} : KZ true Z S := ⟨fun h => by cases h⟩
instance kz_nil {sq : Bool} {S : Ents} : KZ sq [] S := ⟨fun _ => List.nil_sublist _⟩
instance kz_refl {sq : Bool} {S : Ents} : KZ sq S S := ⟨fun _ => List.Sublist.refl _⟩
instance (priority := low) kz_cons {sq : Bool} {Z S : Ents} {e : Ent} [i : KZ sq Z S] : KZ sq Z (e :: S) := ⟨fun h => .cons _ (i.h h)⟩
instance (priority := low) kz_app {sq : Bool} {Z S A : Ents} [i : KZ sq Z S] : KZ sq Z (A ++ S) := ⟨fun h => (i.h h).trans (List.sublist_append_right _ _)⟩
instance (priority := low) kz_both {sq : Bool} {Z S : Ents} {e : Ent} [i : KZ sq Z S] : KZ sq (e :: Z) (e :: S) := ⟨fun h => .cons_cons _ (i.h h)⟩

section
variable {P : Program} {E : Env} {fn n : Nat} {Q : Post} {K : Tm → List Deferred → Ents → Prop} {l : TL} {t : Tm} {ds : List Deferred} {S Z Zi : Ents} {ops : Array Oper} {i : Nat} {z : Bool} {rest : List (Nat × Bool)} {o : Oper} {sq : Bool}

theorem o_region {id : Nat} (h : OpF P E fn n ops true (seqL 0 ops.size) (Q .normal) t ds [] S) : WP P E fn n (.region id ops false) Q t ds S :=
  wp_region (by have := h.1 rfl; rwa [seqL_map, ← List.range_eq_range'] at this)
theorem o_drawn {id : Nat} (l : List (Nat × Bool)) (hm : P.follows .mixedOrders = true) (hf : full ops l = true) (h : OpF P E fn n ops false l (Q .normal) t ds S S) : WP P E fn n (.region id ops true) Q t ds S :=
  w_drawn l S hm hf (List.Sublist.refl _) (h.2 rfl)
/-- Z: what the operations that act leave as it is. -/
theorem o_drawnZ {id : Nat} (l : List (Nat × Bool)) (Z : Ents) (hm : P.follows .mixedOrders = true) (hf : full ops l = true) (hz : List.Sublist Z S) (h : OpF P E fn n ops false l (Q .normal) t ds Z S) : WP P E fn n (.region id ops true) Q t ds S :=
  w_drawn l Z hm hf hz (h.2 rfl)

theorem o_head0 (ho : ops[i]? = some o) (h : OpX P E fn n ops sq i false rest o K t ds S Z S) : OpF P E fn n ops sq ((i, false) :: rest) K t ds Z S := (h ho (fun _ => rfl) rfl).1
theorem o_head1 (ho : ops[i]? = some o) (h : OpX P E fn n ops false i true rest o K t ds Z Z S) : OpF P E fn n ops false ((i, true) :: rest) K t ds Z S := (h ho (fun h => by cases h) rfl).1
theorem o_end (h : K t ds S) : OpF P E fn n ops sq [] K t ds Z S := ⟨fun _ => ops_nil h, fun _ => y_end h⟩

theorem o_V {v : Value} (hact : isAct o.op = false) (hv : VOp P E n ops o t Zi v) (h : OpF P E fn n ops sq rest K (updo t o.dst v) ds Z S) : OpX P E fn n ops sq i z rest o K t ds Zi Z S := by
  refine fun ho hz hzi => ⟨⟨fun hs => ?_, fun hs => ?_⟩, fun _ ha => (by rw [hact] at ha; cases ha), fun hs _ _ => ⟨v, hv, h.2 hs⟩⟩
  · have hz' := hz hs
    subst hz'
    simp only [cond_false] at hzi
    subst hzi
    exact ops_exec ho (hv _ (List.Sublist.refl _)) fun u S' hu => by obtain ⟨rfl, rfl⟩ := hu; exact h.1 hs
  · exact y_V hact hv (h.2 hs) ho hzi

theorem o_A {R : Value → Ents → Prop} (hact : isAct o.op = true) (hx : Exec P E n ops o t S R) (h : ∀ v S', R v S' → ∃ Z', (sq = false → List.Sublist Z S → (z = false → List.Sublist Z Z') ∧ List.Sublist Z' S') ∧ OpF P E fn n ops sq rest K (updo t o.dst v) ds Z' S') : OpX P E fn n ops sq i z rest o K t ds Zi Z S := by
  refine fun ho hz hzi => ⟨⟨fun hs => ?_, fun hs => ?_⟩, fun hs _ hsub => ⟨R, hx, fun v S' hr => let ⟨Z', h1, h2⟩ := h v S' hr; ⟨Z', (h1 hs hsub).1, (h1 hs hsub).2, h2.2 hs⟩⟩, fun _ ha => (by rw [hact] at ha; cases ha)⟩
  · exact ops_exec ho hx fun u S' hu => let ⟨Z', _, hk⟩ := h u S' hu; hk.1 hs
  · refine fun B hB hc hsub => y_A hact hx (fun v S' hr => ?_) ho hzi B hB hc hsub
    obtain ⟨Z', h1, h2⟩ := h v S' hr
    exact ⟨Z', (h1 hs hsub).1, (h1 hs hsub).2, h2.2 hs⟩

/-! ### several acts ready at once -/

/-- What is still to be shown of l, whoever comes next. -/
def AnyF (P : Program) (E : Env) (n : Nat) (ops : Array Oper) (l : List (Nat × Bool)) (K : Tm → List Deferred → Ents → Prop) (t : Tm) (ds : List Deferred) (Z S : Ents) : Prop :=
  ∀ B : Nat → Prop, (∀ p ∈ l, ∀ o, ops[p.1]? = some o → isAct o.op = true → (B p.1 ↔ p.2 = true)) → List.Sublist Z S → Any P E n ops B (fun t S => K t ds S) Z (setOf l) t S

/-- Each ready operation with what follows it. -/
def brk (ops : Array Oper) (l : List (Nat × Bool)) (alts : List (Nat × List (Nat × Bool))) : Bool :=
  (match alts with | [] => false | _ => true) &&
  alts.all (fun a => mems l a.1 && (match ops[a.1]? with | some o => isAct o.op && o.after.all (fun e => !bnd e || !mems l e.on) | none => false) && !mems a.2 a.1 &&
    a.2.all (fun p => mems l p.1 && (!actAt ops p.1 || l.all fun q => !Nat.beq q.1 p.1 || (q.2 == p.2))) && l.all (fun p => Nat.beq p.1 a.1 || mems a.2 p.1)) &&
  l.all fun p => alts.any (fun a => Nat.beq a.1 p.1) || (match ops[p.1]? with | some ok => ok.after.any fun e => bnd e && mems l e.on | none => false)

theorem y_br {l : List (Nat × Bool)} (alts : List (Nat × List (Nat × Bool))) (hb : brk ops l alts = true)
    (h : ∀ a ∈ alts, ∃ o, ops[a.1]? = some o ∧ OpX P E fn n ops false a.1 false [] o (fun t ds S => AnyF P E n ops a.2 K t ds Z S) t ds S Z S) : AnyF P E n ops l K t ds Z S := by
  intro B hB hzs
  simp only [brk, Bool.and_eq_true, List.all_eq_true, Bool.or_eq_true] at hb
  obtain ⟨⟨h0, h1⟩, h2⟩ := hb
  have hready : ∀ a ∈ alts, Rdy ops (setOf l) a.1 := fun a ha => by
    obtain ⟨⟨⟨⟨k1, k2⟩, _⟩, _⟩, _⟩ := h1 a ha
    cases ho : ops[a.1]? with
    | none => rw [ho] at k2; cases k2
    | some o =>
      rw [ho] at k2
      simp only [Bool.and_eq_true, Array.all_eq_true_iff_forall_mem, Bool.or_eq_true, Bool.not_eq_true'] at k2
      refine ⟨k1, o, ho, fun e he hbn hx => ?_⟩
      rcases k2.2 e he with h | h
      · rw [hbn] at h; cases h
      · simp only [setOf] at hx; rw [h] at hx; cases hx
  refine .all ?_ fun j hj => ?_
  · cases alts with
    | nil => cases h0
    | cons a _ => exact ⟨a.1, hready a (.head _)⟩
  · obtain ⟨p, hp, hpj⟩ := mems_iff.1 hj.1
    have hin : ∃ a ∈ alts, a.1 = j := by
      rcases h2 p hp with h | h
      · obtain ⟨a, ha, hx⟩ := List.any_eq_true.1 h
        exact ⟨a, ha, (Nat.eq_of_beq_eq_true hx).trans hpj⟩
      · exfalso
        obtain ⟨_, o, ho, hall⟩ := hj
        rw [hpj, ho] at h
        simp only at h
        obtain ⟨e, he, hx⟩ := Array.any_eq_true'.1 h
        simp only [Bool.and_eq_true] at hx
        exact hall e he hx.1 hx.2
    obtain ⟨a, ha, rfl⟩ := hin
    obtain ⟨⟨⟨⟨k1, k2⟩, k3⟩, k5⟩, k6⟩ := h1 a ha
    obtain ⟨o, ho, hx⟩ := h a ha
    rw [ho] at k2
    simp only [Bool.and_eq_true] at k2
    obtain ⟨R, hexec, hR⟩ := (hx ho (fun _ => rfl) rfl).2.1 rfl k2.1 hzs
    refine ⟨o, ho, k2.1, R, hexec, fun v S' hr => ?_⟩
    obtain ⟨Z', z1, z2, hd⟩ := hR v S' hr
    have hzs' : List.Sublist Z S' := (z1 rfl).trans z2
    refine ⟨Z, fun _ => List.Sublist.refl _, hzs', ?_⟩
    have hset : without (setOf l) a.1 = setOf a.2 := by
      funext x
      refine propext ⟨fun ⟨y1, y2⟩ => ?_, fun y => ⟨?_, fun e => ?_⟩⟩
      · obtain ⟨p, hp, hpx⟩ := mems_iff.1 y1
        rcases k6 p hp with h | h
        · exact absurd ((Nat.eq_of_beq_eq_true h).symm.trans hpx).symm y2
        · exact hpx ▸ h
      · obtain ⟨p, hp, hpx⟩ := mems_iff.1 y
        exact hpx ▸ (k5 p hp).1
      · subst e
        simp only [setOf] at y
        simp only [Bool.not_eq_true'] at k3
        rw [y] at k3; cases k3
    rw [hset]
    have hK : AnyF P E n ops a.2 K (updo t o.dst v) ds Z S' := by
      have := hd (fun _ => False) (fun p hp => by cases hp) rfl z2
      rcases this.ready with ⟨_, hk⟩ | ⟨j, hj⟩
      · exact hk
      · exact absurd hj.1 (by simp [setOf, mems])
    refine hK B (fun p hp o' ho' hact => ?_) hzs'
    obtain ⟨q1, q2⟩ := k5 p hp
    obtain ⟨q, hq, hqp⟩ := mems_iff.1 q1
    have hB' := hB q hq o' (by rw [hqp]; exact ho') hact
    have hflag : q.2 = p.2 := by
      rcases q2 with q2 | q2
      · unfold actAt at q2
        rw [ho'] at q2
        simp [hact] at q2
      · rcases q2 q hq with h | h
        · simp [hqp] at h
        · simpa using h
    rw [← hqp, ← hflag]
    exact hB'

theorem o_br {l : List (Nat × Bool)} (h : AnyF P E n ops l K t ds Z S) : OpF P E fn n ops false l K t ds Z S := ⟨fun h => (by cases h), fun _ B hB _ hz => h B hB hz⟩
theorem anyF_of {l : List (Nat × Bool)} (hc : chk ops l = true) (h : OpF P E fn n ops false l K t ds Z S) : AnyF P E n ops l K t ds Z S := fun B hB hz => h.2 rfl B hB hc hz
theorem anyF_end (h : K t ds S) : AnyF P E n ops [] K t ds Z S := fun B _ _ => .done (fun j hj => by simp [setOf, mems] at hj) h
/-- A value first. -/
theorem anyF_v {o : Oper} (hc : (chk1 ops i z rest && !actAt ops i) = true) (ho : ops[i]? = some o) (h : OpX P E fn n ops false i z [] o (fun t ds S => AnyF P E n ops rest K t ds Z S) t ds (bif z then Z else S) Z S) : AnyF P E n ops ((i, z) :: rest) K t ds Z S := by
  intro B hB hzs
  simp only [Bool.and_eq_true, Bool.not_eq_true'] at hc
  have hact : isAct o.op = false := by have := hc.2; unfold actAt at this; rw [ho] at this; exact this
  obtain ⟨h1, h2, _, h4⟩ := chk1_spec hc.1 ho
  obtain ⟨v, hv, hd⟩ := (h ho (fun h => by cases h) rfl).2.2 rfl hact hzs
  have hK : AnyF P E n ops rest K (updo t o.dst v) ds Z S := by
    have := hd (fun _ => False) (fun p hp => by cases hp) rfl hzs
    rcases this.ready with ⟨_, hk⟩ | ⟨j, hj⟩
    · exact hk
    · exact absurd hj.1 (by simp [setOf, mems])
  refine .val h2 ho hact hv (by cases z <;> first | exact hzs | exact List.Sublist.refl _) (fun k ok hk hki hok => (h4 hact k ok hk hki hok).imp id fun hx => ⟨hx.1, fun hy => ?_⟩) ?_
  · obtain ⟨hz1, p, hp, hpk, hp2⟩ := hx.2 hy
    subst hpk
    subst hz1
    exact ⟨fun hb => (by have := (hB p (.tail _ hp) ok hok hy).1 hb; rw [hp2] at this; cases this), List.Sublist.refl _⟩
  · rw [setOf_cons h1]
    exact hK B (fun p hp => hB p (.tail _ hp)) hzs
/-- One is ready. -/
theorem o_br1 {l : List (Nat × Bool)} (i : Nat) (ri : List (Nat × Bool)) {oi : Oper} (hb : brk ops l [(i, ri)] = true) (hi : ops[i]? = some oi)
    (h1 : OpX P E fn n ops false i false [] oi (fun t ds S => AnyF P E n ops ri K t ds Z S) t ds S Z S) : AnyF P E n ops l K t ds Z S :=
  y_br [(i, ri)] hb fun a ha => by
    rcases List.mem_cons.1 ha with rfl | ha
    · exact ⟨oi, hi, h1⟩
    · cases ha
/-- Two are ready. -/
theorem o_br2 {l : List (Nat × Bool)} (i j : Nat) (ri rj : List (Nat × Bool)) {oi oj : Oper} (hb : brk ops l [(i, ri), (j, rj)] = true) (hi : ops[i]? = some oi) (hj : ops[j]? = some oj)
    (h1 : OpX P E fn n ops false i false [] oi (fun t ds S => AnyF P E n ops ri K t ds Z S) t ds S Z S) (h2 : OpX P E fn n ops false j false [] oj (fun t ds S => AnyF P E n ops rj K t ds Z S) t ds S Z S) : AnyF P E n ops l K t ds Z S :=
  y_br [(i, ri), (j, rj)] hb fun a ha => by
    rcases List.mem_cons.1 ha with rfl | ha
    · exact ⟨oi, hi, h1⟩
    · rcases List.mem_cons.1 ha with rfl | ha
      · exact ⟨oj, hj, h2⟩
      · cases ha

/-- A drawn region, whoever comes first. -/
def full0 (ops : Array Oper) (l : List (Nat × Bool)) : Bool :=
  chk ops [] && l.all (fun p => Nat.blt p.1 ops.size) && (List.range ops.size).all (mems l) && (ops.all fun o => o.after.all fun e => !bnd e || Nat.blt e.on ops.size) && l.all fun p => l.all fun q => !Nat.beq p.1 q.1 || (p.2 == q.2)
theorem o_drawnA {id : Nat} {Q : Post} (l : List (Nat × Bool)) (hm : P.follows .mixedOrders = true) (hf : full0 ops l = true) (h : AnyF P E n ops l (Q .normal) t ds S S) : WP P E fn n (.region id ops true) Q t ds S := by
  simp only [full0, Bool.and_eq_true, List.all_eq_true] at hf
  obtain ⟨⟨⟨⟨_, f2⟩, f3⟩, f4⟩, f5⟩ := hf
  refine w_drawn0 l (fun k => (k, true) ∈ l) hm f2 f3 f4 (h _ (fun p hp o ho ha => ⟨fun hm => ?_, fun hm => hm ▸ hp⟩) (List.Sublist.refl _))
  have := f5 p hp (p.1, true) hm
  simpa using this

/-! ### what quiet operations yield -/

def wantL (ops : Array Oper) (l : TL) (t : Tm) (g : Option (Nat × Bool)) : Option Bool :=
  match g with
  | none => some true
  | some (j, w) => match (ops[j]?).bind (·.dst) with
    | some d => match lk l t d with
      | some (.bool b) => some (bif w then b else !b)
      | some (.tuple _) => some false
      | _ => none
    | none => none

theorem wantL_ok {b : Bool} (h : wantL ops l t o.guard = some b) : wantB ops (den l t) o = b := by
  unfold wantL at h
  unfold wantB
  cases hg : o.guard with
  | none => simp only [hg, Option.some.injEq] at h; exact h
  | some p =>
    obtain ⟨j, w⟩ := p
    simp only [hg] at h ⊢
    cases hd : (ops[j]?).bind (·.dst) with
    | none => simp [hd] at h
    | some d =>
      simp only [hd] at h ⊢
      cases hl : lk l t d with
      | none => simp [hl] at h
      | some v =>
        rw [lk_eq hl]
        cases v <;> simp_all

/-- Forced: the first n, what follows them, and cells at an offset. -/
def tkO : Nat → List Value → Option (List Value)
  | 0, _ => some []
  | _ + 1, [] => none
  | n + 1, v :: l => match tkO n l with
    | some r => some (v :: r)
    | none => none
def ptO : Nat → Nat → List Value → Option (List Value)
  | 0, n, l => tkO n l
  | _ + 1, _, [] => none
  | k + 1, n, _ :: l => ptO k n l
def g1O : Nat → List Value → Option Value
  | 0, v :: _ => some v
  | k + 1, _ :: l => g1O k l
  | _, [] => none
theorem tkO_ok : ∀ {n : Nat} {l r : List Value}, tkO n l = some r → r = l.take n ∧ n ≤ l.length
  | 0, _, _, h => by cases h; simp
  | n + 1, [], _, h => by cases h
  | n + 1, v :: l, r, h => by
    simp only [tkO] at h
    cases h1 : tkO n l with
    | none => simp [h1] at h
    | some r' =>
      simp only [h1, Option.some.injEq] at h
      obtain ⟨h2, h3⟩ := tkO_ok h1
      subst h
      subst h2
      simp; omega
theorem ptO_ok : ∀ {k n : Nat} {l r : List Value}, ptO k n l = some r → r = (l.drop k).take n ∧ k + n ≤ l.length
  | 0, n, l, r, h => by have := tkO_ok h; simpa using this
  | k + 1, n, [], r, h => by cases h
  | k + 1, n, v :: l, r, h => by
    obtain ⟨h1, h2⟩ := ptO_ok (k := k) (l := l) h
    exact ⟨by simpa using h1, by simp only [List.length_cons]; omega⟩
theorem g1O_ok : ∀ {k : Nat} {l : List Value} {v : Value}, g1O k l = some v → l[k]? = some v
  | 0, [], _, h => by cases h
  | k + 1, [], _, h => by cases h
  | 0, v :: l, _, h => by cases h; rfl
  | k + 1, _ :: l, v, h => by simpa using g1O_ok (k := k) (l := l) h

theorem ext_list {c : Array Value} {k n : Nat} : (c.extract k (k + n)) = ((c.toList.drop k).take n).toArray := by
  apply Array.ext'
  simp

theorem bne_dec (a b : Int) : (a != b) = decide (a ≠ b) := by
  by_cases h : a = b <;> simp [h]
def pvI (k : IntKind) (op : BinOp) (a b : Int) : Option Value :=
  match op with
  | .eql => some (.bool (decide (a = b)))
  | .neq => some (.bool (decide (a ≠ b)))
  | .lss => some (.bool (decide (a < b)))
  | .leq => some (.bool (decide (a ≤ b)))
  | .gtr => some (.bool (decide (a > b)))
  | .geq => some (.bool (decide (a ≥ b)))
  | _ => none

def evPs (l : TL) (t : Tm) : List (Nat × Operand) → Option (List (Nat × Value))
  | [] => some []
  | (i, x) :: xs => match evL l t x, evPs l t xs with
    | some v, some vs => some ((i, v) :: vs)
    | _, _ => none
theorem evPs_eq : ∀ {xs : List (Nat × Operand)} {vs : List (Nat × Value)}, evPs l t xs = some vs → xs.map (fun p => (p.1, ev (den l t) p.2)) = vs
  | [], vs, h => Option.some.inj h
  | (i, x) :: xs, vs, h => by
    simp only [evPs] at h
    cases h1 : evL l t x with
    | none => simp [h1] at h
    | some v =>
      cases h2 : evPs l t xs with
      | none => simp [h1, h2] at h
      | some ws =>
        simp only [h1, h2, Option.some.injEq] at h
        subst h
        simp [evL_eq h1, evPs_eq h2]

def pvO (l : TL) (t : Tm) : Op → Option Value
  | .move x => evL l t x
  | .assign x => evL l t x
  | .pick c a b => match evL l t c with
    | some (.bool true) => evL l t a
    | some (.bool false) => evL l t b
    | _ => none
  | .unOp .not _ x => match evL l t x with
    | some (.bool b) => some (.bool (!b))
    | _ => none
  | .binOp op _ x y _ => match evL l t x, evL l t y with
    | some (.int k a), some (.int k' b) => bif decide (k = k') then pvI k op a b else none
    | _, _ => none
  | .extract x i => match evL l t x with
    | some (.tuple vs) => g1O i vs.toList
    | _ => none
  | .makeFunc fn xs ys => match evLs l t xs.toList, evLs l t ys.toList with
    | some us, some vs => some (.func fn us.toArray vs.toArray)
    | _, _ => none
  | .field s x f => match lk3 fpT s f, evL l t x with
    | some (true, off, sz), some (.agg cs) => match ptO off sz cs.toList with
      | some r => some (.agg r.toArray)
      | none => none
    | some (false, off, _), some (.agg cs) => g1O off cs.toList
    | _, _ => none
  | .nilCheck x => match evL l t x with
    | some (.pointer (some a)) => some (.pointer (some a))
    | some (.func (.func f) a b) => some (.func (.func f) a b)
    | some (.func (.yield f) a b) => some (.func (.yield f) a b)
    | _ => none
  | .call c => match c.callee, c.args.toList with
    | .builtin .len, [x] => match c.argTypes.toList with
      | [ty] => match lk1 slT ty, evL l t x with
        | some _, some (.slice _ n _) => some (.int .i64 (n : Int))
        | _, _ => none
      | _ => none
    | .builtin .cap, [x] => match c.argTypes.toList with
      | [ty] => match lk1 slT ty, evL l t x with
        | some _, some (.slice _ _ n) => some (.int .i64 (n : Int))
        | _, _ => none
      | _ => none
    | .builtin .min, [x, y] => match evL l t x, evL l t y with
      | some (.int k a), some (.int _ b) => some (.int k (min a b))
      | _, _ => none
    | .builtin .max, [x, y] => match evL l t x, evL l t y with
      | some (.int k a), some (.int _ b) => some (.int k (max a b))
      | _, _ => none
    | _, _ => none
  | _ => none

def pv (ops : Array Oper) (l : TL) (t : Tm) (op : Op) (g : Option (Nat × Bool)) : Option Value :=
  match wantL ops l t g with
  | some true => pvO l t op
  | some false => bif isAct op then none else some undef
  | none => none

theorem semH_of {α : Type} {s s' : Sem α} {m : Mode} {R : α → Ents → Prop} (e : s = s') (h : SemH P m s' S R) : SemH P m s S R := e ▸ h

theorem pvO_ok {m : Mode} {op : Op} {v : Value} {d : Option Tmp} {ty : TypeId} {pos : String} {af : Array Edge} {g : Option (Nat × Bool)} (h : pvO l t op = some v) :
    isAct op = false ∧ isDefer op = false ∧ isSel op = false ∧ OpH Tryz.prog m ⟨d, op, ty, pos, af, g⟩ (ev (den l t)) S fun u S' => u = v ∧ S' = S := by
  have fin : ∀ (u : Value), u = v → SemH Tryz.prog m (pure (Next.value u) : Sem Next) S fun nx S' => ∃ u, (nx = .value u ∨ (nx = .skip ∧ u = undef)) ∧ u = v ∧ S' = S := fun u hu => semH_pure ⟨u, .inl rfl, hu, rfl⟩
  cases op <;> simp only [pvO] at h <;> try (cases h; done)
  case move x => exact ⟨rfl, rfl, rfl, fin _ (evL_eq h)⟩
  case assign x => exact ⟨rfl, rfl, rfl, fin _ (evL_eq h)⟩
  case pick c a b =>
    refine ⟨rfl, rfl, rfl, ?_⟩
    split at h
    · rename_i hc
      exact op_pure (v := v) (by simp [pureVal, evL_eq hc, evL_eq h]) ⟨rfl, rfl⟩
    · rename_i hc
      exact op_pure (v := v) (by simp [pureVal, evL_eq hc, evL_eq h]) ⟨rfl, rfl⟩
    · cases h
  case unOp u uty x =>
    cases u <;> simp only at h <;> try (cases h; done)
    refine ⟨rfl, rfl, rfl, ?_⟩
    split at h
    · rename_i hc
      cases h
      exact op_pure (v := .bool _) (by simp [pureVal, evL_eq hc]) ⟨rfl, rfl⟩
    · cases h
  case binOp bop bty x y bty2 =>
    refine ⟨rfl, rfl, rfl, ?_⟩
    split at h
    · rename_i k a k' b hx hy
      by_cases hk : k = k'
      · subst hk
        simp only [decide_true, cond_true] at h
        refine op_int (evL_eq hx) (evL_eq hy) (v := v) ?_ ⟨rfl, rfl⟩
        revert h
        cases bop <;> simp only [pvI, intVal] <;> intro h <;> first | exact h | (cases h; done) | (rw [← h, bne_dec])
      · simp [hk] at h
    · cases h
  case extract x i =>
    refine ⟨rfl, rfl, rfl, ?_⟩
    split at h
    · rename_i vs hx
      refine op_pure (v := v) ?_ ⟨rfl, rfl⟩
      have := g1O_ok h
      simp only [pureVal, evL_eq hx]
      simpa using this
    · cases h
  case makeFunc fn' xs ys =>
    refine ⟨rfl, rfl, rfl, ?_⟩
    split at h
    · rename_i us vs h1 h2
      cases h
      refine op_pure ?_ ⟨rfl, rfl⟩
      have h1 := evLs_eq h1
      have h2 := evLs_eq h2
      simp only [pureVal]
      rw [← h1, ← h2]
      congr 2 <;> (apply Array.ext'; simp)
    · cases h
  case field s x f =>
    refine ⟨rfl, rfl, rfl, ?_⟩
    have key : ∀ {a : Bool} {off sz : Nat} {cs : Array Value}, lk3 fpT s f = some (a, off, sz) → evL l t x = some (.agg cs) →
        (bif a then (match ptO off sz cs.toList with | some r => some (Value.agg r.toArray) | none => none) else g1O off cs.toList) = some v → OpH Tryz.prog m ⟨d, .field s x f, ty, pos, af, g⟩ (ev (den l t)) S fun u S' => u = v ∧ S' = S := by
      intro a off sz cs hk hx hv
      have hf := fpT_ok hk
      unfold fpart at hf
      cases hu : Tryz.prog.underlying s with
      | none => simp [hu] at hf
      | some D =>
        cases D <;> simp only [hu] at hf <;> try (cases hf; done)
        rename_i fs
        cases hfs : fs[f]? with
        | none => simp [hfs] at hf
        | some y =>
          simp only [hfs] at hf
          cases ht : tyk Tryz.prog y.type with
          | none => simp [ht] at hf
          | some tk =>
            simp only [ht, Option.map_some, Option.some.injEq, Prod.mk.injEq] at hf
            obtain ⟨rfl, rfl, rfl⟩ := hf
            refine semH_bind (?_ : SemH Tryz.prog m (Instr.field s (ev (den l t) x) f) S _)
            rw [evL_eq hx]
            unfold Instr.field
            refine semH_bind (semH_underlying hu ?_)
            simp only [hfs]
            refine semH_bind (semH_pure ?_)
            unfold part
            refine semH_bind (semH_isAgg ht ?_)
            cases ha : tk.1 with
            | true =>
              simp only [ha, cond_true] at hv
              simp only [if_true]
              refine semH_bind (semH_sizeOf ht ?_)
              refine semH_pure (fin _ ?_)
              cases hp : ptO y.offset tk.2 cs.toList with
              | none => simp [hp] at hv
              | some r =>
                simp only [hp, Option.some.injEq] at hv
                rw [← hv, ext_list, (ptO_ok hp).1]
            | false =>
              simp only [ha, cond_false] at hv
              have := g1O_ok hv
              simp only [Array.getElem?_toList] at this
              simp only [Bool.false_eq_true, if_false, this]
              exact semH_pure (fin _ rfl)
    split at h
    · rename_i off sz cs hk hx
      exact key hk hx (by simpa using h)
    · rename_i off sz cs hk hx
      exact key hk hx (by simpa using h)
    · cases h
  case nilCheck x =>
    refine ⟨rfl, rfl, rfl, ?_⟩
    unfold OpH execOp
    split at h
    · rename_i a hx
      cases h
      simp only [evL_eq hx]
      exact fin _ rfl
    · rename_i f a b hx
      cases h
      simp only [evL_eq hx]
      exact fin _ rfl
    · rename_i f a b hx
      cases h
      simp only [evL_eq hx]
      exact fin _ rfl
    · cases h
  case call c =>
    obtain ⟨callee, args, ats⟩ := c
    have hargs : ∀ xs, args.toList = xs → args = xs.toArray := fun xs hx => by rw [← hx]
    simp only at h
    split at h
    · rename_i x ha
      rw [hargs _ ha]
      split at h
      · rename_i aty hat
        have : ats = #[aty] := by rw [show ats = ats.toList.toArray by simp, hat]
        subst this
        split at h
        · rename_i e a n cp hsl hx
          cases h
          exact ⟨rfl, rfl, rfl, op_len (slT_ok hsl) (evL_eq hx) ⟨rfl, rfl⟩⟩
        · cases h
      · cases h
    · rename_i x ha
      rw [hargs _ ha]
      split at h
      · rename_i aty hat
        have : ats = #[aty] := by rw [show ats = ats.toList.toArray by simp, hat]
        subst this
        split at h
        · rename_i e a n cp hsl hx
          cases h
          refine ⟨rfl, rfl, rfl, ?_⟩
          unfold OpH execOp
          simp only [resolve]
          refine semH_bind (semH_pure ?_)
          simp only [invoke, builtin]
          refine semH_bind ?_
          unfold Builtin.cap_
          simp only [List.map_toArray, List.map_cons, List.map_nil, evL_eq hx, List.getElem?_toArray, List.getElem?_cons_zero]
          refine semH_bind (semH_underlying (slT_ok hsl) ?_)
          exact semH_pure (fin _ rfl)
        · cases h
      · cases h
    · rename_i x y ha
      rw [hargs _ ha]
      split at h
      · rename_i k a k' b hx hy
        cases h
        refine ⟨rfl, rfl, rfl, ?_⟩
        unfold OpH execOp
        simp only [resolve]
        refine semH_bind (semH_pure ?_)
        simp only [invoke, builtin]
        refine semH_bind ?_
        unfold Builtin.min_
        simp only [List.map_toArray, List.map_cons, List.map_nil, evL_eq hx, evL_eq hy, List.foldlM_cons, List.foldlM_nil, Builtin.min2]
        refine semH_bind (semH_pure (semH_pure (fin _ ?_)))
        congr 1
        split <;> omega
      · cases h
    · rename_i x y ha
      rw [hargs _ ha]
      split at h
      · rename_i k a k' b hx hy
        cases h
        refine ⟨rfl, rfl, rfl, ?_⟩
        unfold OpH execOp
        simp only [resolve]
        refine semH_bind (semH_pure ?_)
        simp only [invoke, builtin]
        refine semH_bind ?_
        unfold Builtin.max_
        simp only [List.map_toArray, List.map_cons, List.map_nil, evL_eq hx, evL_eq hy, List.foldlM_cons, List.foldlM_nil, Builtin.max2]
        refine semH_bind (semH_pure (semH_pure (fin _ ?_)))
        congr 1
        split <;> omega
      · cases h
    · cases h

theorem pv_ok {op : Op} {v : Value} {d : Nat} {ty : TypeId} {pos : String} {af : Array Edge} {g : Option (Nat × Bool)} (hd : Nat.blt d n = true) (h : pv ops l t op g = some v) :
    isAct op = false ∧ VOp Tryz.prog E n ops ⟨some d, op, ty, pos, af, g⟩ (den l t) Zi v := by
  unfold pv at h
  split at h
  · rename_i hw
    have h1 := (pvO_ok (S := []) (m := E.m) (d := some d) (ty := ty) (pos := pos) (af := af) (g := g) h)
    exact ⟨h1.1, fun S hS => ⟨hd, .inr ⟨wantL_ok (o := ⟨some d, op, ty, pos, af, g⟩) hw, h1.2.1, h1.2.2.1, .inl (pvO_ok h).2.2.2⟩⟩⟩
  · rename_i hw
    cases ha : isAct op with
    | true => simp [ha] at h
    | false =>
      simp only [ha, cond_false, Option.some.injEq] at h
      exact ⟨rfl, fun S hS => ⟨hd, .inl ⟨wantL_ok (o := ⟨some d, op, ty, pos, af, g⟩) hw, h, rfl⟩⟩⟩
  · cases h

/-- The rule for quiet operations. -/
theorem o_v {op : Op} {v : Value} {d : Nat} {ty : TypeId} {pos : String} {af : Array Edge} {g : Option (Nat × Bool)} (h : pv ops l t op g = some v) (hd : Nat.blt d n = true)
    (k : OpF Tryz.prog E fn n ops sq rest K (den ((d, v) :: l) t) ds Z S) : OpX Tryz.prog E fn n ops sq i z rest ⟨some d, op, ty, pos, af, g⟩ K (den l t) ds Zi Z S :=
  let x := pv_ok (E := E) (Zi := Zi) (ty := ty) (pos := pos) (af := af) hd h
  o_V x.1 x.2 k
end
end Go.Proofs.YtpnnmklacialgaaGreat
namespace Go.Proofs.YtpnnmklacialgaaGreat
open Go.Conc

class Enc (α : Type) where
  sz : Nat
  enc : α → Array Value
  pos : 0 < sz
  size : ∀ x, (enc x).size = sz
  one : ∀ x, ∀ v ∈ (enc x).toList, v.oneCell' = true

instance : Enc Int := ⟨1, fun x => #[.int .i64 x], by decide, fun _ => rfl, fun x v h => by simp at h; subst h; rfl⟩

def IsRow {α : Type} [En : Enc α] (c : Array Value) (off : Nat) (xs : List α) : Prop :=
  ∀ i (h : i < xs.length) k, k < En.sz → c[off + i * En.sz + k]? = (En.enc xs[i])[k]?

section
variable {α : Type} [En : Enc α] {c : Array Value} {off : Nat} {xs ys : List α}

theorem IsRow.le (h : IsRow c off xs) : xs.length = 0 ∨ off + xs.length * En.sz ≤ c.size := by
  rcases Nat.eq_zero_or_pos xs.length with h0 | h0
  · exact .inl h0
  · right
    have hp := En.pos
    have h1 := h (xs.length - 1) (by omega) (En.sz - 1) (by omega)
    have h2 : (En.enc (xs[xs.length - 1]'(by omega)))[En.sz - 1]? ≠ none := by
      have := En.size (xs[xs.length - 1]'(by omega))
      simp; omega
    rw [← h1] at h2
    have h3 : off + (xs.length - 1) * En.sz + (En.sz - 1) < c.size := by
      rcases Nat.lt_or_ge (off + (xs.length - 1) * En.sz + (En.sz - 1)) c.size with h3 | h3
      · exact h3
      · exact absurd (Array.getElem?_eq_none h3) h2
    have h4 : (xs.length - 1) * En.sz + En.sz = xs.length * En.sz := by
      obtain ⟨k, hk⟩ : ∃ k, xs.length = k + 1 := ⟨xs.length - 1, by omega⟩
      rw [hk]; simp [Nat.add_mul]
    omega

theorem IsRow.ext (h : IsRow c off xs) {i : Nat} (hi : i < xs.length) : off + i * En.sz + En.sz ≤ c.size ∧ c.extract (off + i * En.sz) (off + i * En.sz + En.sz) = En.enc xs[i] := by
  have h0 : off + xs.length * En.sz ≤ c.size := h.le.resolve_left (by omega)
  have h1 : i * En.sz + En.sz ≤ xs.length * En.sz := by
    have := Nat.mul_le_mul_right En.sz (show i + 1 ≤ xs.length by omega)
    simpa [Nat.add_mul] using this
  refine ⟨by omega, ?_⟩
  apply Array.ext_getElem?
  intro k
  by_cases hk : k < En.sz
  · rw [← h i hi k hk, Array.getElem?_extract]
    rw [if_pos (by omega)]
  · rw [Array.getElem?_eq_none (by simp; omega), Array.getElem?_eq_none (by rw [En.size]; omega)]

theorem IsRow.get (h : IsRow c off xs) {i k : Nat} (hi : i < xs.length) {v : Value} (hv : g1O k (En.enc xs[i]).toList = some v) : c[off + i * En.sz + k]? = some v := by
  have h1 := g1O_ok hv
  simp only [Array.getElem?_toList] at h1
  have hk : k < En.sz := by
    rw [← En.size xs[i]]
    rcases Nat.lt_or_ge k (En.enc xs[i]).size with h2 | h2
    · exact h2
    · rw [Array.getElem?_eq_none h2] at h1; cases h1
  rw [h i hi k hk, h1]

theorem IsRow.part (h : IsRow c off xs) {i k n : Nat} (hi : i < xs.length) {r : List Value} (hv : ptO k n (En.enc xs[i]).toList = some r) : off + i * En.sz + k + n ≤ c.size ∧ c.extract (off + i * En.sz + k) (off + i * En.sz + k + n) = r.toArray := by
  obtain ⟨h1, h2⟩ := ptO_ok hv
  have h3 := h.ext hi
  simp only [Array.length_toList, En.size] at h2
  refine ⟨by omega, ?_⟩
  rw [h1, ← ext_list, ← h3.2]
  apply Array.ext_getElem?
  intro j
  rw [Array.getElem?_extract, Array.getElem?_extract]
  by_cases hj : j < n
  · rw [if_pos (by omega), if_pos (by simp; omega), Array.getElem?_extract, if_pos (by omega)]
    congr 1; omega
  · rw [if_neg (by omega), if_neg (by simp; omega)]

theorem IsRow.nil : IsRow c off ([] : List α) := fun i h => absurd h (by simp)

/-- The cells of a row, one after the other. -/
def rowL (xs : List α) : List Value := xs.flatMap fun x => (En.enc x).toList
theorem rowL_length : (rowL xs).length = xs.length * En.sz := by
  induction xs with
  | nil => simp [rowL]
  | cons x xs ih =>
    have : rowL (x :: xs) = (En.enc x).toList ++ rowL xs := by simp [rowL]
    rw [this, List.length_append, ih, List.length_cons, Array.length_toList, En.size, Nat.add_mul, Nat.one_mul, Nat.add_comm]
theorem rowL_one : ((rowL xs).all (·.oneCell')) = true := by
  rw [List.all_eq_true]
  intro v hv
  simp only [rowL, List.mem_flatMap] at hv
  obtain ⟨x, _, h⟩ := hv
  exact En.one x v h
theorem rowL_get : ∀ {xs : List α} {i : Nat} (h : i < xs.length) {k : Nat}, k < En.sz → (rowL xs)[i * En.sz + k]? = (En.enc xs[i])[k]?
  | [], i, h, k, hk => absurd h (by simp)
  | x :: xs, 0, h, k, hk => by
    have : rowL (x :: xs) = (En.enc x).toList ++ rowL xs := by simp [rowL]
    rw [this, Nat.zero_mul, Nat.zero_add, List.getElem?_append_left (by rw [Array.length_toList, En.size]; exact hk)]
    simp
  | x :: xs, i + 1, h, k, hk => by
    have e : rowL (x :: xs) = (En.enc x).toList ++ rowL xs := by simp [rowL]
    have h1 : i < xs.length := by simpa using h
    have h2 := rowL_get h1 hk
    have h3 : (i + 1) * En.sz = En.sz + i * En.sz := by rw [Nat.add_mul, Nat.one_mul, Nat.add_comm]
    rw [e, List.getElem?_append_right (by rw [Array.length_toList, En.size]; omega), Array.length_toList, En.size, h3, show En.sz + i * En.sz + k - En.sz = i * En.sz + k by omega, h2]
    simp
theorem IsRow.rowL (h : IsRow c off xs) : c.extract off (off + xs.length * En.sz) = (Go.Proofs.YtpnnmklacialgaaGreat.rowL xs).toArray := by
  apply Array.ext_getElem?
  intro j
  rcases h.le with h0 | h0
  · have : xs = [] := List.length_eq_zero_iff.1 h0
    subst this
    simp [Go.Proofs.YtpnnmklacialgaaGreat.rowL]
    try omega
  · by_cases hj : j < xs.length * En.sz
    · have hp := En.pos
      have hi : j / En.sz < xs.length := Nat.div_lt_of_lt_mul (by rw [Nat.mul_comm]; exact hj)
      have hm : j % En.sz < En.sz := Nat.mod_lt _ hp
      have hd : j / En.sz * En.sz + j % En.sz = j := by rw [Nat.mul_comm]; exact Nat.div_add_mod j En.sz
      have h1 := rowL_get hi hm
      have h2 := h _ hi _ hm
      rw [hd] at h1
      rw [Nat.add_assoc, hd] at h2
      rw [Array.getElem?_extract, if_pos (by omega), h2]
      simp only [List.getElem?_toArray]
      exact h1.symm
    · rw [Array.getElem?_eq_none (by simp; omega), Array.getElem?_eq_none (by simp [rowL_length]; omega)]
theorem isRow_of {l : List Value} {r : List Value} (hc : c.toList = l ++ Go.Proofs.YtpnnmklacialgaaGreat.rowL xs ++ r) : IsRow c l.length xs := by
  intro i h k hk
  have h1 := rowL_get h hk
  have hlt : i * En.sz + k < (Go.Proofs.YtpnnmklacialgaaGreat.rowL xs).length := by
    rw [rowL_length]
    have := Nat.mul_le_mul_right En.sz (show i + 1 ≤ xs.length by omega)
    rw [Nat.add_mul, Nat.one_mul] at this
    omega
  rw [← Array.getElem?_toList, hc, List.append_assoc, List.getElem?_append_right (by omega), List.getElem?_append_left (by omega), ← h1]
  congr 1; omega
theorem rowL_append : Go.Proofs.YtpnnmklacialgaaGreat.rowL (xs ++ ys) = Go.Proofs.YtpnnmklacialgaaGreat.rowL xs ++ Go.Proofs.YtpnnmklacialgaaGreat.rowL ys := by simp [Go.Proofs.YtpnnmklacialgaaGreat.rowL]
end

/-- A row in block b. -/
def Rw {α : Type} [En : Enc α] (S : Ents) (b off : Nat) (xs : List α) : Prop := ∃ mn c ty fz, (⟨b, mn, .cells c ty fz⟩ : Ent) ∈ S ∧ IsRow c off xs
theorem Rw.sub {α : Type} [En : Enc α] {S S' : Ents} {b off : Nat} {xs : List α} (h : Rw S b off xs) (hs : List.Sublist S S') : Rw S' b off xs := by
  obtain ⟨mn, c, ty, fz, h1, h2⟩ := h
  exact ⟨mn, c, ty, fz, hs.subset h1, h2⟩
class RowI (S : Ents) (b : Nat) (off : Nat) (α : outParam Type) (En : outParam (Enc α)) (xs : outParam (List α)) : Prop where h : 0 < xs.length → @Rw α En S b off xs
instance (priority := low) rowI_cons {S : Ents} {b : Nat} {α : Type} {En : Enc α} {off : Nat} {xs : List α} {e : Ent} [i : RowI S b off α En xs] : RowI (e :: S) b off α En xs := ⟨fun h => (i.h h).sub (.cons _ (List.Sublist.refl _))⟩
instance (priority := low) rowI_app {S A : Ents} {b : Nat} {α : Type} {En : Enc α} {off : Nat} {xs : List α} [i : RowI S b off α En xs] : RowI (A ++ S) b off α En xs := ⟨fun h => (i.h h).sub (List.sublist_append_right _ _)⟩
instance (priority := low) rowI_app' {S A : Ents} {b : Nat} {α : Type} {En : Enc α} {off : Nat} {xs : List α} [i : RowI A b off α En xs] : RowI (A ++ S) b off α En xs := ⟨fun h => (i.h h).sub (List.sublist_append_left _ _)⟩
@[reducible] def blkA (a : Option Addr) : Nat := match a with | some x => x.block | none => 0
@[reducible] def offA (a : Option Addr) : Nat := match a with | some x => x.off | none => 0
instance (priority := low) inS_app {b : Nat} {S A : Ents} {mn : Bool} {o : Obj} [i : InS b S mn o] : InS b (A ++ S) mn o := ⟨List.mem_append_right _ i.h⟩
instance (priority := low) ownS_app {b : Nat} {S A : Ents} {o : Obj} {re : Obj → Ents} [i : OwnS b S o re] : OwnS b (A ++ S) o fun o' => A ++ re o' := ⟨fun o' => by
  induction A with
  | nil => exact i.h o'
  | cons a A ih => exact .there ih⟩

/-- A slice at a holds xs. -/
def SlA {α : Type} [En : Enc α] (S : Ents) (a : Option Addr) (xs : List α) : Prop := 0 < xs.length → a = some ⟨blkA a, offA a, none⟩ ∧ Rw S (blkA a) (offA a) xs
theorem SlA.sub {α : Type} [En : Enc α] {S S' : Ents} {a : Option Addr} {xs : List α} (h : SlA S a xs) (hs : List.Sublist S S') : SlA S' a xs := fun h0 => ⟨(h h0).1, (h h0).2.sub hs⟩
class SlI (S : Ents) (a : Option Addr) (α : outParam Type) (En : outParam (Enc α)) (xs : outParam (List α)) : Prop where h : @SlA α En S a xs
instance (priority := low) slI_cons {S : Ents} {a : Option Addr} {α : Type} {En : Enc α} {xs : List α} {e : Ent} [i : SlI S a α En xs] : SlI (e :: S) a α En xs := ⟨i.h.sub (.cons _ (List.Sublist.refl _))⟩
instance (priority := low) slI_app {S A : Ents} {a : Option Addr} {α : Type} {En : Enc α} {xs : List α} [i : SlI S a α En xs] : SlI (A ++ S) a α En xs := ⟨i.h.sub (List.sublist_append_right _ _)⟩
instance (priority := low) slI_app' {S A : Ents} {a : Option Addr} {α : Type} {En : Enc α} {xs : List α} [i : SlI A a α En xs] : SlI (A ++ S) a α En xs := ⟨i.h.sub (List.sublist_append_left _ _)⟩
instance slI_row {S : Ents} {a : Option Addr} {α : Type} {En : Enc α} {xs : List α} [i : SlI S a α En xs] : RowI S (blkA a) (offA a) α En xs := ⟨fun h => (i.h h).2⟩

/-- v is a slice of xs. -/
def SlV {α : Type} [En : Enc α] (S : Ents) (v : Value) (xs : List α) : Prop := ∃ a cap, v = .slice a xs.length cap ∧ xs.length ≤ cap ∧ SlA S a xs
theorem SlV.sub {α : Type} [En : Enc α] {S S' : Ents} {v : Value} {xs : List α} (h : SlV S v xs) (hs : List.Sublist S S') : SlV S' v xs := by
  obtain ⟨a, cap, h1, h2, h3⟩ := h
  exact ⟨a, cap, h1, h2, h3.sub hs⟩
theorem SlV.app {α : Type} [En : Enc α] {S A : Ents} {v : Value} {xs : List α} (h : SlV S v xs) : SlV (A ++ S) v xs := h.sub (List.sublist_append_right _ _)
theorem SlV.cons {α : Type} [En : Enc α] {S : Ents} {e : Ent} {v : Value} {xs : List α} (h : SlV S v xs) : SlV (e :: S) v xs := h.sub (.cons _ (List.Sublist.refl _))

/-- v is a slice of xs from its block's beginning, which is mine and nobody else's: Δ. -/
inductive Own {α : Type} [En : Enc α] : Value → List α → Ents → Prop
  | nil : Own (.slice none 0 0) [] []
  | some {b cap : Nat} {c : Array Value} {ty : TypeId} {xs : List α} : IsRow c 0 xs → c.size = cap * En.sz → xs.length ≤ cap → Own (.slice (some ⟨b, 0, none⟩) xs.length cap) xs [⟨b, true, .cells c ty (0, 0)⟩]
theorem Own.slv {α : Type} [En : Enc α] {v : Value} {xs : List α} {Δ : Ents} (h : Own v xs Δ) : SlV Δ v xs := by
  cases h with
  | nil => exact ⟨none, 0, rfl, Nat.le_refl _, fun h => absurd h (by simp)⟩
  | some h1 h2 h3 => exact ⟨_, _, rfl, h3, fun _ => ⟨rfl, true, _, _, _, .head _, h1⟩⟩
theorem Own.slvS {α : Type} [En : Enc α] {v : Value} {xs : List α} {Δ S : Ents} (h : Own v xs Δ) : SlV (Δ ++ S) v xs := h.slv.sub (List.sublist_append_left _ _)

/-- Δ taken out of S leaves rest. -/
class FrS (Δ S : Ents) (rest : outParam Ents) : Prop where h : S.Perm (Δ ++ rest)
instance frS_nil {S : Ents} : FrS [] S S := ⟨List.Perm.refl _⟩
instance frS_app {Δ S : Ents} : FrS Δ (Δ ++ S) S := ⟨List.Perm.refl _⟩
instance frS_one {e : Ent} {S : Ents} : FrS [e] (e :: S) S := ⟨List.Perm.refl _⟩
instance (priority := low) frS_cons {Δ S R : Ents} {e : Ent} [i : FrS Δ S R] : FrS Δ (e :: S) (e :: R) := ⟨(List.Perm.cons e i.h).trans List.perm_middle.symm⟩
instance (priority := low) frS_app' {Δ S R A : Ents} [i : FrS Δ S R] : FrS Δ (A ++ S) (A ++ R) := ⟨by
  refine (List.Perm.append_left A i.h).trans ?_
  rw [← List.append_assoc, ← List.append_assoc]
  exact List.Perm.append_right R List.perm_append_comm⟩

theorem semH_perm {P : Program} {m : Mode} {α : Type} {s : Sem α} {S S' : Ents} {R : α → Ents → Prop} (h : SemH P m s S' R) (hs : S.Perm S') : SemH P m s S R :=
  fun F O w₀ w es hb hh he => h F O w₀ w es hb (hh.perm (hs.append_right F)) he

/-! ### append, make -/

def eb (P : Program) (e : Nat) : Option (Nat × Nat) := (P.info? e).map fun i => (i.size, i.bytes)
class Eb (e : Nat) (sz by' : outParam Nat) : Prop where h : eb Tryz.prog e = some (sz, by') ∧ 0 < by' ∧ by' ≤ 1000

section
variable {P : Program} {m : Mode} {S : Ents} {α : Type} [En : Enc α]

theorem semH_sizeOf' {e sz by' : Nat} {R : Nat → Ents → Prop} (he : eb P e = some (sz, by')) (h : R sz S) : SemH P m (sizeOf e) S R := by
  unfold eb at he
  cases hi : P.info? e with
  | none => simp [hi] at he
  | some i =>
    simp only [hi, Option.map_some, Option.some.injEq, Prod.mk.injEq] at he
    unfold sizeOf
    exact semH_bind (semH_typeInfo hi (semH_pure (he.1 ▸ h)))

theorem semH_bytes {e sz by' : Nat} {β : Type} {f : TypeInfo → Sem β} {R : β → Ents → Prop} (he : eb P e = some (sz, by')) (h : ∀ i : TypeInfo, i.bytes = by' → SemH P m (f i) S R) : SemH P m (typeInfo e >>= f) S R := by
  unfold eb at he
  cases hi : P.info? e with
  | none => simp [hi] at he
  | some i =>
    simp only [hi, Option.map_some, Option.some.injEq, Prod.mk.injEq] at he
    exact semH_bind (semH_typeInfo hi (h i he.2))

theorem semH_row {v : Value} {xs : List α} {sz : Nat} {R : Array Value → Ents → Prop} (hsz : En.sz = sz) (hv : SlV S v xs) (h : R (rowL xs).toArray S) : SemH P m (Builtin.firstCells sz xs.length v) S R := by
  subst hsz
  obtain ⟨a, cap, rfl, _, hr⟩ := hv
  cases a with
  | none =>
    have : xs = [] := by
      cases xs with
      | nil => rfl
      | cons x xs => have := (hr (by simp)).1; cases this
    subst this
    exact semH_pure (by simpa [rowL] using h)
  | some a =>
    unfold Builtin.firstCells
    rcases Nat.eq_zero_or_pos xs.length with h0 | h0
    · have : xs = [] := List.length_eq_zero_iff.1 h0
      subst this
      simp only [List.length_nil, Nat.zero_mul]
      unfold loadCells
      exact semH_pure (by simpa [rowL] using h)
    · obtain ⟨e, mn, c, ty, fz, hm, hrow⟩ := hr h0
      obtain ⟨ab, ao, asp⟩ := a
      simp only [blkA, offA, Option.some.injEq, Addr.mk.injEq, true_and] at e
      subst e
      simp only [blkA, offA] at hm hrow
      refine semH_loadCells hm _ 0 #[] (by have := hrow.le; omega) ?_
      rw [Nat.add_zero, hrow.rowL]
      simpa using h

theorem growBy_le (need : Nat) : ∀ (r c : Nat), c ≤ need + need / 4 + 192 → Builtin.growBy need r c ≤ need + need / 4 + 192
  | 0, c, h => h
  | r + 1, c, h => by
    unfold Builtin.growBy
    split
    · exact h
    · exact growBy_le need r _ (by omega)
theorem nextslicecap_le {need cap : Nat} (h : cap < need) : Builtin.nextslicecap need cap ≤ need + need / 4 + 1000 := by
  unfold Builtin.nextslicecap
  split
  · omega
  · split
    · omega
    · have := growBy_le need 4 cap (by omega)
      omega
theorem cap_room {need cap by' : Nat} (h : cap < need) (hb : by' ≤ 1000) (hn : need * by' ≤ 140737488355328) : Builtin.nextslicecap need cap * by' ≤ 2 ^ 48 := by
  have h1 := nextslicecap_le h
  have h2 : Builtin.nextslicecap need cap * by' ≤ (need + need / 4 + 1000) * by' := Nat.mul_le_mul_right _ h1
  have h3 : 4 * (need / 4) * by' ≤ need * by' := Nat.mul_le_mul_right _ (by omega)
  have h4 : (need + need / 4 + 1000) * by' = need * by' + need / 4 * by' + 1000 * by' := by rw [Nat.add_mul, Nat.add_mul]
  have h5 : 4 * (need / 4) * by' = 4 * (need / 4 * by') := Nat.mul_assoc ..
  have e : (2 : Nat) ^ 48 = 281474976710656 := by decide
  rw [e]
  omega
theorem need_fits {need by' : Nat} (hb : 0 < by') (hn : need * by' ≤ 140737488355328) : need ≤ 140737488355328 := Nat.le_trans (Nat.le_mul_of_pos_right _ hb) hn

theorem isRow_set {c : Array Value} {xs ys : List α} (h : IsRow c 0 xs) (hs : (xs.length + ys.length) * En.sz ≤ c.size) : IsRow (setCells c (xs.length * En.sz) (rowL ys)) 0 (xs ++ ys) := by
  intro i hi k hk
  have hm : i * En.sz + k < (i + 1) * En.sz := by rw [Nat.add_mul, Nat.one_mul]; omega
  have hm2 : (i + 1) * En.sz ≤ (xs ++ ys).length * En.sz := Nat.mul_le_mul_right _ hi
  rw [List.length_append] at hm2 hi
  rw [setCells_get, rowL_length, ← Nat.add_mul]
  by_cases h1 : i < xs.length
  · have h2 : (i + 1) * En.sz ≤ xs.length * En.sz := Nat.mul_le_mul_right _ h1
    rw [if_neg (by omega), h i h1 k hk]
    simp [List.getElem_append_left h1]
  · have h2 : xs.length * En.sz ≤ i * En.sz := Nat.mul_le_mul_right _ (by omega)
    rw [if_pos (by omega)]
    have h3 : 0 + i * En.sz + k - xs.length * En.sz = (i - xs.length) * En.sz + k := by rw [Nat.sub_mul]; omega
    rw [h3, rowL_get (by omega) hk]
    simp [List.getElem_append_right (Nat.le_of_not_lt h1)]

theorem op_append {ρ : Operand → Value} {d : Option Tmp} {ty sT xT e e2 sz by' : Nat} {pos : String} {af : Array Edge} {g : Option (Nat × Bool)} {x y : Operand} {xs ys : List α} {Δ rest : Ents} {v w : Value} {R : Value → Ents → Prop}
    (hs : P.underlying sT = some (.slice e)) (hs2 : P.underlying xT = some (.slice e2)) (he : eb P e = some (sz, by') ∧ 0 < by' ∧ by' ≤ 1000) (hz : (zeroOf P e).map (·.size) = some sz) (hsz : En.sz = sz) (hx : ρ x = v) (hy : ρ y = w) (hv : Own v xs Δ) [fr : FrS Δ S rest] (hw : SlV rest w ys)
    (hlen : (xs.length + ys.length) * by' ≤ 140737488355328) (h : ∀ v' Δ', Own v' (xs ++ ys) Δ' → R v' (Δ' ++ rest)) :
    OpH P m ⟨d, .call { callee := .builtin .append, args := #[x, y], argTypes := #[sT, xT] }, ty, pos, af, g⟩ ρ S R := by
  subst hsz
  refine semH_perm ?_ fr.h
  obtain ⟨he, hb1, hb2⟩ := he
  have hpos := En.pos
  have hwl : ∃ a cap, w = .slice a ys.length cap := let ⟨a, cap, h1, _⟩ := hw; ⟨a, cap, h1⟩
  obtain ⟨wa, wc, hwe⟩ := hwl
  have hlenOf : Builtin.lenOf w = pure ys.length := by rw [hwe]; rfl
  have hvl : ∃ a cap, v = .slice a xs.length cap ∧ xs.length ≤ cap := let ⟨a, cap, h1, h2, _⟩ := hv.slv; ⟨a, cap, h1, h2⟩
  obtain ⟨va, vc, hve, hvc⟩ := hvl
  unfold execOp
  simp only [resolve]
  refine semH_bind (semH_pure ?_)
  simp only [invoke, builtin]
  refine semH_bind ?_
  unfold Builtin.append_
  simp only [List.map_toArray, List.map_cons, List.map_nil, hx, hy, List.getElem?_toArray, List.getElem?_cons_zero, List.getElem?_cons_succ]
  refine semH_bind (semH_underlying hs ?_)
  simp only [hve]
  refine semH_bind (semH_sizeOf' he ?_)
  refine semH_bind (semH_underlying hs2 ?_)
  refine semH_bind (semH_pure ?_)
  simp only [Bool.false_eq_true, if_false, Bool.not_false, if_true, false_or]
  rw [hlenOf]
  refine semH_bind (semH_pure ?_)
  have hws : SlV (Δ ++ rest) w ys := hw.app
  by_cases hroom : xs.length + ys.length ≤ vc
  · rw [if_pos hroom]
    refine semH_bind (semH_row rfl hws ?_)
    cases hv with
    | nil =>
      cases hve
      have hy0 : ys = [] := by simpa using hroom
      subst hy0
      refine semH_bind (semH_pure (semH_pure (semH_pure ⟨_, .inl rfl, ?_⟩)))
      exact h _ [] .nil
    | @some b cap c ty xs h1 h2 h3 =>
      cases hve
      have hsz : (xs.length + ys.length) * En.sz ≤ c.size := by rw [h2]; exact Nat.mul_le_mul_right _ hroom
      have e : (⟨b, 0, none⟩ : Addr).add (xs.length * En.sz) = ⟨b, xs.length * En.sz, none⟩ := by rw [add_mk, Nat.zero_add]
      have hsz' : xs.length * En.sz + 0 + (rowL ys).length ≤ c.size := by rw [rowL_length, Nat.add_zero, ← Nat.add_mul]; exact hsz
      simp only [e]
      have hu : Upd ([⟨b, true, .cells c ty (0, 0)⟩] ++ rest) b (.cells c ty (0, 0)) (.cells (setCells c (xs.length * En.sz + 0) (rowL ys)) ty (0, 0)) (⟨b, true, .cells (setCells c (xs.length * En.sz) (rowL ys)) ty (0, 0)⟩ :: rest) := .here
      refine semH_bind (semH_storeCells (rowL ys) 0 rowL_one hsz' hu (semH_pure (semH_pure ⟨_, .inl rfl, ?_⟩)))
      have hk := h _ _ (.some (b := b) (ty := ty) (cap := vc) (isRow_set h1 hsz) (by rw [setCells_size 0]; exact h2) (by rw [List.length_append]; exact hroom))
      rw [List.length_append] at hk
      exact hk
  · rw [if_neg hroom]
    have hbig : Builtin.nextslicecap (xs.length + ys.length) vc * by' ≤ 2 ^ 48 := cap_room (by omega) hb2 hlen
    have hfit := need_fits hb1 hlen
    refine semH_bytes he fun i hi => ?_
    rw [if_neg (by rw [hi]; rintro ⟨hh, _⟩; revert hh; simp only [IntKind.max]; intro hh; have : ((xs.length + ys.length : Nat) : Int) ≤ 140737488355328 := by omega
                   revert hh this; generalize ((xs.length + ys.length : Nat) : Int) = z; intro hh hz; simp [IntKind.signed, IntKind.bits] at hh; omega)]
    refine semH_bytes he fun i2 hi2 => ?_
    rw [if_neg (by rw [hi2]; omega)]
    refine semH_bind (semH_choose fun n => ?_)
    obtain ⟨newCap, hnc, hge⟩ : ∃ nc, (if (Question.appendCap (xs.length + ys.length) vc e).forced = true then 0 else (Question.appendCap (xs.length + ys.length) vc e).cut n) = nc ∧ xs.length + ys.length ≤ nc := ⟨_, rfl, by
      simp only [Question.forced, Bool.false_eq_true, if_false, Question.cut]; omega⟩
    rw [hnc]
    refine semH_bytes he fun i3 hi3 => ?_
    have hask : ∀ {R' : Unit → Ents → Prop} {S : Ents} {k : Nat}, R' () S → SemH P m (askRoom k) S R' := fun hR => by
      unfold askRoom
      refine semH_ite (fun _ => semH_mark (.inl rfl) hR) fun _ => semH_pure hR
    refine semH_bind (hask ?_)
    have hvs : SlV (Δ ++ rest) (.slice va xs.length vc) xs := by rw [← hve]; exact hv.slvS
    refine semH_bind (semH_row rfl hvs ?_)
    refine semH_bind (semH_row rfl hws ?_)
    unfold zeroOf at hz
    cases hzi : (P.info? e).bind (·.zero) with
    | none => simp [hzi] at hz
    | some z =>
      have hz' : zeroOf P e = some z.cells := by unfold zeroOf; rw [hzi]; rfl
      simp only [hzi, Option.map_some, Option.some.injEq] at hz
      refine semH_bind (semH_zero hz' fun z' hz2 => ?_)
      unfold newRow
      refine semH_bind (semH_bind (semH_new fun b => semH_pure (semH_pure ?_)))
      have hzs : z'.cells.size = En.sz := by rw [hz2]; exact hz
      generalize hcells : ((rowL xs).toArray ++ (rowL ys).toArray ++ Builtin.zeroCells z'.cells (newCap - (xs.length + ys.length))) = c
      have hcs : c.size = newCap * En.sz := by
        rw [← hcells]
        simp only [Array.size_append, List.size_toArray, rowL_length, Builtin.zeroCells, Array.size_map, Array.size_range, hzs]
        rw [← Nat.add_mul, ← Nat.add_mul]
        congr 1; omega
      have hrow : IsRow c 0 (xs ++ ys) := by
        refine isRow_of (l := []) (r := (Builtin.zeroCells z'.cells (newCap - (xs.length + ys.length))).toList) ?_
        rw [← hcells, rowL_append]
        simp
      have hk := h (.slice (some ⟨b, 0, none⟩) (xs ++ ys).length newCap) _ (.some (b := b) (ty := e) hrow hcs (by rw [List.length_append]; exact hge))
      rw [List.length_append] at hk
      refine semH_drop (S' := [⟨b, true, .cells c e (0, 0)⟩] ++ rest) (semH_pure ⟨_, .inl rfl, hk⟩) ?_
      exact List.Sublist.cons_cons _ (List.sublist_append_right _ _)
end
end Go.Proofs.YtpnnmklacialgaaGreat
namespace Go.Proofs.YtpnnmklacialgaaGreat
open Go.Conc

section
variable {E : Env} {fn n : Nat} {Q : Post} {K : Tm → List Deferred → Ents → Prop} {l : TL} {t : Tm} {ds : List Deferred} {S Z Zi : Ents} {ops : Array Oper} {i : Nat} {z : Bool} {rest : List (Nat × Bool)} {sq : Bool}
variable {d : Nat} {ty : TypeId} {pos : String} {af : Array Edge} {g : Option (Nat × Bool)}

theorem vop_of {op : Op} {v : Value} (hw : wantL ops l t g = some true) (hd : Nat.blt d n = true) (hdf : isDefer op = false) (hsel : isSel op = false)
    (h : ∀ S, List.Sublist Zi S → OpH Tryz.prog E.m ⟨some d, op, ty, pos, af, g⟩ (ev (den l t)) S fun u S' => u = v ∧ S' = S) : VOp Tryz.prog E n ops ⟨some d, op, ty, pos, af, g⟩ (den l t) Zi v :=
  fun S hS => ⟨hd, .inr ⟨wantL_ok (o := ⟨some d, op, ty, pos, af, g⟩) hw, hdf, hsel, .inl (h S hS)⟩⟩

/-- What a load of s cells (a: an aggregate) at k yields. -/
def rdv (a : Bool) (k s : Nat) (c : List Value) : Option Value :=
  match a with
  | true => match ptO k s c with
    | some r => some (.agg r.toArray)
    | none => none
  | false => g1O k c

theorem o_load {ty' s off b : Nat} {a : Bool} {x : Operand} {mn : Bool} {c : Array Value} {tb : TypeId} {fz : Nat × Nat} {v : Value} (hw : wantL ops l t g = some true) (hd : Nat.blt d n = true) [hk : Tyk ty' (a, s)]
    (hx : evL l t x = some (.pointer (some ⟨b, off, none⟩))) [he : InS b Zi mn (.cells c tb fz)] (hv : rdv a off s c.toList = some v)
    (h : OpF Tryz.prog E fn n ops sq rest K (den ((d, v) :: l) t) ds Z S) : OpX Tryz.prog E fn n ops sq i z rest ⟨some d, .load ty' x, ty, pos, af, g⟩ K (den l t) ds Zi Z S := by
  refine o_V rfl (vop_of hw hd rfl rfl fun S hS => ?_) h
  cases a with
  | true =>
    simp only [rdv] at hv
    cases hp : ptO off s c.toList with
    | none => simp [hp] at hv
    | some r =>
      simp only [hp, Option.some.injEq] at hv
      subst hv
      obtain ⟨h1, h2⟩ := ptO_ok hp
      exact op_loadA hk.h (evL_eq hx) (hS.subset he.h) (by simpa using h2) (by rw [ext_list, h1]) ⟨rfl, rfl⟩
  | false =>
    have := g1O_ok hv
    exact op_load1 hk.h (evL_eq hx) (hS.subset he.h) (by simpa using this) ⟨rfl, rfl⟩

/-- A whole box. -/
theorem o_loadW {ty' s b : Nat} {x : Operand} {mn : Bool} {c : Array Value} {tb : TypeId} {fz : Nat × Nat} (hw : wantL ops l t g = some true) (hd : Nat.blt d n = true) [hk : Tyk ty' (true, s)]
    (hx : evL l t x = some (.pointer (some ⟨b, 0, none⟩))) [he : InS b Zi mn (.cells c tb fz)] (hv : c.size = s)
    (h : OpF Tryz.prog E fn n ops sq rest K (den ((d, .agg c) :: l) t) ds Z S) : OpX Tryz.prog E fn n ops sq i z rest ⟨some d, .load ty' x, ty, pos, af, g⟩ K (den l t) ds Zi Z S :=
  o_V rfl (vop_of hw hd rfl rfl fun S hS => op_loadW hk.h (evL_eq hx) (hS.subset he.h) hv ⟨rfl, rfl⟩) h

/-- An element of a row, or a part of one. -/
theorem o_loadR {α : Type} {En : Enc α} {ty' s off b j sz k : Nat} {a : Bool} {x : Operand} {xs : List α} {v : Value} (hw : wantL ops l t g = some true) (hd : Nat.blt d n = true) [hk : Tyk ty' (a, s)]
    (hx : evL l t x = some (.pointer (some ⟨b, ix off j sz k, none⟩))) [hr : RowI Zi b off α En xs] (hj : j < xs.length) (hsz : En.sz = sz) (hv : rdv a k s (En.enc xs[j]).toList = some v)
    (h : OpF Tryz.prog E fn n ops sq rest K (den ((d, v) :: l) t) ds Z S) : OpX Tryz.prog E fn n ops sq i z rest ⟨some d, .load ty' x, ty, pos, af, g⟩ K (den l t) ds Zi Z S := by
  refine o_V rfl (vop_of hw hd rfl rfl fun S hS => ?_) h
  obtain ⟨mn, c, tb, fz, hm, hrow⟩ := hr.h (by omega)
  have hx' := evL_eq hx
  rw [ix_eq] at hx'
  subst hsz
  cases a with
  | true =>
    simp only [rdv] at hv
    cases hp : ptO k s (En.enc xs[j]).toList with
    | none => simp [hp] at hv
    | some r =>
      simp only [hp, Option.some.injEq] at hv
      subst hv
      obtain ⟨h1, h2⟩ := hrow.part hj hp
      exact op_loadA hk.h hx' (hS.subset hm) h1 h2 ⟨rfl, rfl⟩
  | false => exact op_load1 hk.h hx' (hS.subset hm) (hrow.get hj hv) ⟨rfl, rfl⟩

theorem o_index {ty' e sz b off len cap j : Nat} {a : Bool} {x y : Operand} {k : IntKind} (hw : wantL ops l t g = some true) (hd : Nat.blt d n = true) (hs : lk1 slT ty' = some e) [hk : Tyk e (a, sz)]
    (hx : evL l t x = some (.slice (some ⟨b, off, none⟩) len cap)) (hy : evL l t y = some (.int k (j : Int))) (hj : j < len)
    (h : OpF Tryz.prog E fn n ops sq rest K (den ((d, .pointer (some ⟨b, ix off j sz 0, none⟩)) :: l) t) ds Z S) : OpX Tryz.prog E fn n ops sq i z rest ⟨some d, .indexAddr ty' x y, ty, pos, af, g⟩ K (den l t) ds Zi Z S :=
  o_V rfl (vop_of hw hd rfl rfl fun S hS => op_index (slT_ok hs) hk.h (evL_eq hx) (evL_eq hy) hj ⟨by rw [ix_eq, Nat.add_zero], rfl⟩) h

/-- An element of a slice whose list is known. -/
theorem o_indexS {α : Type} {En : Enc α} {ty' e sz len cap j : Nat} {a : Option Addr} {ag : Bool} {x y : Operand} {xs : List α} {k : IntKind} (hw : wantL ops l t g = some true) (hd : Nat.blt d n = true) (hs : lk1 slT ty' = some e) [hk : Tyk e (ag, sz)]
    (hx : evL l t x = some (.slice a len cap)) (hy : evL l t y = some (.int k (j : Int))) [hr : SlI S a α En xs] (hl : len = xs.length) (hj : j < xs.length)
    (h : OpF Tryz.prog E fn n ops sq rest K (den ((d, .pointer (some ⟨blkA a, ix (offA a) j sz 0, none⟩)) :: l) t) ds Z S) : OpX Tryz.prog E fn n ops sq i z rest ⟨some d, .indexAddr ty' x y, ty, pos, af, g⟩ K (den l t) ds Zi Z S := by
  have e := (hr.h (by omega)).1
  refine o_index (b := blkA a) (off := offA a) (len := len) (cap := cap) hw hd hs ?_ hy (by omega) h
  rw [hx]; exact congrArg (fun q => some (Value.slice q len cap)) e

theorem o_indexZ (j : Nat) {α : Type} {En : Enc α} {ty' e sz len cap : Nat} {a : Option Addr} {ag : Bool} {x y : Operand} {xs : List α} {k : IntKind} {q : Int} (hw : wantL ops l t g = some true) (hd : Nat.blt d n = true) (hs : lk1 slT ty' = some e) [hk : Tyk e (ag, sz)]
    (hx : evL l t x = some (.slice a len cap)) (hy : evL l t y = some (.int k q)) [hr : SlI S a α En xs] (hl : len = xs.length) (hq : q = (j : Int)) (hj : j < xs.length)
    (h : OpF Tryz.prog E fn n ops sq rest K (den ((d, .pointer (some ⟨blkA a, ix (offA a) j sz 0, none⟩)) :: l) t) ds Z S) : OpX Tryz.prog E fn n ops sq i z rest ⟨some d, .indexAddr ty' x y, ty, pos, af, g⟩ K (den l t) ds Zi Z S :=
  o_indexS hw hd hs hx (by rw [hy, hq]) hl hj h

theorem o_indexA {ty' e sz b off len j : Nat} {a : Bool} {x y : Operand} {k : IntKind} (hw : wantL ops l t g = some true) (hd : Nat.blt d n = true) (hs : lk1 arT ty' = some (len, e)) [hk : Tyk e (a, sz)]
    (hx : evL l t x = some (.pointer (some ⟨b, off, none⟩))) (hy : evL l t y = some (.int k (j : Int))) (hj : j < len)
    (h : OpF Tryz.prog E fn n ops sq rest K (den ((d, .pointer (some ⟨b, ix off j sz 0, none⟩)) :: l) t) ds Z S) : OpX Tryz.prog E fn n ops sq i z rest ⟨some d, .indexAddr ty' x y, ty, pos, af, g⟩ K (den l t) ds Zi Z S := by
  refine o_V rfl (vop_of hw hd rfl rfl fun S hS => ?_) h
  have hu := arT_ok hs
  refine semH_bind (?_ : SemH Tryz.prog E.m (Instr.indexAt ty' (ev (den l t) x) (ev (den l t) y)) S _)
  rw [evL_eq hx, evL_eq hy]
  unfold Instr.indexAt
  refine semH_bind (semH_pure ?_)
  refine semH_bind (semH_underlying hu ?_)
  refine semH_bind (semH_pure ?_)
  refine semH_bind (semH_pure ?_)
  refine semH_bind (semH_underlying hu ?_)
  simp only
  rw [if_pos (by omega)]
  refine semH_bind (semH_sizeOf hk.h ?_)
  refine semH_pure (semH_pure ⟨_, .inl rfl, ?_⟩)
  rw [add_mk, Int.toNat_natCast, ix_eq, Nat.add_zero]
  exact ⟨rfl, rfl⟩

theorem o_fieldI {s f b off j sz k f' : Nat} {x : Operand} (hw : wantL ops l t g = some true) (hd : Nat.blt d n = true) (hf : lk2 foT s f = some f') (hx : evL l t x = some (.pointer (some ⟨b, ix off j sz k, none⟩)))
    (h : OpF Tryz.prog E fn n ops sq rest K (den ((d, .pointer (some ⟨b, ix off j sz (k + f'), none⟩)) :: l) t) ds Z S) : OpX Tryz.prog E fn n ops sq i z rest ⟨some d, .fieldAddr s x f, ty, pos, af, g⟩ K (den l t) ds Zi Z S :=
  o_V rfl (vop_of hw hd rfl rfl fun S hS => op_field (foT_ok hf) (evL_eq hx) ⟨by rw [ix_add], rfl⟩) h

theorem o_field {s f b off f' : Nat} {x : Operand} (hw : wantL ops l t g = some true) (hd : Nat.blt d n = true) (hf : lk2 foT s f = some f') (hx : evL l t x = some (.pointer (some ⟨b, off, none⟩)))
    (h : OpF Tryz.prog E fn n ops sq rest K (den ((d, .pointer (some ⟨b, off + f', none⟩)) :: l) t) ds Z S) : OpX Tryz.prog E fn n ops sq i z rest ⟨some d, .fieldAddr s x f, ty, pos, af, g⟩ K (den l t) ds Zi Z S :=
  o_V rfl (vop_of hw hd rfl rfl fun S hS => op_field (foT_ok hf) (evL_eq hx) ⟨rfl, rfl⟩) h

/-! gates: which kind of operation comes next -/
section
variable {P : Program} {dd : Option Nat}
theorem gL {a : TypeId} {x : Operand} (h : OpX P E fn n ops sq i z rest ⟨dd, .load a x, ty, pos, af, g⟩ K t ds Zi Z S) : OpX P E fn n ops sq i z rest ⟨dd, .load a x, ty, pos, af, g⟩ K t ds Zi Z S := h
theorem gF {a b : Nat} {x : Operand} (h : OpX P E fn n ops sq i z rest ⟨dd, .fieldAddr a x b, ty, pos, af, g⟩ K t ds Zi Z S) : OpX P E fn n ops sq i z rest ⟨dd, .fieldAddr a x b, ty, pos, af, g⟩ K t ds Zi Z S := h
theorem gC {c : Call} (h : OpX P E fn n ops sq i z rest ⟨dd, .call c, ty, pos, af, g⟩ K t ds Zi Z S) : OpX P E fn n ops sq i z rest ⟨dd, .call c, ty, pos, af, g⟩ K t ds Zi Z S := h
theorem gI {a : TypeId} {x y : Operand} (h : OpX P E fn n ops sq i z rest ⟨dd, .indexAddr a x y, ty, pos, af, g⟩ K t ds Zi Z S) : OpX P E fn n ops sq i z rest ⟨dd, .indexAddr a x y, ty, pos, af, g⟩ K t ds Zi Z S := h
theorem gB {o : BinOp} {a b : TypeId} {x y : Operand} (h : OpX P E fn n ops sq i z rest ⟨dd, .binOp o a x y b, ty, pos, af, g⟩ K t ds Zi Z S) : OpX P E fn n ops sq i z rest ⟨dd, .binOp o a x y b, ty, pos, af, g⟩ K t ds Zi Z S := h
theorem gS {a : TypeId} {x y : Operand} (h : OpX P E fn n ops sq i z rest ⟨dd, .store a x y, ty, pos, af, g⟩ K t ds Zi Z S) : OpX P E fn n ops sq i z rest ⟨dd, .store a x y, ty, pos, af, g⟩ K t ds Zi Z S := h
theorem gX {o : Oper} (h : OpX P E fn n ops sq i z rest o K t ds Zi Z S) : OpX P E fn n ops sq i z rest o K t ds Zi Z S := h
end

theorem o_add {t1 t2 : TypeId} {x y : Operand} {a b : Int} (hw : wantL ops l t g = some true) (hd : Nat.blt d n = true) (hx : evL l t x = some (.int .i64 a)) (hy : evL l t y = some (.int .i64 b))
    (h1 : -9223372036854775808 ≤ a + b ∧ a + b ≤ 9223372036854775807) (h : OpF Tryz.prog E fn n ops sq rest K (den ((d, .int .i64 (a + b)) :: l) t) ds Z S) : OpX Tryz.prog E fn n ops sq i z rest ⟨some d, .binOp .add t1 x y t2, ty, pos, af, g⟩ K (den l t) ds Zi Z S :=
  o_V rfl (vop_of hw hd rfl rfl fun S hS => op_int (evL_eq hx) (evL_eq hy) (by rw [intVal, wrap_in h1.1 h1.2]) ⟨rfl, rfl⟩) h
theorem o_sub {t1 t2 : TypeId} {x y : Operand} {a b : Int} (hw : wantL ops l t g = some true) (hd : Nat.blt d n = true) (hx : evL l t x = some (.int .i64 a)) (hy : evL l t y = some (.int .i64 b))
    (h1 : -9223372036854775808 ≤ a - b ∧ a - b ≤ 9223372036854775807) (h : OpF Tryz.prog E fn n ops sq rest K (den ((d, .int .i64 (a - b)) :: l) t) ds Z S) : OpX Tryz.prog E fn n ops sq i z rest ⟨some d, .binOp .sub t1 x y t2, ty, pos, af, g⟩ K (den l t) ds Zi Z S :=
  o_V rfl (vop_of hw hd rfl rfl fun S hS => op_int (evL_eq hx) (evL_eq hy) (by rw [intVal, wrap_in h1.1 h1.2]) ⟨rfl, rfl⟩) h
theorem o_mul {t1 t2 : TypeId} {x y : Operand} {a b : Int} (hw : wantL ops l t g = some true) (hd : Nat.blt d n = true) (hx : evL l t x = some (.int .i64 a)) (hy : evL l t y = some (.int .i64 b))
    (h1 : -9223372036854775808 ≤ a * b ∧ a * b ≤ 9223372036854775807) (h : OpF Tryz.prog E fn n ops sq rest K (den ((d, .int .i64 (a * b)) :: l) t) ds Z S) : OpX Tryz.prog E fn n ops sq i z rest ⟨some d, .binOp .mul t1 x y t2, ty, pos, af, g⟩ K (den l t) ds Zi Z S :=
  o_V rfl (vop_of hw hd rfl rfl fun S hS => op_int (evL_eq hx) (evL_eq hy) (by rw [intVal, wrap_in h1.1 h1.2]) ⟨rfl, rfl⟩) h

theorem op_div {P : Program} {m : Mode} {S : Ents} {ρ : Operand → Value} {d : Option Tmp} {op : BinOp} {ty ty' : TypeId} {pos : String} {t' : TypeId} {af : Array Edge} {g : Option (Nat × Bool)} {x y : Operand} {k : IntKind} {a b : Int} {R : Value → Ents → Prop}
    (hx : ρ x = .int k a) (hy : ρ y = .int k b) (hb : b ≠ 0) (hop : op = .quo ∨ op = .rem) (h : R (.int k (if op = .quo then k.wrap (a.tdiv b) else a.tmod b)) S) : OpH P m ⟨d, .binOp op ty x y ty', t', pos, af, g⟩ ρ S R := by
  refine semH_bind (?_ : SemH P m (do eqGuard op ty x y (ρ x) (ρ y); binOp op ty (ρ x) (ρ y)) S _)
  rw [hx, hy]
  have hg : ∀ R' : Unit → Ents → Prop, R' () S → SemH P m (eqGuard op ty x y (.int k a) (.int k b)) S R' := fun R' hR => by
    unfold eqGuard
    rcases hop with rfl | rfl <;> exact semH_pure hR
  refine semH_bind (hg _ ?_)
  rcases hop with rfl | rfl <;>
    · simp only [binOp, ne_eq, not_true_eq_false, if_false, Op.intDiv, hb]
      exact semH_pure (semH_pure ⟨_, .inl rfl, h⟩)

theorem o_quo {t1 t2 : TypeId} {x y : Operand} {a b : Int} (hw : wantL ops l t g = some true) (hd : Nat.blt d n = true) (hx : evL l t x = some (.int .i64 a)) (hy : evL l t y = some (.int .i64 b)) (hb : b ≠ 0)
    (h1 : -9223372036854775808 ≤ a.tdiv b ∧ a.tdiv b ≤ 9223372036854775807) (h : OpF Tryz.prog E fn n ops sq rest K (den ((d, .int .i64 (a.tdiv b)) :: l) t) ds Z S) : OpX Tryz.prog E fn n ops sq i z rest ⟨some d, .binOp .quo t1 x y t2, ty, pos, af, g⟩ K (den l t) ds Zi Z S :=
  o_V rfl (vop_of hw hd rfl rfl fun S hS => op_div (evL_eq hx) (evL_eq hy) hb (.inl rfl) ⟨by rw [if_pos rfl, wrap_in h1.1 h1.2], rfl⟩) h
theorem o_rem {t1 t2 : TypeId} {x y : Operand} {a b : Int} (hw : wantL ops l t g = some true) (hd : Nat.blt d n = true) (hx : evL l t x = some (.int .i64 a)) (hy : evL l t y = some (.int .i64 b)) (hb : b ≠ 0)
    (h : OpF Tryz.prog E fn n ops sq rest K (den ((d, .int .i64 (a.tmod b)) :: l) t) ds Z S) : OpX Tryz.prog E fn n ops sq i z rest ⟨some d, .binOp .rem t1 x y t2, ty, pos, af, g⟩ K (den l t) ds Zi Z S :=
  o_V rfl (vop_of hw hd rfl rfl fun S hS => op_div (evL_eq hx) (evL_eq hy) hb (.inr rfl) ⟨rfl, rfl⟩) h

/-! acts -/

theorem exec_of {op : Op} {d : Option Nat} {R : Value → Ents → Prop} (hw : wantL ops l t g = some true) (hd : dstOk n d = true) (hdf : isDefer op = false) (hsel : isSel op = false)
    (h : OpH Tryz.prog E.m ⟨d, op, ty, pos, af, g⟩ (ev (den l t)) S R) : Exec Tryz.prog E n ops ⟨d, op, ty, pos, af, g⟩ (den l t) S R :=
  ⟨hd, .inr ⟨wantL_ok (o := ⟨d, op, ty, pos, af, g⟩) hw, hdf, hsel, .inl h⟩⟩

/-- An operation that is not wanted. -/
theorem o_skip {op : Op} (hw : wantL ops l t g = some false) (hd : Nat.blt d n = true) (h : OpF Tryz.prog E fn n ops sq rest K (den ((d, undef) :: l) t) ds Z S) : OpX Tryz.prog E fn n ops sq i z rest ⟨some d, op, ty, pos, af, g⟩ K (den l t) ds Zi Z S := by
  cases ha : isAct op with
  | false => exact o_V ha (fun S hS => ⟨hd, .inl ⟨wantL_ok (o := ⟨some d, op, ty, pos, af, g⟩) hw, rfl, rfl⟩⟩) h
  | true => exact o_A ha (R := fun v S' => v = undef ∧ S' = S) ⟨hd, .inl ⟨wantL_ok (o := ⟨some d, op, ty, pos, af, g⟩) hw, rfl, rfl⟩⟩ (by rintro _ _ ⟨rfl, rfl⟩; exact ⟨Z, fun _ hz => ⟨fun _ => List.Sublist.refl _, hz⟩, h⟩)
theorem o_skipN {op : Op} (hw : wantL ops l t g = some false) (ha : isAct op = true) (h : OpF Tryz.prog E fn n ops sq rest K (den l t) ds Z S) : OpX Tryz.prog E fn n ops sq i z rest ⟨none, op, ty, pos, af, g⟩ K (den l t) ds Zi Z S :=
  o_A ha (R := fun v S' => v = undef ∧ S' = S) ⟨rfl, .inl ⟨wantL_ok (o := ⟨none, op, ty, pos, af, g⟩) hw, rfl, rfl⟩⟩ (by rintro _ _ ⟨rfl, rfl⟩; exact ⟨Z, fun _ hz => ⟨fun _ => List.Sublist.refl _, hz⟩, h⟩)

theorem o_alloc {ty' : TypeId} {cs : Array Value} (hw : wantL ops l t g = some true) (hd : Nat.blt d n = true) [hz : Zo ty' cs]
    (h : ∀ b, OpF Tryz.prog E fn n ops sq rest K (den ((d, .pointer (some ⟨b, 0, none⟩)) :: l) t) ds (⟨b, true, .cells cs ty' (0, 0)⟩ :: S) (⟨b, true, .cells cs ty' (0, 0)⟩ :: S)) : OpX Tryz.prog E fn n ops sq i z rest ⟨some d, .alloc ty', ty, pos, af, g⟩ K (den l t) ds Zi Z S :=
  o_A rfl (R := fun u S' => ∃ b, u = .pointer (some ⟨b, 0, none⟩) ∧ S' = ⟨b, true, .cells cs ty' (0, 0)⟩ :: S) (exec_of hw hd rfl rfl (op_alloc hz.h fun b => ⟨b, rfl, rfl⟩)) (by rintro _ _ ⟨b, rfl, rfl⟩; exact ⟨_, fun _ hz => ⟨fun _ => .cons _ hz, List.Sublist.refl _⟩, h b⟩)
theorem o_box {ty' : TypeId} {x : Operand} {v : Value} (hw : wantL ops l t g = some true) (hd : Nat.blt d n = true) (hx : evL l t x = some v)
    (h : ∀ b, OpF Tryz.prog E fn n ops sq rest K (den ((d, .pointer (some ⟨b, 0, none⟩)) :: l) t) ds (⟨b, true, .cells v.cells ty' (0, 0)⟩ :: S) (⟨b, true, .cells v.cells ty' (0, 0)⟩ :: S)) : OpX Tryz.prog E fn n ops sq i z rest ⟨some d, .box ty' x, ty, pos, af, g⟩ K (den l t) ds Zi Z S :=
  o_A rfl (R := fun u S' => ∃ b, u = .pointer (some ⟨b, 0, none⟩) ∧ S' = ⟨b, true, .cells v.cells ty' (0, 0)⟩ :: S) (exec_of hw hd rfl rfl (op_box (by rw [evL_eq hx]) fun b => ⟨b, rfl, rfl⟩)) (by rintro _ _ ⟨b, rfl, rfl⟩; exact ⟨_, fun _ hz => ⟨fun _ => .cons _ hz, List.Sublist.refl _⟩, h b⟩)

theorem o_allocZ {ty' : TypeId} {cs : Array Value} (hw : wantL ops l t g = some true) (hd : Nat.blt d n = true) [hz : Zo ty' cs]
    (h : ∀ b, OpF Tryz.prog E fn n ops sq rest K (den ((d, .pointer (some ⟨b, 0, none⟩)) :: l) t) ds Z (⟨b, true, .cells cs ty' (0, 0)⟩ :: S)) : OpX Tryz.prog E fn n ops sq i z rest ⟨some d, .alloc ty', ty, pos, af, g⟩ K (den l t) ds Zi Z S :=
  o_A rfl (R := fun u S' => ∃ b, u = .pointer (some ⟨b, 0, none⟩) ∧ S' = ⟨b, true, .cells cs ty' (0, 0)⟩ :: S) (exec_of hw hd rfl rfl (op_alloc hz.h fun b => ⟨b, rfl, rfl⟩)) (by rintro _ _ ⟨b, rfl, rfl⟩; exact ⟨Z, fun _ hz => ⟨fun _ => List.Sublist.refl _, .cons _ hz⟩, h b⟩)
/-- Forced: cells from off on replaced. -/
def repO : List Value → List Value → Option (List Value)
  | [], l => some l
  | _ :: _, [] => none
  | v :: vs, _ :: l => match repO vs l with
    | some r => some (v :: r)
    | none => none
def setO : Nat → List Value → List Value → Option (List Value)
  | 0, vs, l => repO vs l
  | _ + 1, _, [] => none
  | k + 1, vs, x :: l => match setO k vs l with
    | some r => some (x :: r)
    | none => none
theorem repO_ok : ∀ {vs l r : List Value}, repO vs l = some r → r = vs ++ l.drop vs.length ∧ vs.length ≤ l.length
  | [], l, r, h => by cases h; simp
  | v :: vs, [], r, h => by cases h
  | v :: vs, x :: l, r, h => by
    simp only [repO] at h
    cases h1 : repO vs l with
    | none => simp [h1] at h
    | some r' =>
      simp only [h1, Option.some.injEq] at h
      subst h
      obtain ⟨h2, h3⟩ := repO_ok h1
      subst h2
      simp; omega
theorem setO_ok : ∀ {k : Nat} {vs l r : List Value}, setO k vs l = some r → r = l.take k ++ vs ++ l.drop (k + vs.length) ∧ k + vs.length ≤ l.length
  | 0, vs, l, r, h => by have := repO_ok h; simpa using this
  | k + 1, vs, [], r, h => by cases h
  | k + 1, vs, x :: l, r, h => by
    simp only [setO] at h
    cases h1 : setO k vs l with
    | none => simp [h1] at h
    | some r' =>
      simp only [h1, Option.some.injEq] at h
      subst h
      obtain ⟨h2, h3⟩ := setO_ok h1
      subst h2
      refine ⟨?_, by simp; omega⟩
      rw [show k + 1 + vs.length = (k + vs.length) + 1 by omega]
      simp
theorem setCells_setO {c : Array Value} {k : Nat} {vs r : List Value} (h : setO k vs c.toList = some r) : setCells c k vs = r.toArray := by
  obtain ⟨h1, h2⟩ := setO_ok h
  simp only [Array.length_toList] at h2
  apply Array.ext_getElem?
  intro j
  rw [setCells_get, h1]
  simp only [List.getElem?_toArray]
  have htk : (c.toList.take k).length = k := by simp; omega
  by_cases hj : k ≤ j ∧ j < k + vs.length ∧ j < c.size
  · rw [if_pos hj, List.append_assoc, List.getElem?_append_right (by omega), List.getElem?_append_left (by omega), htk]
  · rw [if_neg hj]
    by_cases hjk : j < k
    · rw [List.append_assoc, List.getElem?_append_left (by omega), List.getElem?_take_of_lt hjk]; simp
    · by_cases hjs : j < c.size
      · rw [List.getElem?_append_right (by simp; omega), List.getElem?_drop]
        simp only [List.length_append, htk]
        rw [show k + vs.length + (j - (k + vs.length)) = j by omega]; simp
      · rw [Array.getElem?_eq_none (by omega), List.getElem?_eq_none]
        simp; omega

/-- What stays behind an act: all of it where nobody leans on Z any more. -/
class KA (z sq : Bool) (Z S' : Ents) (Z' : outParam Ents) : Prop where h : sq = false → (z = false → List.Sublist Z Z') ∧ List.Sublist Z' S'
instance ka_true {sq : Bool} {Z S' : Ents} : KA true sq Z S' S' := ⟨fun _ => ⟨fun h => (by cases h), List.Sublist.refl _⟩⟩
instance ka_false {sq : Bool} {Z S' : Ents} [i : KZ sq Z S'] : KA false sq Z S' Z := ⟨fun h => ⟨fun _ => List.Sublist.refl _, i.h h⟩⟩

theorem o_store {ty' s off b : Nat} {a : Bool} {x y : Operand} {c : Array Value} {tb : TypeId} {v : Value} {c' : List Value} {re : Obj → Ents} {Z' : Ents} (hw : wantL ops l t g = some true) [hk : Tyk ty' (a, s)] (hx : evL l t x = some (.pointer (some ⟨b, off, none⟩))) (hy : evL l t y = some v)
    [hu : OwnS b S (.cells c tb (0, 0)) re] (hsz : Nat.beq v.cells.toList.length s = true) (hone : (v.cells.toList.all (·.oneCell')) = true) (hc : setO off v.cells.toList c.toList = some c') [kz : KA z sq Z (re (.cells c'.toArray tb (0, 0))) Z']
    (h : OpF Tryz.prog E fn n ops sq rest K (den l t) ds Z' (re (.cells c'.toArray tb (0, 0)))) : OpX Tryz.prog E fn n ops sq i z rest ⟨none, .store ty' x y, ty, pos, af, g⟩ K (den l t) ds Zi Z S := by
  obtain ⟨h1, h2⟩ := setO_ok hc
  have hs := Nat.eq_of_beq_eq_true hsz
  simp only [Array.length_toList] at h2 hs
  refine o_A rfl (R := fun _ S' => S' = re (.cells c'.toArray tb (0, 0))) (exec_of hw rfl rfl rfl (op_store (c := c) hk.h (evL_eq hx) (by rw [evL_eq hy]) hs hone (by simp only; omega) (by rw [setCells_setO hc]; exact hu.h _) rfl)) ?_
  rintro _ _ rfl
  exact ⟨Z', fun hq _ => kz.h hq, h⟩

/-- A store to a box whose cells are not told one by one. -/
theorem o_storeW {ty' s b : Nat} {a : Bool} {x y : Operand} {c : Array Value} {tb : TypeId} {v : Value} {re : Obj → Ents} {Z' : Ents} (hw : wantL ops l t g = some true) [hk : Tyk ty' (a, s)] (hx : evL l t x = some (.pointer (some ⟨b, 0, none⟩))) (hy : evL l t y = some v)
    [hu : OwnS b S (.cells c tb (0, 0)) re] (hsz : v.cells.size = s) (hone : (v.cells.toList.all (·.oneCell')) = true) (hc : c.size = s) [kz : KA z sq Z (re (.cells v.cells tb (0, 0))) Z']
    (h : OpF Tryz.prog E fn n ops sq rest K (den l t) ds Z' (re (.cells v.cells tb (0, 0)))) : OpX Tryz.prog E fn n ops sq i z rest ⟨none, .store ty' x y, ty, pos, af, g⟩ K (den l t) ds Zi Z S := by
  refine o_A rfl (R := fun _ S' => S' = re (.cells v.cells tb (0, 0))) (exec_of hw rfl rfl rfl (op_storeW hk.h (evL_eq hx) (by rw [evL_eq hy]) hsz hone hc (hu.h _) rfl)) ?_
  rintro _ _ rfl
  exact ⟨Z', fun hq _ => kz.h hq, h⟩

theorem o_call {f : FuncId} {args : Array Operand} {ats : Array TypeId} {vs : List Value} {R : Value → Ents → Prop} (hw : wantL ops l t g = some true) (hd : Nat.blt d n = true) (hx : evLs l t args.toList = some vs) (hr : CallW Tryz.prog E f vs.toArray S R)
    (h : ∀ v S', R v S' → KZ sq S S' ∧ OpF Tryz.prog E fn n ops sq rest K (den ((d, v) :: l) t) ds S' S') : OpX Tryz.prog E fn n ops sq i z rest ⟨some d, .call { callee := .value (.func f), args := args, argTypes := ats }, ty, pos, af, g⟩ K (den l t) ds Zi Z S := by
  refine o_A rfl (R := R) ⟨hd, .inr ⟨wantL_ok (o := ⟨some d, .call { callee := .value (.func f), args := args, argTypes := ats }, ty, pos, af, g⟩) hw, rfl, rfl, .inr (.inl ⟨f, vs.toArray, fun w => ?_, hr⟩)⟩⟩ fun v S' hR => ?_
  · unfold execOp
    simp only [resolve, ev, Deferred.ofValue]
    show (Sem.bind _ _).runT Tryz.prog w #[] = _
    rw [Sem.runT_bind']
    simp only [pure, Sem.runT, invoke]
    have e : (#[] ++ Array.map (ev (den l t)) args ++ #[] : Array Value) = vs.toArray := by
      have := evLs_eq hx
      rw [← this]; apply Array.ext'; simp
    rw [e]
    exact run_callFunc hr.1 _ w #[]
  · obtain ⟨h1, h2⟩ := h v S' hR
    exact ⟨S', fun hq hz => ⟨fun _ => hz.trans (h1.h hq), List.Sublist.refl _⟩, h2⟩

/-- .. that leaves what others lean on as it is. -/
theorem o_callZ {f : FuncId} {args : Array Operand} {ats : Array TypeId} {vs : List Value} {R : Value → Ents → Prop} (hw : wantL ops l t g = some true) (hd : Nat.blt d n = true) (hx : evLs l t args.toList = some vs) (hr : CallW Tryz.prog E f vs.toArray S R)
    (h : ∀ v S', R v S' → KZ sq Z S' ∧ OpF Tryz.prog E fn n ops sq rest K (den ((d, v) :: l) t) ds Z S') : OpX Tryz.prog E fn n ops sq i z rest ⟨some d, .call { callee := .value (.func f), args := args, argTypes := ats }, ty, pos, af, g⟩ K (den l t) ds Zi Z S := by
  refine o_A rfl (R := R) ⟨hd, .inr ⟨wantL_ok (o := ⟨some d, .call { callee := .value (.func f), args := args, argTypes := ats }, ty, pos, af, g⟩) hw, rfl, rfl, .inr (.inl ⟨f, vs.toArray, fun w => ?_, hr⟩)⟩⟩ fun v S' hR => ?_
  · unfold execOp
    simp only [resolve, ev, Deferred.ofValue]
    show (Sem.bind _ _).runT Tryz.prog w #[] = _
    rw [Sem.runT_bind']
    simp only [pure, Sem.runT, invoke]
    have e : (#[] ++ Array.map (ev (den l t)) args ++ #[] : Array Value) = vs.toArray := by
      have := evLs_eq hx
      rw [← this]; apply Array.ext'; simp
    rw [e]
    exact run_callFunc hr.1 _ w #[]
  · obtain ⟨h1, h2⟩ := h v S' hR
    exact ⟨Z, fun hq hz => ⟨fun _ => List.Sublist.refl _, h1.h hq⟩, h2⟩

/-- A call of a function value. -/
theorem o_callv {f : FuncId} {x : Nat} {args : Array Operand} {ats : Array TypeId} {vs : List Value} {first captured : Array Value} {R : Value → Ents → Prop} (hw : wantL ops l t g = some true) (hd : Nat.blt d n = true) (hf : evL l t (.tmp x) = some (.func (.func f) first captured)) (hx : evLs l t args.toList = some vs)
    (hr : CallW Tryz.prog E f (first ++ vs.toArray ++ captured) S R) (h : ∀ v S', R v S' → KZ sq S S' ∧ OpF Tryz.prog E fn n ops sq rest K (den ((d, v) :: l) t) ds S' S') : OpX Tryz.prog E fn n ops sq i z rest ⟨some d, .call { callee := .value (.tmp x), args := args, argTypes := ats }, ty, pos, af, g⟩ K (den l t) ds Zi Z S := by
  refine o_A rfl (R := R) ⟨hd, .inr ⟨wantL_ok (o := ⟨some d, .call { callee := .value (.tmp x), args := args, argTypes := ats }, ty, pos, af, g⟩) hw, rfl, rfl, .inr (.inl ⟨f, first ++ vs.toArray ++ captured, fun w => ?_, hr⟩)⟩⟩ fun v S' hR => ?_
  · unfold execOp
    simp only [resolve, evL_eq hf, Deferred.ofValue]
    show (Sem.bind _ _).runT Tryz.prog w #[] = _
    rw [Sem.runT_bind']
    simp only [pure, Sem.runT, invoke]
    have e : (first ++ Array.map (ev (den l t)) args ++ captured : Array Value) = first ++ vs.toArray ++ captured := by
      have := evLs_eq hx
      rw [← this]; congr 2; apply Array.ext'; simp
    rw [e]
    exact run_callFunc hr.1 _ w #[]
  · obtain ⟨h1, h2⟩ := h v S' hR
    exact ⟨S', fun hq hz => ⟨fun _ => hz.trans (h1.h hq), List.Sublist.refl _⟩, h2⟩

/-- append. -/
theorem o_append {α : Type} [En : Enc α] {sT xT e e2 sz by' : Nat} {x y : Operand} {xs ys : List α} {Δ rs : Ents} {v w : Value} (hw : wantL ops l t g = some true) (hd : Nat.blt d n = true) (hx : evL l t x = some v) (hy : evL l t y = some w) (hv : Own v xs Δ) (hwv : ∀ S, FrS Δ S rs → SlV rs w ys)
    (hlen : (xs.length + ys.length) * by' ≤ 140737488355328) [fr : FrS Δ S rs] (hs : lk1 slT sT = some e) (hs2 : lk1 slT xT = some e2) [he : Eb e sz by'] {cs : Array Value} [hz : Zo e cs] (hcs : cs.size = sz) (hsz : En.sz = sz)
    (h : ∀ v' Δ', Own v' (xs ++ ys) Δ' → KZ sq Z (Δ' ++ rs) ∧ OpF Tryz.prog E fn n ops sq rest K (den ((d, v') :: l) t) ds Z (Δ' ++ rs)) :
    OpX Tryz.prog E fn n ops sq i z rest ⟨some d, .call { callee := .builtin .append, args := #[x, y], argTypes := #[sT, xT] }, ty, pos, af, g⟩ K (den l t) ds Zi Z S := by
  refine o_A rfl (R := fun u S' => ∃ Δ', Own u (xs ++ ys) Δ' ∧ S' = Δ' ++ rs) (exec_of hw hd rfl rfl (op_append (slT_ok hs) (slT_ok hs2) he.h (by rw [hz.h]; simp [hcs]) hsz (evL_eq hx) (evL_eq hy) hv (fr := fr) (hwv S fr) hlen fun v' Δ' ho => ⟨Δ', ho, rfl⟩)) ?_
  rintro v' _ ⟨Δ', ho, rfl⟩
  obtain ⟨h1, h2⟩ := h v' Δ' ho
  exact ⟨Z, fun hq _ => ⟨fun _ => List.Sublist.refl _, h1.h hq⟩, h2⟩
end
end Go.Proofs.YtpnnmklacialgaaGreat
