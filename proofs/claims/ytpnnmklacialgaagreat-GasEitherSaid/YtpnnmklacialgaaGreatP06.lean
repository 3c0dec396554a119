/- Stores into rows, arrays sliced, slices made, structs compared.
   Structs of numbers compared; appending a part of a slice to another part; clearing.
   What is known of a period, as a tree of mains: what each feeds, what it lets through.
   What lamps burnt, and what leaked, at a main.
   The entries of a period that count, yielded one by one.
   What is known of a period, in plain terms, and its bounds. -/
import Derived.Test.YtpnnmklacialgaaGreatP05
set_option linter.unusedVariables false
set_option linter.unusedSimpArgs false
namespace Go.Proofs.YtpnnmklacialgaaGreat
open Go.Conc

section
variable {α : Type} [En : Enc α] {c : Array Value} {off : Nat} {xs : List α}

theorem IsRow.setIn (h : IsRow c off xs) {j k : Nat} (hj : j < xs.length) {u : α} {vs : List Value} (hu : setO k vs (En.enc xs[j]).toList = some (En.enc u).toList) : IsRow (setCells c (off + j * En.sz + k) vs) off (xs.set j u) := by
  obtain ⟨h1, h2⟩ := setO_ok hu
  simp only [Array.length_toList, En.size] at h2
  have hle := h.ext hj
  intro i hi q hq
  simp only [List.length_set] at hi
  rw [setCells_get]
  by_cases hij : i = j
  · subst hij
    simp only [List.getElem_set_self]
    have e : (En.enc u)[q]? = ((En.enc xs[i]).toList.take k ++ vs ++ (En.enc xs[i]).toList.drop (k + vs.length))[q]? := by rw [← h1]; simp
    rw [e]
    have htk : ((En.enc xs[i]).toList.take k).length = k := by simp [En.size]; omega
    by_cases hin : off + i * En.sz + k ≤ off + i * En.sz + q ∧ off + i * En.sz + q < off + i * En.sz + k + vs.length ∧ off + i * En.sz + q < c.size
    · rw [if_pos hin, List.append_assoc, List.getElem?_append_right (by omega), htk, List.getElem?_append_left (by omega)]
      congr 1; omega
    · rw [if_neg hin, h i hj q hq]
      by_cases hqk : q < k
      · rw [List.append_assoc, List.getElem?_append_left (by omega), List.getElem?_take_of_lt hqk]; simp
      · rw [List.getElem?_append_right (by simp only [List.length_append, htk]; omega), List.getElem?_drop]
        simp only [List.length_append, htk]
        rw [show k + vs.length + (q - (k + vs.length)) = q by omega]; simp
  · rw [List.getElem_set_ne (Ne.symm hij), ← h i hi q hq]
    have hd : i * En.sz + En.sz ≤ j * En.sz ∨ j * En.sz + En.sz ≤ i * En.sz := by
      rcases Nat.lt_or_gt_of_ne hij with h3 | h3
      · left; have := Nat.mul_le_mul_right En.sz (show i + 1 ≤ j by omega); rw [Nat.add_mul, Nat.one_mul] at this; exact this
      · right; have := Nat.mul_le_mul_right En.sz (show j + 1 ≤ i by omega); rw [Nat.add_mul, Nat.one_mul] at this; exact this
    rw [if_neg (by omega)]

theorem IsRow.setOut (h : IsRow c off xs) {o : Nat} {vs : List Value} (hd : o + vs.length ≤ off ∨ off + xs.length * En.sz ≤ o) : IsRow (setCells c o vs) off xs := by
  intro i hi q hq
  rw [setCells_get, if_neg, h i hi q hq]
  have := Nat.mul_le_mul_right En.sz (show i + 1 ≤ xs.length by omega)
  rw [Nat.add_mul, Nat.one_mul] at this
  omega
end

/-- Cells and rows of a block, as facts on its content. -/
class RowC (c : Array Value) (off : Nat) (α : outParam Type) (En : outParam (Enc α)) (xs : outParam (List α)) : Prop where h : @IsRow α En c off xs
class CellI (c : Array Value) (off : Nat) (v : outParam Value) : Prop where h : c[off]? = some v
instance (priority := low) rowI_in {S : Ents} {b off : Nat} {mn : Bool} {c : Array Value} {ty : TypeId} {fz : Nat × Nat} {α : Type} {En : Enc α} {xs : List α} [i : InS b S mn (.cells c ty fz)] [r : RowC c off α En xs] : RowI S b off α En xs := ⟨fun _ => ⟨mn, c, ty, fz, i.h, r.h⟩⟩

section
variable {E : Env} {fn n : Nat} {Q : Post} {K : Tm → List Deferred → Ents → Prop} {l : TL} {t : Tm} {ds : List Deferred} {S Z Zi : Ents} {ops : Array Oper} {i : Nat} {z : Bool} {rest : List (Nat × Bool)} {sq : Bool}
variable {d : Nat} {ty : TypeId} {pos : String} {af : Array Edge} {g : Option (Nat × Bool)}

/-- One cell, known. -/
theorem o_loadK {ty' s off b : Nat} {x : Operand} {mn : Bool} {c : Array Value} {tb : TypeId} {fz : Nat × Nat} {v : Value} (hw : wantL ops l t g = some true) (hd : Nat.blt d n = true) [hk : Tyk ty' (false, s)]
    (hx : evL l t x = some (.pointer (some ⟨b, off, none⟩))) [he : InS b Zi mn (.cells c tb fz)] [hv : CellI c off v]
    (h : OpF Tryz.prog E fn n ops sq rest K (den ((d, v) :: l) t) ds Z S) : OpX Tryz.prog E fn n ops sq i z rest ⟨some d, .load ty' x, ty, pos, af, g⟩ K (den l t) ds Zi Z S :=
  o_V rfl (vop_of hw hd rfl rfl fun S hS => op_load1 hk.h (evL_eq hx) (hS.subset he.h) hv.h ⟨rfl, rfl⟩) h

/-- An index of an array, told as an int. -/
theorem o_indexAZ (j : Nat) {ty' e sz b off len : Nat} {a : Bool} {x y : Operand} {k : IntKind} {q : Int} (hw : wantL ops l t g = some true) (hd : Nat.blt d n = true) (hs : lk1 arT ty' = some (len, e)) [hk : Tyk e (a, sz)]
    (hx : evL l t x = some (.pointer (some ⟨b, off, none⟩))) (hy : evL l t y = some (.int k q)) (hq : q = (j : Int)) (hj : j < len)
    (h : OpF Tryz.prog E fn n ops sq rest K (den ((d, .pointer (some ⟨b, ix off j sz 0, none⟩)) :: l) t) ds Z S) : OpX Tryz.prog E fn n ops sq i z rest ⟨some d, .indexAddr ty' x y, ty, pos, af, g⟩ K (den l t) ds Zi Z S :=
  o_indexA hw hd hs hx (by rw [hy, hq]) hj h

/-- A store into a block whose content is told by facts. -/
theorem o_storeC {ty' s off b j sz k : Nat} {a : Bool} {x y : Operand} {c : Array Value} {tb : TypeId} {v : Value} {re : Obj → Ents} (hw : wantL ops l t g = some true) [hk : Tyk ty' (a, s)] (hx : evL l t x = some (.pointer (some ⟨b, ix off j sz k, none⟩))) (hy : evL l t y = some v)
    [hu : OwnS b S (.cells c tb (0, 0)) re] (hsz : Nat.beq v.cells.toList.length s = true) (hone : (v.cells.toList.all (·.oneCell')) = true) (hl : off + j * sz + k + s ≤ c.size)
    (h : ∀ c', c' = setCells c (off + j * sz + k) v.cells.toList → ∃ Z', KA z sq Z (re (.cells c' tb (0, 0))) Z' ∧ OpF Tryz.prog E fn n ops sq rest K (den l t) ds Z' (re (.cells c' tb (0, 0)))) : OpX Tryz.prog E fn n ops sq i z rest ⟨none, .store ty' x y, ty, pos, af, g⟩ K (den l t) ds Zi Z S := by
  have hs := Nat.eq_of_beq_eq_true hsz
  simp only [Array.length_toList] at hs
  rw [ix_eq] at hx
  refine o_A rfl (R := fun _ S' => S' = re (.cells (setCells c (off + j * sz + k) v.cells.toList) tb (0, 0))) (exec_of hw rfl rfl rfl (op_store (c := c) hk.h (evL_eq hx) (by rw [evL_eq hy]) hs hone (by simp only; omega) (hu.h _) rfl)) ?_
  rintro _ _ rfl
  obtain ⟨Z', h1, h2⟩ := h _ rfl
  exact ⟨Z', fun hq _ => h1.h hq, h2⟩
theorem o_storeD {ty' s off b : Nat} {a : Bool} {x y : Operand} {c : Array Value} {tb : TypeId} {v : Value} {re : Obj → Ents} (hw : wantL ops l t g = some true) [hk : Tyk ty' (a, s)] (hx : evL l t x = some (.pointer (some ⟨b, off, none⟩))) (hy : evL l t y = some v)
    [hu : OwnS b S (.cells c tb (0, 0)) re] (hsz : Nat.beq v.cells.toList.length s = true) (hone : (v.cells.toList.all (·.oneCell')) = true) (hl : off + s ≤ c.size)
    (h : ∀ c', c' = setCells c off v.cells.toList → ∃ Z', KA z sq Z (re (.cells c' tb (0, 0))) Z' ∧ OpF Tryz.prog E fn n ops sq rest K (den l t) ds Z' (re (.cells c' tb (0, 0)))) : OpX Tryz.prog E fn n ops sq i z rest ⟨none, .store ty' x y, ty, pos, af, g⟩ K (den l t) ds Zi Z S := by
  have hs := Nat.eq_of_beq_eq_true hsz
  simp only [Array.length_toList] at hs
  refine o_A rfl (R := fun _ S' => S' = re (.cells (setCells c off v.cells.toList) tb (0, 0))) (exec_of hw rfl rfl rfl (op_store (c := c) hk.h (evL_eq hx) (by rw [evL_eq hy]) hs hone (by simp only; omega) (hu.h _) rfl)) ?_
  rintro _ _ rfl
  obtain ⟨Z', h1, h2⟩ := h _ rfl
  exact ⟨Z', fun hq _ => h1.h hq, h2⟩

/-- A store into an element (from its cell k on) of a slice that is mine. -/
theorem o_storeO {α : Type} [En : Enc α] (u : α) {ty' s j sz k len cap : Nat} {a : Option Addr} {ag : Bool} {x y : Operand} {xs : List α} {Δ rs : Ents} {w : Value} (hw : wantL ops l t g = some true) [hk : Tyk ty' (ag, s)] (hx : evL l t x = some (.pointer (some ⟨blkA a, ix (offA a) j sz k, none⟩))) (hy : evL l t y = some w)
    (hv : Own (.slice a len cap) xs Δ) [fr : FrS Δ S rs] (hj : j < xs.length) (hsz : En.sz = sz) (hws : Nat.beq w.cells.toList.length s = true) (hone : (w.cells.toList.all (·.oneCell')) = true) (hu : setO k w.cells.toList (En.enc xs[j]).toList = some (En.enc u).toList)
    (h : ∀ Δ', Own (.slice a len cap) (xs.set j u) Δ' → ∃ Z', KA z sq Z (Δ' ++ rs) Z' ∧ OpF Tryz.prog E fn n ops sq rest K (den l t) ds Z' (Δ' ++ rs)) : OpX Tryz.prog E fn n ops sq i z rest ⟨none, .store ty' x y, ty, pos, af, g⟩ K (den l t) ds Zi Z S := by
  subst hsz
  have hs := Nat.eq_of_beq_eq_true hws
  cases hv with
  | nil => exact absurd hj (by simp)
  | @some b cap c tb xs h1 h2 h3 =>
    have hle := h1.ext hj
    obtain ⟨_, h5⟩ := setO_ok hu
    simp only [Array.length_toList, En.size] at h5 hs
    simp only [blkA, offA, ix_eq] at hx
    refine o_A rfl (R := fun _ S' => S' = ⟨b, true, .cells (setCells c (0 + j * En.sz + k) w.cells.toList) tb (0, 0)⟩ :: rs) (exec_of hw rfl rfl rfl ?_) ?_
    · refine semH_perm ?_ fr.h
      exact op_store (R := fun _ S' => S' = ⟨b, true, .cells (setCells c (0 + j * En.sz + k) w.cells.toList) tb (0, 0)⟩ :: rs) (S := [⟨b, true, .cells c tb (0, 0)⟩] ++ rs) (c := c) hk.h (evL_eq hx) (by rw [evL_eq hy]) (by simpa using hs) hone (by simp only; omega) .here rfl
    · rintro _ _ rfl
      have hsetlen : (xs.set j u).length = xs.length := List.length_set
      have ho : Own (.slice (some ⟨b, 0, none⟩) xs.length cap) (xs.set j u) [⟨b, true, .cells (setCells c (0 + j * En.sz + k) w.cells.toList) tb (0, 0)⟩] := by
        have := Own.some (b := b) (cap := cap) (ty := tb) (h1.setIn hj hu) (by rw [setCells_size 0]; exact h2) (by rw [hsetlen]; exact h3)
        rw [hsetlen] at this
        exact this
      obtain ⟨Z', k1, k2⟩ := h _ ho
      exact ⟨Z', fun hq _ => k1.h hq, k2⟩

/-- An array sliced from its beginning. -/
theorem o_sliceA (hi' : Nat) {st e sz len b off : Nat} {ag : Bool} {x : Operand} {hi : Option Operand} {vh : Option Value} (hw : wantL ops l t g = some true) (hd : Nat.blt d n = true) (hs : lk1 arT st = some (len, e)) [hk : Tyk e (ag, sz)]
    (hx : evL l t x = some (.pointer (some ⟨b, off, none⟩))) (hh : evO l t hi = some vh) (hhi : vh = some (.int .i64 (hi' : Int))) (h2 : hi' ≤ len)
    (h : OpF Tryz.prog E fn n ops sq rest K (den ((d, .slice (some ⟨b, off, none⟩) hi' len) :: l) t) ds Z S) : OpX Tryz.prog E fn n ops sq i z rest ⟨some d, .slice st x none hi none, ty, pos, af, g⟩ K (den l t) ds Zi Z S := by
  refine o_V rfl (vop_of hw hd rfl rfl fun S hS => ?_) h
  refine semH_bind (?_ : SemH Tryz.prog E.m (Instr.sliceAt st (ev (den l t) x) none (hi.map (ev (den l t))) none) S _)
  rw [evL_eq hx, evO_eq hh, hhi]
  unfold Instr.sliceAt
  refine semH_bind (semH_underlying (arT_ok hs) ?_)
  refine semH_bind (semH_pure ?_)
  unfold Instr.sliceBounds
  refine semH_bind (semH_bind (semH_pure (semH_bind (semH_bound (x := none) rfl h2 (semH_bind (semH_pure (semH_pure ?_)))))))
  refine semH_bind (semH_sizeOf hk.h (semH_pure (semH_pure ⟨_, .inl rfl, ?_, rfl⟩)))
  simp only [Nat.zero_mul, Nat.sub_zero]
  split <;> simp [add_mk]

/-! make -/

theorem isRow_zero {α : Type} [En : Enc α] {zs : Array Value} {u : α} (hz : zs = En.enc u) (k : Nat) : IsRow ((Array.range (k * En.sz)).map (zs[· % zs.size]!)) 0 (List.replicate k u) := by
  subst hz
  intro i hi q hq
  simp only [List.length_replicate] at hi
  have h1 : 0 + i * En.sz + q < k * En.sz := by
    have := Nat.mul_le_mul_right En.sz (show i + 1 ≤ k by omega)
    rw [Nat.add_mul, Nat.one_mul] at this
    omega
  simp only [List.getElem_replicate, Array.getElem?_map, En.size]
  rw [Array.getElem?_range, if_pos h1]
  simp only [Option.map_some]
  have h2 : (0 + i * En.sz + q) % En.sz = q := by rw [Nat.zero_add, Nat.add_comm, Nat.add_mul_mod_self_right, Nat.mod_eq_of_lt hq]
  rw [h2]
  have h3 : q < (En.enc u).size := by rw [En.size]; exact hq
  rw [Array.getElem?_eq_getElem h3, getElem!_pos (En.enc u) q h3]

theorem semH_askRoom {P : Program} {m : Mode} {S : Ents} {k : Nat} {R : Unit → Ents → Prop} (h : R () S) : SemH P m (askRoom k) S R := by
  unfold askRoom
  exact semH_ite (fun _ => semH_mark (.inl rfl) h) fun _ => semH_pure h

theorem semH_make {P : Program} {m : Mode} {S : Ents} {α : Type} [En : Enc α] (u : α) {st e sz by' k : Nat} {zs : Array Value} {R : Value → Ents → Prop} (hs : P.underlying st = some (.slice e)) (he : eb P e = some (sz, by') ∧ 0 < by' ∧ by' ≤ 1000) (hz : zeroOf P e = some zs) (hzu : zs = En.enc u) (hsz : En.sz = sz) (hk : k ≤ 1000000)
    (h : ∀ b c, IsRow c 0 (List.replicate k u) → c.size = k * En.sz → R (.slice (some ⟨b, 0, none⟩) k k) (⟨b, true, .cells c e (0, 0)⟩ :: S)) : SemH P m (Instr.makeSlice st (.int .i64 (k : Int)) (.int .i64 (k : Int))) S R := by
  obtain ⟨he, hb1, hb2⟩ := he
  subst hsz
  have hpos := En.pos
  unfold Instr.makeSlice
  refine semH_bind (semH_underlying hs ?_)
  simp only
  refine semH_bind (semH_pure ?_)
  refine semH_bind (semH_pure ?_)
  refine semH_bytes he fun i hi => ?_
  have hw : IntKind.i64.wrap (k : Int) = (k : Int) := wrap_in (by omega) (by omega)
  simp only [hw, hi]
  have h1 : by' * k ≤ 1000000000 := Nat.le_trans (Nat.mul_le_mul hb2 hk) (by decide)
  have h2 : (by' : Int) * (k : Int) ≤ 1000000000 := by
    have := Int.ofNat_le.2 h1
    rw [Int.natCast_mul] at this
    omega
  have e48 : (2 : Int) ^ 48 = 281474976710656 := by decide
  have hnb : ¬ (((decide ((k : Int) < 0) || decide ((by' : Int) * (k : Int) > 281474976710656)) = true ∨ (k : Int) < 0 ∨ (k : Int) > (k : Int))) := by
    simp only [Bool.or_eq_true, decide_eq_true_eq]
    omega
  rw [e48]
  rw [if_neg (by simp only [Bool.or_eq_true, decide_eq_true_eq] at hnb ⊢; omega)]
  refine semH_bind (semH_askRoom ?_)
  refine semH_bind (semH_sizeOf' he ?_)
  simp only [Int.toNat_natCast]
  by_cases h0 : k * En.sz = 0
  · have hk0 : k = 0 := by
      rcases Nat.mul_eq_zero.1 h0 with h | h
      · exact h
      · omega
    subst hk0
    rw [if_pos h0]
    refine semH_bind (semH_pure ?_)
    unfold newRow
    refine semH_bind (semH_bind (semH_new fun b => semH_pure (semH_pure ?_)))
    exact h b _ (by simpa using IsRow.nil) (by simp)
  · rw [if_neg h0]
    refine semH_bind (semH_zero hz fun v hv => semH_bind (semH_pure ?_))
    subst hv
    unfold newRow
    refine semH_bind (semH_bind (semH_new fun b => semH_pure (semH_pure ?_)))
    exact h b _ (isRow_zero hzu k) (by simp)

theorem o_make {α : Type} [En : Enc α] (u : α) {st e sz by' : Nat} (k : Nat) {x y : Operand} {zs : Array Value} (hw : wantL ops l t g = some true) (hd : Nat.blt d n = true) (hs : lk1 slT st = some e) [he : Eb e sz by'] [hz : Zo e zs] (hx : evL l t x = some (.int .i64 (k : Int))) (hy : evL l t y = some (.int .i64 (k : Int)))
    (hzu : zs = En.enc u) (hsz : En.sz = sz) (hk : k ≤ 1000000) (h : ∀ v Δ, Own v (List.replicate k u) Δ → OpF Tryz.prog E fn n ops sq rest K (den ((d, v) :: l) t) ds Z (Δ ++ S)) : OpX Tryz.prog E fn n ops sq i z rest ⟨some d, .makeSlice st x y, ty, pos, af, g⟩ K (den l t) ds Zi Z S := by
  refine o_A rfl (R := fun v S' => ∃ Δ, Own v (List.replicate k u) Δ ∧ S' = Δ ++ S) (exec_of hw hd rfl rfl ?_) ?_
  · refine semH_bind (?_ : SemH Tryz.prog E.m (Instr.makeSlice st (ev (den l t) x) (ev (den l t) y)) S _)
    rw [evL_eq hx, evL_eq hy]
    refine semH_make u (slT_ok hs) he.h hz.h hzu hsz hk fun b c h1 h2 => semH_pure ⟨_, .inl rfl, [⟨b, true, .cells c e (0, 0)⟩], ?_, rfl⟩
    have := Own.some (b := b) (cap := k) (ty := e) h1 h2 (by simp)
    simpa using this
  · rintro v _ ⟨Δ, ho, rfl⟩
    exact ⟨Z, fun _ hz => ⟨fun _ => List.Sublist.refl _, hz.trans (List.sublist_append_right _ _)⟩, h v Δ ho⟩

/-! structs of numbers compared -/

/-- k fields, all ints. -/
def intsT (P : Program) (t k : Nat) : Bool := match P.underlying t with
  | some (.struct fs) => decide (fs.toList.map (fun f => (f.type, f.offset, f.name == "_")) = (List.range k).map fun i => (3, i, false)) && !P.stoodInHeld t && !P.eqGuardType P.depth t && (match P.underlying 3 with | some (.int _) => true | _ => false)
  | _ => false
class IntsT (t k : Nat) : Prop where h : intsT Tryz.prog t k = true
end
end Go.Proofs.YtpnnmklacialgaaGreat
namespace Go.Proofs.YtpnnmklacialgaaGreat
open Go.Conc

def aggI (xs : List Int) : Value := .agg (xs.map fun x => Value.int .i64 x).toArray

theorem semH_forEq {P : Program} {m : Mode} {S : Ents} {xs ys : List Int} {B : Field → Option Bool × Unit → Sem (ForInStep (Option Bool × Unit))}
    (hB : ∀ f i, f.type = 3 → f.offset = i → (f.name == "_") = false → (h : i < xs.length) → (h2 : i < ys.length) → SemH P m (B f (none, ())) S fun r S' => S' = S ∧ r = if xs[i] = ys[i] then .yield (none, ()) else .done (some false, ())) :
    ∀ (l : List Field) (i q : Nat), l.map (fun f => (f.type, f.offset, f.name == "_")) = (List.range' i q).map (fun i => (3, i, false)) → i + q = xs.length → i + q = ys.length →
      SemH P m (forIn l (none, ()) B) S fun r S' => S' = S ∧ r = (if xs.drop i = ys.drop i then none else some false, ())
  | [], i, q, hl, hx, hy => by
    have : q = 0 := by
      cases q with
      | zero => rfl
      | succ q => simp [List.range'_succ] at hl
    subst this
    simp only [List.forIn_nil]
    refine semH_pure ⟨rfl, ?_⟩
    rw [List.drop_of_length_le (by omega), List.drop_of_length_le (by omega), if_pos rfl]
  | f :: l, i, q, hl, hx, hy => by
    cases q with
    | zero => simp at hl
    | succ q =>
      simp only [List.range'_succ, List.map_cons, List.cons.injEq, Prod.mk.injEq] at hl
      obtain ⟨⟨h1, h2, h3⟩, hl⟩ := hl
      simp only [List.forIn_cons]
      refine semH_bind (semH_mono (hB f i h1 h2 h3 (by omega) (by omega)) ?_)
      rintro r S' ⟨rfl, rfl⟩
      have e : (xs.drop i = ys.drop i) ↔ (xs[i]'(by omega) = ys[i]'(by omega) ∧ xs.drop (i + 1) = ys.drop (i + 1)) := by
        rw [List.drop_eq_getElem_cons (by omega : i < xs.length), List.drop_eq_getElem_cons (by omega : i < ys.length), List.cons.injEq]
      by_cases he : xs[i]'(by omega) = ys[i]'(by omega)
      · simp only [he, if_true]
        refine semH_mono (semH_forEq hB l (i + 1) q hl (by omega) (by omega)) ?_
        rintro r S' ⟨rfl, rfl⟩
        refine ⟨rfl, ?_⟩
        simp only [e, he, true_and]
      · simp only [he, if_false]
        exact semH_pure ⟨rfl, by simp [e, he]⟩

theorem semH_equal {P : Program} {m : Mode} {S : Ents} {t k : Nat} {xs ys : List Int} {R : Bool → Ents → Prop} (ht : intsT P t k = true) (hx : xs.length = k) (hy : ys.length = k) (hk3 : tyk P 3 = some (false, 1)) (h : R (decide (xs = ys)) S) : SemH P m (Op.equal t (aggI xs) (aggI ys)) S R := by
  unfold intsT at ht
  cases hu : P.underlying t with
  | none => simp [hu] at ht
  | some D =>
    cases D <;> simp only [hu] at ht <;> try (cases ht; done)
    rename_i fs
    simp only [Bool.and_eq_true, decide_eq_true_eq, Bool.not_eq_true'] at ht
    obtain ⟨⟨⟨hf, hst⟩, hg⟩, h3⟩ := ht
    unfold Op.equal Op.maxDepth Op.equalIn
    refine semH_bind (semH_underlying hu ?_)
    simp only [aggI]
    refine semH_bind (semH_program ?_)
    rw [hst]
    simp only [Bool.false_eq_true, if_false]
    have hi3 : ∃ kk, P.underlying 3 = some (.int kk) := by
      cases h4 : P.underlying 3 with
      | none => simp [h4] at h3
      | some D => cases D <;> simp [h4] at h3 <;> exact ⟨_, rfl⟩
    obtain ⟨kk, hi3⟩ := hi3
    have hpart : ∀ (zs : List Int) (i : Nat) (hz : i < zs.length) {R : Value → Ents → Prop}, R (.int .i64 zs[i]) S → SemH P m (part 3 (zs.map fun x => Value.int .i64 x).toArray i) S R := by
      intro zs i hz R hR
      unfold part
      refine semH_bind (semH_isAgg hk3 ?_)
      simp only [Bool.false_eq_true, if_false]
      have : ((zs.map fun x => Value.int .i64 x).toArray)[i]? = some (.int .i64 zs[i]) := by simp [hz]
      rw [this]
      exact semH_pure hR
    rw [← Array.forIn_toList]
    refine semH_bind (semH_mono (semH_forEq (xs := xs) (ys := ys) ?_ fs.toList 0 k (by rw [hf, List.range_eq_range']) (by omega) (by omega)) ?_)
    · intro f i h1 h2 h3 hx hy
      have hne : f.name ≠ "_" := by simpa using h3
      rw [if_pos hne, h1, h2]
      refine semH_bind (hpart xs i hx (semH_bind (hpart ys i hy (semH_bind ?_))))
      unfold Op.equalIn
      refine semH_bind (semH_underlying hi3 ?_)
      simp only [if_true]
      refine semH_pure ?_
      by_cases he : xs[i] = ys[i]
      · simp only [he, beq_self_eq_true, Bool.not_true, Bool.false_eq_true, if_false, if_true]
        exact semH_pure ⟨rfl, rfl⟩
      · have : (xs[i] == ys[i]) = false := by simpa using he
        simp only [this, he, Bool.not_false, if_true, if_false]
        exact semH_pure ⟨rfl, rfl⟩
    · rintro r S' ⟨rfl, rfl⟩
      simp only [List.drop_zero]
      by_cases he : xs = ys
      · simp only [he, if_true]
        exact semH_pure (by simpa [he] using h)
      · simp only [he, if_false]
        exact semH_pure (by simpa [he] using h)
/-- The numbers of cells. -/
def intsOf : List Value → Option (List Int)
  | [] => some []
  | .int .i64 a :: l => match intsOf l with
    | some r => some (a :: r)
    | none => none
  | _ => none
theorem intsOf_ok : ∀ {cs : List Value} {xs : List Int}, intsOf cs = some xs → cs = xs.map fun x => Value.int .i64 x
  | [], xs, h => by cases h; rfl
  | c :: cs, xs, h => by
    unfold intsOf at h
    split at h
    · cases h; rename_i e; cases e
    · rename_i e
      cases e
      split at h
      · rename_i hr
        cases h
        rw [intsOf_ok hr]; rfl
      · cases h
    · cases h

section
variable {P : Program} {m : Mode} {S : Ents} {α : Type} [En : Enc α]

/-- An append that has room stays where it is. -/
def InP (v v' : Value) (n : Nat) : Prop := ∀ a len cap, v = .slice a len cap → n ≤ cap → v' = .slice a n cap
theorem op_appendS {ρ : Operand → Value} {d : Option Tmp} {ty sT xT e e2 sz by' : Nat} {pos : String} {af : Array Edge} {g : Option (Nat × Bool)} {x y : Operand} {xs ys : List α} {Δ rest : Ents} {v w : Value} {R : Value → Ents → Prop}
    (hs : P.underlying sT = some (.slice e)) (hs2 : P.underlying xT = some (.slice e2)) (he : eb P e = some (sz, by') ∧ 0 < by' ∧ by' ≤ 1000) (hz : (zeroOf P e).map (·.size) = some sz) (hsz : En.sz = sz) (hx : ρ x = v) (hy : ρ y = w) (hv : Own v xs Δ) [fr : FrS Δ S rest] (hws : SlV (Δ ++ rest) w ys)
    (hlen : (xs.length + ys.length) * by' ≤ 140737488355328) (h : ∀ v' Δ', Own v' (xs ++ ys) Δ' → InP v v' (xs.length + ys.length) → R v' (Δ' ++ rest)) :
    OpH P m ⟨d, .call { callee := .builtin .append, args := #[x, y], argTypes := #[sT, xT] }, ty, pos, af, g⟩ ρ S R := by
  subst hsz
  refine semH_perm ?_ fr.h
  obtain ⟨he, hb1, hb2⟩ := he
  have hpos := En.pos
  have hwl : ∃ a cap, w = .slice a ys.length cap := let ⟨a, cap, h1, _⟩ := hws; ⟨a, cap, h1⟩
  obtain ⟨wa, wc, hwe⟩ := hwl
  have hlenOf : Builtin.lenOf w = pure ys.length := by rw [hwe]; rfl
  have hvl : ∃ a cap, v = .slice a xs.length cap ∧ xs.length ≤ cap := let ⟨a, cap, h1, h2, _⟩ := hv.slv; ⟨a, cap, h1, h2⟩
  obtain ⟨va, vc, hve, hvc⟩ := hvl
  unfold execOp
  simp only [resolve]
  refine semH_bind (semH_pure ?_)
  simp only [invoke, builtin]
  refine semH_bind ?_
  unfold Builtin.append_
  simp only [List.map_toArray, List.map_cons, List.map_nil, hx, hy, List.getElem?_toArray, List.getElem?_cons_zero, List.getElem?_cons_succ]
  refine semH_bind (semH_underlying hs ?_)
  simp only [hve]
  refine semH_bind (semH_sizeOf' he ?_)
  refine semH_bind (semH_underlying hs2 ?_)
  refine semH_bind (semH_pure ?_)
  simp only [Bool.false_eq_true, if_false, Bool.not_false, if_true, false_or]
  rw [hlenOf]
  refine semH_bind (semH_pure ?_)
  by_cases hroom : xs.length + ys.length ≤ vc
  · rw [if_pos hroom]
    refine semH_bind (semH_row rfl hws ?_)
    cases hv with
    | nil =>
      cases hve
      have hy0 : ys = [] := by simpa using hroom
      subst hy0
      refine semH_bind (semH_pure (semH_pure (semH_pure ⟨_, .inl rfl, ?_⟩)))
      exact h _ [] .nil (fun a len cap e _ => by cases e; rfl)
    | @some b cap c ty xs h1 h2 h3 =>
      cases hve
      have hsz : (xs.length + ys.length) * En.sz ≤ c.size := by rw [h2]; exact Nat.mul_le_mul_right _ hroom
      have e : (⟨b, 0, none⟩ : Addr).add (xs.length * En.sz) = ⟨b, xs.length * En.sz, none⟩ := by rw [add_mk, Nat.zero_add]
      have hsz' : xs.length * En.sz + 0 + (rowL ys).length ≤ c.size := by rw [rowL_length, Nat.add_zero, ← Nat.add_mul]; exact hsz
      simp only [e]
      have hu : Upd ([⟨b, true, .cells c ty (0, 0)⟩] ++ rest) b (.cells c ty (0, 0)) (.cells (setCells c (xs.length * En.sz + 0) (rowL ys)) ty (0, 0)) (⟨b, true, .cells (setCells c (xs.length * En.sz) (rowL ys)) ty (0, 0)⟩ :: rest) := .here
      refine semH_bind (semH_storeCells (rowL ys) 0 rowL_one hsz' hu (semH_pure (semH_pure ⟨_, .inl rfl, ?_⟩)))
      have hk := h _ _ (.some (b := b) (ty := ty) (cap := vc) (isRow_set h1 hsz) (by rw [setCells_size 0]; exact h2) (by rw [List.length_append]; exact hroom)) (fun a len cap e _ => by cases e; rw [List.length_append])
      rw [List.length_append] at hk
      exact hk
  · rw [if_neg hroom]
    have hbig : Builtin.nextslicecap (xs.length + ys.length) vc * by' ≤ 2 ^ 48 := cap_room (by omega) hb2 hlen
    have hfit := need_fits hb1 hlen
    refine semH_bytes he fun i hi => ?_
    rw [if_neg (by rw [hi]; rintro ⟨hh, _⟩; revert hh; simp only [IntKind.max]; intro hh; have : ((xs.length + ys.length : Nat) : Int) ≤ 140737488355328 := by omega
                   revert hh this; generalize ((xs.length + ys.length : Nat) : Int) = z; intro hh hz; simp [IntKind.signed, IntKind.bits] at hh; omega)]
    refine semH_bytes he fun i2 hi2 => ?_
    rw [if_neg (by rw [hi2]; omega)]
    refine semH_bind (semH_choose fun n => ?_)
    obtain ⟨newCap, hnc, hge⟩ : ∃ nc, (if (Question.appendCap (xs.length + ys.length) vc e).forced = true then 0 else (Question.appendCap (xs.length + ys.length) vc e).cut n) = nc ∧ xs.length + ys.length ≤ nc := ⟨_, rfl, by
      simp only [Question.forced, Bool.false_eq_true, if_false, Question.cut]; omega⟩
    rw [hnc]
    refine semH_bytes he fun i3 hi3 => ?_
    have hask : ∀ {R' : Unit → Ents → Prop} {S : Ents} {k : Nat}, R' () S → SemH P m (askRoom k) S R' := fun hR => by
      unfold askRoom
      refine semH_ite (fun _ => semH_mark (.inl rfl) hR) fun _ => semH_pure hR
    refine semH_bind (hask ?_)
    have hvs : SlV (Δ ++ rest) (.slice va xs.length vc) xs := by rw [← hve]; exact hv.slvS
    refine semH_bind (semH_row rfl hvs ?_)
    refine semH_bind (semH_row rfl hws ?_)
    unfold zeroOf at hz
    cases hzi : (P.info? e).bind (·.zero) with
    | none => simp [hzi] at hz
    | some z =>
      have hz' : zeroOf P e = some z.cells := by unfold zeroOf; rw [hzi]; rfl
      simp only [hzi, Option.map_some, Option.some.injEq] at hz
      refine semH_bind (semH_zero hz' fun z' hz2 => ?_)
      unfold newRow
      refine semH_bind (semH_bind (semH_new fun b => semH_pure (semH_pure ?_)))
      have hzs : z'.cells.size = En.sz := by rw [hz2]; exact hz
      generalize hcells : ((rowL xs).toArray ++ (rowL ys).toArray ++ Builtin.zeroCells z'.cells (newCap - (xs.length + ys.length))) = c
      have hcs : c.size = newCap * En.sz := by
        rw [← hcells]
        simp only [Array.size_append, List.size_toArray, rowL_length, Builtin.zeroCells, Array.size_map, Array.size_range, hzs]
        rw [← Nat.add_mul, ← Nat.add_mul]
        congr 1; omega
      have hrow : IsRow c 0 (xs ++ ys) := by
        refine isRow_of (l := []) (r := (Builtin.zeroCells z'.cells (newCap - (xs.length + ys.length))).toList) ?_
        rw [← hcells, rowL_append]
        simp
      have hk := h (.slice (some ⟨b, 0, none⟩) (xs ++ ys).length newCap) _ (.some (b := b) (ty := e) hrow hcs (by rw [List.length_append]; exact hge)) (fun a len cap e hc => by cases hve.symm.trans e; exact absurd hc hroom)
      rw [List.length_append] at hk
      refine semH_drop (S' := [⟨b, true, .cells c e (0, 0)⟩] ++ rest) (semH_pure ⟨_, .inl rfl, hk⟩) ?_
      exact List.Sublist.cons_cons _ (List.sublist_append_right _ _)

theorem semH_eqGuard {op : BinOp} {t k : Nat} {x y : Operand} {a b : Array Value} (ht : intsT P t k = true) {R : Unit → Ents → Prop} (h : R () S) : SemH P m (eqGuard op t x y (.agg a) (.agg b)) S R := by
  have hg : P.eqGuardType P.depth t = false := by
    unfold intsT at ht
    cases hu : P.underlying t with
    | none => simp [hu] at ht
    | some D =>
      cases D <;> simp only [hu] at ht <;> try (cases ht; done)
      simp only [Bool.and_eq_true, Bool.not_eq_true'] at ht
      exact ht.1.2
  have hgen : SemH P m (do if (!(← program).eqGuardType (← program).depth t) = true then (pure () : Sem Unit) else do if ← Op.eqGuardIn Op.maxDepth t (.agg a) (.agg b) then unsupported (.noEntry "binop/eql: two nil values of an interface type with methods, in a part of a struct or an array")) S R := by
    refine semH_bind (semH_program (semH_bind (semH_program ?_)))
    rw [hg]
    exact semH_pure h
  unfold eqGuard
  cases op <;> first | exact semH_pure h | exact hgen
end

section
variable {E : Env} {fn n : Nat} {Q : Post} {K : Tm → List Deferred → Ents → Prop} {l : TL} {t : Tm} {ds : List Deferred} {S Z Zi : Ents} {ops : Array Oper} {i : Nat} {z : Bool} {rest : List (Nat × Bool)} {sq : Bool}
variable {d : Nat} {ty : TypeId} {pos : String} {af : Array Edge} {g : Option (Nat × Bool)}

theorem o_appendS {α : Type} [En : Enc α] {sT xT e e2 sz by' : Nat} {x y : Operand} {xs ys : List α} {Δ rs : Ents} {v w : Value} (hw : wantL ops l t g = some true) (hd : Nat.blt d n = true) (hx : evL l t x = some v) (hy : evL l t y = some w) (hv : Own v xs Δ) (hwv : SlV (Δ ++ rs) w ys)
    (hlen : (xs.length + ys.length) * by' ≤ 140737488355328) [fr : FrS Δ S rs] (hs : lk1 slT sT = some e) (hs2 : lk1 slT xT = some e2) [he : Eb e sz by'] {cs : Array Value} [hz : Zo e cs] (hcs : cs.size = sz) (hsz : En.sz = sz)
    (h : ∀ v' Δ', Own v' (xs ++ ys) Δ' → InP v v' (xs.length + ys.length) → KZ sq Z (Δ' ++ rs) ∧ OpF Tryz.prog E fn n ops sq rest K (den ((d, v') :: l) t) ds Z (Δ' ++ rs)) :
    OpX Tryz.prog E fn n ops sq i z rest ⟨some d, .call { callee := .builtin .append, args := #[x, y], argTypes := #[sT, xT] }, ty, pos, af, g⟩ K (den l t) ds Zi Z S := by
  refine o_A rfl (R := fun u S' => ∃ Δ', Own u (xs ++ ys) Δ' ∧ InP v u (xs.length + ys.length) ∧ S' = Δ' ++ rs) (exec_of hw hd rfl rfl (op_appendS (slT_ok hs) (slT_ok hs2) he.h (by rw [hz.h]; simp [hcs]) hsz (evL_eq hx) (evL_eq hy) hv (fr := fr) hwv hlen fun v' Δ' ho hi => ⟨Δ', ho, hi, rfl⟩)) ?_
  rintro v' _ ⟨Δ', ho, hi, rfl⟩
  obtain ⟨h1, h2⟩ := h v' Δ' ho hi
  exact ⟨Z, fun hq _ => ⟨fun _ => List.Sublist.refl _, h1.h hq⟩, h2⟩

theorem w_fall {P : Program} {m : Mode} {rs : Array ResultVar} {R : Value → Ents → Prop} {t : Tm} {S : Ents} (h : SemH P m (resultsT rs t) S R) : retQ P m rs R .normal t [] S := ⟨rfl, h⟩
/-- A return that keeps all. -/
theorem w_retA {rs : Array ResultVar} {vs : List Value} {R : Value → Ents → Prop} (hq : Q .ret = retQ Tryz.prog E.m rs R .ret) (hv : Res S l t rs.toList vs) (h : R (pack vs) S) : WP Tryz.prog E fn n .ret Q (den l t) [] S := w_ret S hq hv h
theorem tyk3 : tyk Tryz.prog 3 = some (false, 1) := by kernel_rfl

theorem o_eqS {st t2 k : Nat} {x y : Operand} {a b : Array Value} {xs ys : List Int} (hw : wantL ops l t g = some true) (hd : Nat.blt d n = true) [hi : IntsT st k] (hx : evL l t x = some (.agg a)) (hy : evL l t y = some (.agg b)) (ha : intsOf a.toList = some xs) (hb : intsOf b.toList = some ys) (hxl : Nat.beq xs.length k = true) (hyl : Nat.beq ys.length k = true)
    (h : OpF Tryz.prog E fn n ops sq rest K (den ((d, .bool (decide (xs = ys))) :: l) t) ds Z S) : OpX Tryz.prog E fn n ops sq i z rest ⟨some d, .binOp .eql st x y t2, ty, pos, af, g⟩ K (den l t) ds Zi Z S := by
  refine o_V rfl (vop_of hw hd rfl rfl fun S hS => ?_) h
  refine semH_bind (?_ : SemH Tryz.prog E.m (do eqGuard .eql st x y (ev (den l t) x) (ev (den l t) y); binOp .eql st (ev (den l t) x) (ev (den l t) y)) S _)
  rw [evL_eq hx, evL_eq hy]
  refine semH_bind (semH_eqGuard hi.h ?_)
  have ea : Value.agg a = aggI xs := by unfold aggI; rw [← intsOf_ok ha]
  have eb : Value.agg b = aggI ys := by unfold aggI; rw [← intsOf_ok hb]
  rw [ea, eb]
  simp only [binOp]
  have hs : SemH Tryz.prog E.m (Op.equal st (aggI xs) (aggI ys)) S fun r S' => r = decide (xs = ys) ∧ S' = S := semH_equal hi.h (Nat.eq_of_beq_eq_true hxl) (Nat.eq_of_beq_eq_true hyl) tyk3 ⟨rfl, rfl⟩
  refine semH_bind (semH_mono hs ?_)
  rintro _ _ ⟨rfl, rfl⟩
  exact semH_pure (semH_pure ⟨_, .inl rfl, rfl, rfl⟩)
theorem o_neS {st t2 k : Nat} {x y : Operand} {a b : Array Value} {xs ys : List Int} (hw : wantL ops l t g = some true) (hd : Nat.blt d n = true) [hi : IntsT st k] (hx : evL l t x = some (.agg a)) (hy : evL l t y = some (.agg b)) (ha : intsOf a.toList = some xs) (hb : intsOf b.toList = some ys) (hxl : Nat.beq xs.length k = true) (hyl : Nat.beq ys.length k = true)
    (h : OpF Tryz.prog E fn n ops sq rest K (den ((d, .bool (decide (xs ≠ ys))) :: l) t) ds Z S) : OpX Tryz.prog E fn n ops sq i z rest ⟨some d, .binOp .neq st x y t2, ty, pos, af, g⟩ K (den l t) ds Zi Z S := by
  refine o_V rfl (vop_of hw hd rfl rfl fun S hS => ?_) h
  refine semH_bind (?_ : SemH Tryz.prog E.m (do eqGuard .neq st x y (ev (den l t) x) (ev (den l t) y); binOp .neq st (ev (den l t) x) (ev (den l t) y)) S _)
  rw [evL_eq hx, evL_eq hy]
  refine semH_bind (semH_eqGuard hi.h ?_)
  have ea : Value.agg a = aggI xs := by unfold aggI; rw [← intsOf_ok ha]
  have eb : Value.agg b = aggI ys := by unfold aggI; rw [← intsOf_ok hb]
  rw [ea, eb]
  simp only [binOp]
  have hs : SemH Tryz.prog E.m (Op.equal st (aggI xs) (aggI ys)) S fun r S' => r = decide (xs = ys) ∧ S' = S := semH_equal hi.h (Nat.eq_of_beq_eq_true hxl) (Nat.eq_of_beq_eq_true hyl) tyk3 ⟨rfl, rfl⟩
  refine semH_bind (semH_mono hs ?_)
  rintro _ _ ⟨rfl, rfl⟩
  refine semH_pure (semH_pure ⟨_, .inl rfl, ?_, rfl⟩)
  by_cases he : xs = ys <;> simp [he]

theorem Own.take {α : Type} [En : Enc α] {a : Option Addr} {len cap i : Nat} {xs : List α} {Δ : Ents} (h : Own (.slice a len cap) xs Δ) (hi : i ≤ xs.length) : Own (.slice a i cap) (xs.take i) Δ := by
  cases h with
  | nil =>
    have : i = 0 := by simpa using hi
    subst this
    exact .nil
  | @some b cap c ty xs h1 h2 h3 =>
    have e : (xs.take i).length = i := by rw [List.length_take]; omega
    have := Own.some (b := b) (ty := ty) (xs := xs.take i) (cap := cap) (c := c) (fun j hj q hq => by
      have hj' : j < xs.length := by omega
      rw [List.getElem_take]
      exact h1 j hj' q hq) h2 (by omega)
    rwa [e] at this
/-- clear of what lies behind a slice that is mine. -/
theorem o_clearO {α : Type} [En : Enc α] {st e sz len cap n2 c2 : Nat} {a a2 : Option Addr} {x : Operand} {xs : List α} {Δ rs : Ents} {zs : Array Value} (hw : wantL ops l t g = some true) (hs : lk1 slT st = some e) [hz : Zo e zs] (hzs : zs.size = sz) (hsz : En.sz = sz) (hone : (zs.toList.all (·.oneCell')) = true) (hx : evL l t x = some (.slice a2 n2 c2))
    (hv : Own (.slice a len cap) xs Δ) [fr : FrS Δ S rs] (hp : 0 < n2 → ∃ k, a2 = some ⟨blkA a, k * sz, none⟩ ∧ len ≤ k ∧ k + n2 ≤ cap)
    (h : ∀ Δ', Own (.slice a len cap) xs Δ' → ∃ Z', KA z sq Z (Δ' ++ rs) Z' ∧ OpF Tryz.prog E fn n ops sq rest K (den l t) ds Z' (Δ' ++ rs)) : OpX Tryz.prog E fn n ops sq i z rest ⟨none, .call { callee := .builtin .clear, args := #[x], argTypes := #[st] }, ty, pos, af, g⟩ K (den l t) ds Zi Z S := by
  subst hsz
  refine o_A rfl (R := fun _ S' => ∃ Δ', Own (.slice a len cap) xs Δ' ∧ S' = Δ' ++ rs) (exec_of hw rfl rfl rfl ?_) ?_
  · refine semH_perm ?_ fr.h
    unfold execOp
    simp only [resolve]
    refine semH_bind (semH_pure ?_)
    simp only [invoke, builtin]
    refine semH_bind ?_
    unfold Builtin.clear_
    simp only [List.map_toArray, List.map_cons, List.map_nil, evL_eq hx, List.getElem?_toArray, List.getElem?_cons_zero]
    refine semH_bind (semH_underlying (slT_ok hs) ?_)
    have fin : SemH Tryz.prog E.m (pure (Value.tuple #[]) : Sem Value) (Δ ++ rs) fun a_1 S' => SemH Tryz.prog E.m (pure (Next.value a_1) : Sem Next) S' fun nx S' => ∃ v, (nx = .value v ∨ (nx = .skip ∧ v = undef)) ∧ ∃ Δ', Own (.slice a len cap) xs Δ' ∧ S' = Δ' ++ rs := semH_pure (semH_pure ⟨_, .inl rfl, Δ, hv, rfl⟩)
    cases n2 with
    | zero => cases a2 <;> exact semH_bind (semH_pure fin)
    | succ n2 =>
      obtain ⟨k, rfl, hk1, hk2⟩ := hp (by omega)
      cases hv with
      | nil => omega
      | @some b cap c tb xs h1 h2 h3 =>
        simp only
        refine semH_bind (semH_zero hz.h fun v hv => ?_)
        have hvs : v.cells.size = En.sz := by rw [hv]; exact hzs
        have hlen : (Builtin.zeroCells v.cells (n2 + 1)).toList.length = (n2 + 1) * En.sz := by simp [Builtin.zeroCells, hvs]
        have hall : ((Builtin.zeroCells v.cells (n2 + 1)).toList.all (·.oneCell')) = true := by
          rw [List.all_eq_true] at hone ⊢
          intro q hq
          simp only [Builtin.zeroCells, Array.toList_map, List.mem_map, Array.mem_toList_iff, Array.mem_range] at hq
          obtain ⟨j, hj, rfl⟩ := hq
          have hpos := En.pos
          have hlt : j % v.cells.size < v.cells.size := Nat.mod_lt _ (by omega)
          rw [getElem!_pos v.cells _ hlt]
          refine hone _ ?_
          rw [← hv]
          exact Array.getElem_mem_toList hlt
        have hle : k * En.sz + (n2 + 1) * En.sz ≤ c.size := by rw [h2, ← Nat.add_mul]; exact Nat.mul_le_mul_right _ hk2
        have hu : Upd ([⟨b, true, .cells c tb (0, 0)⟩] ++ rs) b (.cells c tb (0, 0)) (.cells (setCells c (k * En.sz + 0) (Builtin.zeroCells v.cells (n2 + 1)).toList) tb (0, 0)) (⟨b, true, .cells (setCells c (k * En.sz) (Builtin.zeroCells v.cells (n2 + 1)).toList) tb (0, 0)⟩ :: rs) := .here
        refine semH_bind (semH_storeCells (Builtin.zeroCells v.cells (n2 + 1)).toList 0 hall (by rw [hlen]; omega) hu ?_)
        refine semH_pure (semH_pure ⟨_, .inl rfl, [⟨b, true, .cells (setCells c (k * En.sz) (Builtin.zeroCells v.cells (n2 + 1)).toList) tb (0, 0)⟩], ?_, rfl⟩)
        exact .some (h1.setOut (.inr (by have := Nat.mul_le_mul_right En.sz hk1; omega))) (by rw [setCells_size 0]; exact h2) h3
  · rintro v _ ⟨Δ', ho, rfl⟩
    obtain ⟨Z', k1, k2⟩ := h Δ' ho
    exact ⟨Z', fun hq _ => k1.h hq, k2⟩
end
theorem Own.sla {α : Type} [En : Enc α] {a : Option Addr} {len cap : Nat} {xs : List α} {Δ : Ents} (h : Own (.slice a len cap) xs Δ) : len = xs.length ∧ SlA Δ a xs := by
  obtain ⟨a', c', e, _, hr⟩ := h.slv
  simp only [Value.slice.injEq] at e
  obtain ⟨rfl, h1, _⟩ := e
  exact ⟨h1, hr⟩
end Go.Proofs.YtpnnmklacialgaaGreat
namespace Go.Proofs.YtpnnmklacialgaaGreat
open Go.Conc
attribute [local irreducible] WP OpF OpX CallW SemH retQ AnyF

theorem wp_cut {P : Program} {E : Env} {fn n : Nat} {x y : Code} {Q : Post} {t : Tm} {ds : List Deferred} {S : Ents} (M : Tm → List Deferred → Ents → Prop) (h1 : WP P E fn n x (seqQ (fun t ds S' => ∃ S'', List.Sublist S'' S' ∧ M t ds S'') Q) t ds S)
    (h2 : ∀ t ds S, M t ds S → WP P E fn n y Q t ds S) : WP P E fn n (.seq x y) Q t ds S := by
  refine wp_seq (h1.mono fun e t' ds' S' hq => ?_)
  cases e with
  | normal => obtain ⟨S'', hs, hm⟩ := hq; exact (h2 _ _ _ hm).sub hs
  | exit id => exact hq
  | ret => exact hq
  | goto l => exact hq
  | panic c => exact hq
  | outgrown => exact hq

/-- The cells of a tree. -/
structure TreeP (c : Array Value) (a : Value) (u p h : List RangeG) (ev : Bool) : Prop where
  size : c.size = 78
  mains : c[0]? = some a
  used : IsRow c 5 u
  up : IsRow c 29 p
  through : IsRow c 53 h
  even : c[77]? = some (.bool ev)
  lu : u.length = 12
  lp : p.length = 12
  lh : h.length = 12
theorem setO_range {x y : RangeG} : setO 0 (rangeC y).toList (encRange.enc x).toList = some (encRange.enc y).toList := rfl
theorem range_len {x : RangeG} : (rangeC x).toList.length = 2 := rfl
theorem TreeP.setU {c c' : Array Value} {a : Value} {u p h : List RangeG} {ev : Bool} (t : TreeP c a u p h ev) {j : Nat} (hj : j < 12) {x : RangeG} (hc : c' = setCells c (5 + j * 2 + 0) (rangeC x).toList) : TreeP c' a (u.set j x) p h ev := by
  subst hc
  refine ⟨by rw [setCells_size 0]; exact t.size, ?_, t.used.setIn (by rw [t.lu]; exact hj) setO_range, t.up.setOut (.inl (by rw [range_len]; omega)), t.through.setOut (.inl (by rw [range_len]; omega)), ?_, by rw [List.length_set]; exact t.lu, t.lp, t.lh⟩
  · rw [setCells_get, if_neg (by omega)]; exact t.mains
  · rw [setCells_get, if_neg (by rw [range_len]; omega)]; exact t.even
theorem TreeP.setP {c c' : Array Value} {a : Value} {u p h : List RangeG} {ev : Bool} (t : TreeP c a u p h ev) {j : Nat} (hj : j < 12) {x : RangeG} (hc : c' = setCells c (29 + j * 2 + 0) (rangeC x).toList) : TreeP c' a u (p.set j x) h ev := by
  subst hc
  refine ⟨by rw [setCells_size 0]; exact t.size, ?_, t.used.setOut (.inr (by rw [t.lu]; show 5 + 12 * 2 ≤ _; omega)), t.up.setIn (by rw [t.lp]; exact hj) setO_range, t.through.setOut (.inl (by rw [range_len]; omega)), ?_, t.lu, by rw [List.length_set]; exact t.lp, t.lh⟩
  · rw [setCells_get, if_neg (by omega)]; exact t.mains
  · rw [setCells_get, if_neg (by rw [range_len]; omega)]; exact t.even
theorem TreeP.setH {c c' : Array Value} {a : Value} {u p h : List RangeG} {ev : Bool} (t : TreeP c a u p h ev) {j : Nat} (hj : j < 12) {x : RangeG} (hc : c' = setCells c (53 + j * 2 + 0) (rangeC x).toList) : TreeP c' a u p (h.set j x) ev := by
  subst hc
  refine ⟨by rw [setCells_size 0]; exact t.size, ?_, t.used.setOut (.inr (by rw [t.lu]; show 5 + 12 * 2 ≤ _; omega)), t.up.setOut (.inr (by rw [t.lp]; show 29 + 12 * 2 ≤ _; omega)), t.through.setIn (by rw [t.lh]; exact hj) setO_range, ?_, t.lu, t.lp, by rw [List.length_set]; exact t.lh⟩
  · rw [setCells_get, if_neg (by omega)]; exact t.mains
  · rw [setCells_get, if_neg (by rw [range_len]; omega)]; exact t.even
theorem TreeP.setE {c c' : Array Value} {a : Value} {u p h : List RangeG} {ev ev' : Bool} (t : TreeP c a u p h ev) (hc : c' = setCells c 77 [.bool ev']) : TreeP c' a u p h ev' := by
  subst hc
  refine ⟨by rw [setCells_size 0]; exact t.size, ?_, t.used.setOut (.inr (by rw [t.lu]; show 5 + 12 * 2 ≤ _; omega)), t.up.setOut (.inr (by rw [t.lp]; show 29 + 12 * 2 ≤ _; omega)), t.through.setOut (.inr (by rw [t.lh]; show 53 + 12 * 2 ≤ _; omega)), ?_, t.lu, t.lp, t.lh⟩
  · rw [setCells_get, if_neg (by omega)]; exact t.mains
  · rw [setCells_get, if_pos ⟨by omega, by simp, by rw [t.size]; omega⟩]; rfl

/-- Where the mains stand that a main feeds. -/
def belowT (ms : List MainG) (id : Int) (j : Nat) : List Nat := (List.range j).filter fun i => match ms[i]? with | some m => decide (m.up = id) | none => false
def belowN (ms : List MainG) (id : Int) : List Nat := belowT ms id ms.length
def natI (l : List Nat) : List Int := l.map fun (i : Nat) => (i : Int)
theorem belowT_succ {ms : List MainG} {id : Int} {j : Nat} (h : j < ms.length) : belowT ms id (j + 1) = belowT ms id j ++ (if ms[j].up = id then [j] else []) := by
  unfold belowT
  rw [List.range_succ, List.filter_append]
  congr 1
  simp only [List.filter_cons, List.filter_nil, List.getElem?_eq_getElem h]
  by_cases hu : ms[j].up = id <;> simp [hu]
theorem natI_app {l m : List Nat} : natI (l ++ m) = natI l ++ natI m := by simp [natI]
theorem belowT_len {ms : List MainG} {id : Int} {j : Nat} : (belowT ms id j).length ≤ j := by
  have := List.length_filter_le (fun i => match ms[i]? with | some m => decide (m.up = id) | none => false) (List.range j)
  simpa [belowT] using this
theorem natI_len {l : List Nat} : (natI l).length = l.length := by simp [natI]

theorem c105 (E : Env) (S : Ents) (b : Nat) (mn : Bool) (c : Array Value) (fz : Nat × Nat) (ms : List MainG) (v : Value) (id : Int) (hin : (⟨b, mn, .cells c 140 fz⟩ : Ent) ∈ S) (hc : c[0]? = some v) (hv : SlV S v ms) (hm : ms.length ≤ 12) :
    CallW Tryz.prog E 105 #[.pointer (some ⟨b, 0, none⟩), iv id] S fun r S' => ∃ Δ, Own r (natI (belowN ms id)) Δ ∧ S' = Δ ++ S := by
  obtain ⟨q, cp, rfl, _, hr⟩ := hv
  have := SlI.mk hr
  have : InS b S mn (.cells c 140 fz) := ⟨hin⟩
  have : CellI c (0 + 0 + 0) (.slice q ms.length cp) := ⟨hc⟩
  refine call_in (args := [.pointer (some ⟨b, 0, none⟩), iv id]) Tryz.func105 (by decide) rfl rfl ?_
  repeat' first|(refine gX ?_;first|refine o_v rfl rfl ?_|(refine o_splitD rfl rfl rfl ?_ ?_<;>intro h)|(refine o_split rfl rfl rfl ?_ ?_<;>intro h<;>fail_if_success exact Bool.noConfusion h)|(refine gL ?_;first|refine o_load rfl rfl rfl rfl ?_|refine o_loadR rfl rfl rfl (by omega) rfl rfl ?_|refine o_loadW rfl rfl rfl rfl ?_|refine o_loadK rfl rfl rfl ?_)|(refine gF ?_;first|refine o_fieldI rfl rfl rfl rfl ?_|refine o_field rfl rfl rfl rfl ?_)|(refine gB ?_;first|refine o_add rfl rfl rfl rfl (by omega) ?_|refine o_sub rfl rfl rfl rfl (by omega) ?_|refine o_eqNil rfl rfl rfl rfl rfl ?_)|(refine gI ?_;first|refine o_indexS rfl rfl rfl rfl rfl rfl (by omega) ?_|refine o_index rfl rfl rfl rfl rfl (by omega) ?_)|(refine gS ?_;first|refine o_store rfl rfl rfl rfl rfl rfl ?_|refine o_storeW rfl rfl rfl rfl rfl rfl ?_)|(refine o_allocZ rfl rfl ?_;intro _)|(refine o_box rfl rfl rfl ?_;intro _)|refine o_skip rfl rfl ?_|refine o_skipN rfl rfl ?_|refine o_iface rfl rfl rfl ?_|refine o_build rfl rfl rfl rfl rfl ?_|(refine o_bslice rfl rfl rfl rfl rfl rfl rfl ?_;intro _)|(refine o_splitP rfl ?_ ?_<;>intro h<;>fail_if_success exact Bool.noConfusion h))|refine o_head0 rfl ?_|refine o_end ?_|refine o_head1 rfl ?_|refine wp_seq ?_|refine o_region ?_|refine wp_block ?_|refine wp_skip ?_|refine wp_exit ?_|(refine w_condD rfl ?_ ?_<;>intro h)|(refine w_cond rfl ?_ ?_<;>intro h<;>try exact Bool.noConfusion h)|refine w_ret (S) (vs:=[_]) rfl (Res.tmp rfl Res.nil) ?_
  refine wp_loop (fun i t ds S' => ∃ (j : Nat) (t0 : Tm) (w : Value) (Δ : Ents), i = ms.length - j ∧ j ≤ ms.length ∧ [] = ds ∧ Δ ++ S = S' ∧ t = den [(14, .int .i64 j), (13, .int .i64 ms.length), (12, .slice q ms.length cp), (5, w), (1, iv id)] t0 ∧ Own w (natI (belowT ms id j)) Δ)
    ms.length ⟨0, _, _, [], rfl, Nat.zero_le _, rfl, rfl, keep ⟨rfl, rfl, rfl, rfl, rfl, trivial⟩, .nil⟩ ?_
  rintro i t ds S' ⟨j, t0, w, Δ, rfl, hj, rfl, rfl, rfl, ho⟩
  repeat' first|(refine gX ?_;first|refine o_v rfl rfl ?_|(refine o_splitD rfl rfl rfl ?_ ?_<;>intro h)|(refine o_split rfl rfl rfl ?_ ?_<;>intro h<;>fail_if_success exact Bool.noConfusion h)|(refine gL ?_;first|refine o_load rfl rfl rfl rfl ?_|refine o_loadR rfl rfl rfl (by omega) rfl rfl ?_|refine o_loadW rfl rfl rfl rfl ?_|refine o_loadK rfl rfl rfl ?_)|(refine gF ?_;first|refine o_fieldI rfl rfl rfl rfl ?_|refine o_field rfl rfl rfl rfl ?_)|(refine gB ?_;first|refine o_add rfl rfl rfl rfl (by omega) ?_|refine o_sub rfl rfl rfl rfl (by omega) ?_|refine o_eqNil rfl rfl rfl rfl rfl ?_)|(refine gC ?_;first|(refine o_append1 (j : Int) rfl rfl rfl rfl ho rfl (by rw [natI_len]; exact Nat.le_trans belowT_len (by omega)) rfl rfl rfl rfl ?_;intro w2 Δ2 ho2;refine ⟨inferInstance, ?_⟩))|(refine gI ?_;first|refine o_indexS rfl rfl rfl rfl rfl rfl (by omega) ?_|refine o_index rfl rfl rfl rfl rfl (by omega) ?_)|(refine gS ?_;first|refine o_store rfl rfl rfl rfl rfl rfl ?_|refine o_storeW rfl rfl rfl rfl rfl rfl ?_)|(refine o_allocZ rfl rfl ?_;intro _)|(refine o_box rfl rfl rfl ?_;intro _)|refine o_skip rfl rfl ?_|refine o_skipN rfl rfl ?_|refine o_iface rfl rfl rfl ?_|refine o_build rfl rfl rfl rfl rfl ?_|(refine o_bslice rfl rfl rfl rfl rfl rfl rfl ?_;intro _)|(refine o_splitP rfl ?_ ?_<;>intro h<;>fail_if_success exact Bool.noConfusion h))|refine o_head0 rfl ?_|refine o_end ?_|refine o_head1 rfl ?_|refine wp_seq ?_|refine o_region ?_|refine wp_block ?_|refine wp_skip ?_|refine wp_exit ?_|(refine w_condD rfl ?_ ?_<;>intro h)|(refine w_cond rfl ?_ ?_<;>intro h<;>try exact Bool.noConfusion h)|refine w_ret (Δ ++ S) (vs:=[_]) rfl (Res.tmp rfl Res.nil) ?_|refine w_ret (S) (vs:=[_]) rfl (Res.tmp rfl Res.nil) ?_
  · rename_i Δ2 ho2
    refine ⟨ms.length - (j + 1), by omega, _, Sb.h, j + 1, _, _, Δ2, rfl, by omega, rfl, rfl, keep ⟨rfl, rfl, rfl, rfl, rfl, trivial⟩, ?_⟩
    rw [belowT_succ (by omega), if_pos (by assumption), natI_app]
    exact ho2
  · refine ⟨ms.length - (j + 1), by omega, _, Sb.h, j + 1, _, _, Δ, rfl, by omega, rfl, rfl, keep ⟨rfl, rfl, rfl, rfl, rfl, trivial⟩, ?_⟩
    rw [belowT_succ (by omega), if_neg (by assumption), List.append_nil]
    exact ho
  · have : j = ms.length := by omega
    subst this
    exact ⟨Δ, ho, rfl⟩

def zR : RangeG := ⟨0, 0⟩
def leakOf (ms : List MainG) (i : Nat) : RangeG := match ms[i]? with | some m => m.leak | none => zR
def idOf (ms : List MainG) (i : Nat) : Int := match ms[i]? with | some m => m.id | none => 0
def partOf (p : List RangeG) (i : Nat) : RangeG := p.getD i zR
/-- What a main lets through but for one part. -/
def restL (ms : List MainG) (u p : List RangeG) (i : Nat) (but : Int) : List RangeG :=
  ((if but ≠ -1 then [partOf u i] else []) ++ (if but ≠ -2 then [leakOf ms i] else [])) ++ ((belowN ms (idOf ms i)).filter fun (k : Nat) => decide ((k : Int) ≠ but)).map (partOf p)
def restR (ms : List MainG) (u p : List RangeG) (i : Nat) (but : Int) : RangeG := sumR (restL ms u p i but)
theorem partOf_get {p : List RangeG} {i : Nat} (h : i < p.length) : partOf p i = p[i] := by
  unfold partOf; simp [List.getD, h]
theorem mem_below {ms : List MainG} {id : Int} {k : Nat} (h : k ∈ belowN ms id) : k < ms.length := by
  unfold belowN belowT at h
  rw [List.mem_filter] at h
  exact List.mem_range.1 h.1
theorem restL_len {ms : List MainG} {u p : List RangeG} {i : Nat} {but : Int} : (restL ms u p i but).length ≤ ms.length + 2 := by
  unfold restL
  have h1 : ((belowN ms (idOf ms i)).filter fun (k : Nat) => decide ((k : Int) ≠ but)).length ≤ ms.length := Nat.le_trans (List.length_filter_le _ _) belowT_len
  simp only [List.length_append, List.length_map]
  generalize ((belowN ms (idOf ms i)).filter fun (k : Nat) => decide ((k : Int) ≠ but)).length = q at h1 ⊢
  split <;> split <;> simp only [List.length_cons, List.length_nil] <;> omega
theorem restL_bd {ms : List MainG} {u p : List RangeG} {i : Nat} {but M : Int} (h0 : 0 ≤ M) (hu : ∀ x ∈ u, Bd M x) (hp : ∀ x ∈ p, Bd M x) (hm : ∀ m ∈ ms, Bd M m.leak) : ∀ x ∈ restL ms u p i but, Bd M x := by
  have hz : Bd M zR := by unfold Bd zR; simp only; omega
  have hpo : ∀ (q : List RangeG) k, (∀ x ∈ q, Bd M x) → Bd M (partOf q k) := fun q k hq => by
    unfold partOf
    rcases Nat.lt_or_ge k q.length with h | h
    · simp [List.getD, h]; exact hq _ (List.getElem_mem h)
    · simp [List.getD, h]; exact hz
  have hlk : Bd M (leakOf ms i) := by
    unfold leakOf
    cases h : ms[i]? with
    | none => exact hz
    | some m => exact hm m (List.mem_of_getElem? h)
  intro x hx
  unfold restL at hx
  simp only [List.mem_append, List.mem_map] at hx
  rcases hx with (hx | hx) | ⟨k, _, rfl⟩
  · split at hx
    · rw [List.mem_singleton.1 hx]; exact hpo u i hu
    · cases hx
  · split at hx
    · rw [List.mem_singleton.1 hx]; exact hlk
    · cases hx
  · exact hpo p k hp

theorem c111 (E : Env) (S : Ents) (b : Nat) (mn : Bool) (c : Array Value) (fz : Nat × Nat) (ms : List MainG) (v : Value) (u p hh : List RangeG) (ev : Bool) (i : Nat) (but : Int) (hin : (⟨b, mn, .cells c 140 fz⟩ : Ent) ∈ S) (ht : TreeP c v u p hh ev) (hv : SlV S v ms) (hm : ms.length ≤ 12) (hi : i < ms.length)
    (hu : ∀ x ∈ u, Bd 1000000000000000 x) (hp : ∀ x ∈ p, Bd 1000000000000000 x) (hk : ∀ m ∈ ms, Bd 1000000000000000 m.leak) :
    CallW Tryz.prog E 111 #[.pointer (some ⟨b, 0, none⟩), iv i, iv but] S fun r S' => r = .agg (rangeC (restR ms u p i but)) ∧ S' = S := by
  have hv0 := hv
  have hbd := restL_bd (i := i) (but := but) (by omega) hu hp hk
  obtain ⟨q, cp, rfl, _, hr⟩ := hv
  have := SlI.mk hr
  have : InS b S mn (.cells c 140 fz) := ⟨hin⟩
  have : CellI c (0 + 0 + 0) (.slice q ms.length cp) := ⟨ht.mains⟩
  have : RowC c (0 + 5) RangeG encRange u := ⟨ht.used⟩
  have : RowC c (0 + 29) RangeG encRange p := ⟨ht.up⟩
  have e0 : leakOf ms i = ms[i].leak := by unfold leakOf; rw [List.getElem?_eq_getElem hi]
  have e1 : idOf ms i = ms[i].id := by unfold idOf; rw [List.getElem?_eq_getElem hi]
  have e2 : partOf u i = u[i]'(by rw [ht.lu]; omega) := partOf_get _
  have hlu := ht.lu
  have hlp := ht.lp
  refine call_in (args := [.pointer (some ⟨b, 0, none⟩), iv i, iv but]) Tryz.func111 (by decide) rfl rfl ?_
  repeat' first|(refine gX ?_;first|refine o_v rfl rfl ?_|(refine o_splitD rfl rfl rfl ?_ ?_<;>intro h)|(refine o_split rfl rfl rfl ?_ ?_<;>intro h<;>fail_if_success exact Bool.noConfusion h)|(refine gL ?_;first|refine o_load rfl rfl rfl rfl ?_|refine o_loadR rfl rfl rfl (by omega) rfl rfl ?_|refine o_loadW rfl rfl rfl rfl ?_|refine o_loadK rfl rfl rfl ?_)|(refine gF ?_;first|refine o_fieldI rfl rfl rfl rfl ?_|refine o_field rfl rfl rfl rfl ?_)|(refine gB ?_;first|refine o_add rfl rfl rfl rfl (by omega) ?_|refine o_sub rfl rfl rfl rfl (by omega) ?_|refine o_eqNil rfl rfl rfl rfl rfl ?_)|(refine gC ?_;first|(refine o_append1 (xs := ([] : List RangeG)) (u[i]'(by first|done|omega)) rfl rfl rfl rfl .nil rfl (by simp) rfl rfl rfl rfl ?_;intro w2 Δ2 ho2;refine ⟨inferInstance, ?_⟩))|(refine gI ?_;first|refine o_indexA rfl rfl rfl rfl rfl (by omega) ?_|refine o_indexS rfl rfl rfl rfl rfl rfl (by omega) ?_|refine o_index rfl rfl rfl rfl rfl (by omega) ?_)|(refine gS ?_;first|refine o_store rfl rfl rfl rfl rfl rfl ?_|refine o_storeW rfl rfl rfl rfl rfl rfl ?_)|(refine o_allocZ rfl rfl ?_;intro _)|(refine o_box rfl rfl rfl ?_;intro _)|refine o_skip rfl rfl ?_|refine o_skipN rfl rfl ?_|refine o_iface rfl rfl rfl ?_|refine o_build rfl rfl rfl rfl rfl ?_|(refine o_bslice rfl rfl rfl rfl rfl rfl rfl ?_;intro _)|(refine o_splitP rfl ?_ ?_<;>intro h<;>fail_if_success exact Bool.noConfusion h))|refine o_head0 rfl ?_|refine o_end ?_|refine o_head1 rfl ?_|(show WP _ _ _ _ (.seq (.seq (.region 2 _ _) _) _) _ _ _ _;refine wp_cut (fun t ds S' => ∃ (t0 : Tm) (w : Value) (Δ : Ents) (b6 : Nat), [] = ds ∧ Δ ++ ⟨b6, true, .cells #[.int .i64 0, .int .i64 0] 70 (0, 0)⟩ :: S = S' ∧ t = den [(7, w), (0, .pointer (some ⟨b, 0, none⟩)), (1, iv i), (2, iv but), (6, .pointer (some ⟨b6, 0, none⟩))] t0 ∧ Own w (if but ≠ -1 then [partOf u i] else []) Δ) ?_ ?_)|refine wp_seq ?_|refine o_region ?_|refine wp_block ?_|refine wp_skip ?_|refine wp_exit ?_|(refine w_condD rfl ?_ ?_<;>intro h)|(refine w_cond rfl ?_ ?_<;>intro h<;>try exact Bool.noConfusion h)|refine w_ret (S) (vs:=[_]) rfl (Res.cell rfl rfl Res.nil) ?_
  · rename_i b6 b7
    refine ⟨_, Sb.h, _, _, Δ2, b6, rfl, rfl, keep ⟨rfl, rfl, rfl, rfl, rfl, trivial⟩, ?_⟩
    rw [if_pos h, e2]
    exact ho2
  · rename_i b6
    refine ⟨_, List.Sublist.refl _, _, _, [], b6, rfl, rfl, keep ⟨rfl, rfl, rfl, rfl, rfl, trivial⟩, ?_⟩
    rw [if_neg h]
    exact .nil
  rintro _ _ _ ⟨t0, w, Δ, b6, rfl, rfl, rfl, ho⟩
  repeat' first|(refine gX ?_;first|refine o_v rfl rfl ?_|(refine o_splitD rfl rfl rfl ?_ ?_<;>intro h)|(refine o_split rfl rfl rfl ?_ ?_<;>intro h<;>fail_if_success exact Bool.noConfusion h)|(refine gL ?_;first|refine o_load rfl rfl rfl rfl ?_|refine o_loadR rfl rfl rfl (by omega) rfl rfl ?_|refine o_loadW rfl rfl rfl rfl ?_|refine o_loadK rfl rfl rfl ?_)|(refine gF ?_;first|refine o_fieldI rfl rfl rfl rfl ?_|refine o_field rfl rfl rfl rfl ?_)|(refine gB ?_;first|refine o_add rfl rfl rfl rfl (by omega) ?_|refine o_sub rfl rfl rfl rfl (by omega) ?_|refine o_eqNil rfl rfl rfl rfl rfl ?_)|(refine gC ?_;first|(refine o_append1 (ms[i]'(by first|done|omega)).leak rfl rfl rfl rfl ho rfl (by split <;> simp) rfl rfl rfl rfl ?_;intro w2 Δ2 ho2;refine ⟨inferInstance, ?_⟩))|(refine gI ?_;first|refine o_indexS rfl rfl rfl rfl rfl rfl (by omega) ?_|refine o_index rfl rfl rfl rfl rfl (by omega) ?_)|(refine gS ?_;first|refine o_store rfl rfl rfl rfl rfl rfl ?_|refine o_storeW rfl rfl rfl rfl rfl rfl ?_)|(refine o_allocZ rfl rfl ?_;intro _)|(refine o_box rfl rfl rfl ?_;intro _)|refine o_skip rfl rfl ?_|refine o_skipN rfl rfl ?_|refine o_iface rfl rfl rfl ?_|refine o_build rfl rfl rfl rfl rfl ?_|(refine o_bslice rfl rfl rfl rfl rfl rfl rfl ?_;intro _)|(refine o_splitP rfl ?_ ?_<;>intro h<;>fail_if_success exact Bool.noConfusion h))|refine o_head0 rfl ?_|refine o_end ?_|refine o_head1 rfl ?_|(show WP _ _ _ _ (.seq (.seq (.region 4 _ _) _) _) _ _ _ _;refine wp_cut (fun t ds S' => ∃ (t0 : Tm) (w : Value) (Δ : Ents), [] = ds ∧ Δ ++ ⟨b6, true, .cells #[.int .i64 0, .int .i64 0] 70 (0, 0)⟩ :: S = S' ∧ t = den [(7, w), (0, .pointer (some ⟨b, 0, none⟩)), (1, iv i), (2, iv but), (6, .pointer (some ⟨b6, 0, none⟩))] t0 ∧ Own w ((if but ≠ -1 then [partOf u i] else []) ++ (if but ≠ -2 then [leakOf ms i] else [])) Δ) ?_ ?_)|refine wp_seq ?_|refine o_region ?_|refine wp_block ?_|refine wp_skip ?_|refine wp_exit ?_|(refine w_condD rfl ?_ ?_<;>intro h)|(refine w_cond rfl ?_ ?_<;>intro h<;>try exact Bool.noConfusion h)|refine w_ret (S) (vs:=[_]) rfl (Res.cell rfl rfl Res.nil) ?_
  · skip
    refine ⟨_, Sb.h, _, _, Δ2, rfl, rfl, keep ⟨rfl, rfl, rfl, rfl, rfl, trivial⟩, ?_⟩
    rw [if_pos h, e0]
    exact ho2
  · skip
    refine ⟨_, Sb.h, _, _, Δ, rfl, rfl, keep ⟨rfl, rfl, rfl, rfl, rfl, trivial⟩, ?_⟩
    rw [if_neg h, List.append_nil]
    exact ho
  generalize hL : (if but ≠ -1 then [partOf u i] else []) ++ (if but ≠ -2 then [leakOf ms i] else []) = L
  rintro _ _ _ ⟨t0, w, Δ, rfl, rfl, rfl, ho⟩
  repeat' first|(refine gX ?_;first|refine o_v rfl rfl ?_|(refine o_splitD rfl rfl rfl ?_ ?_<;>intro h)|(refine o_split rfl rfl rfl ?_ ?_<;>intro h<;>fail_if_success exact Bool.noConfusion h)|(refine gL ?_;first|refine o_load rfl rfl rfl rfl ?_|refine o_loadR rfl rfl rfl (by omega) rfl rfl ?_|refine o_loadW rfl rfl rfl rfl ?_|refine o_loadK rfl rfl rfl ?_)|(refine gF ?_;first|refine o_fieldI rfl rfl rfl rfl ?_|refine o_field rfl rfl rfl rfl ?_)|(refine gB ?_;first|refine o_add rfl rfl rfl rfl (by omega) ?_|refine o_sub rfl rfl rfl rfl (by omega) ?_|refine o_eqNil rfl rfl rfl rfl rfl ?_)|(refine gC ?_;first|(refine o_callZ (R:=fun r S' => ∃ Δ, Own r (natI (belowN ms (ms[i]'(by first|done|omega)).id)) Δ ∧ S' = Δ ++ _) rfl rfl rfl (c105 _ _ b mn c fz ms _ _ (Sb.h.subset hin) ht.mains (hv0.sub Sb.h) hm) ?_;rintro r _ ⟨Δb, hob, rfl⟩;obtain ⟨ra, rc, rfl, _, hra⟩ := hob.slv;have := SlI.mk hra;refine ⟨inferInstance, ?_⟩))|(refine gI ?_;first|refine o_indexS rfl rfl rfl rfl rfl rfl (by omega) ?_|refine o_index rfl rfl rfl rfl rfl (by omega) ?_)|(refine gS ?_;first|refine o_store rfl rfl rfl rfl rfl rfl ?_|refine o_storeW rfl rfl rfl rfl rfl rfl ?_)|(refine o_allocZ rfl rfl ?_;intro _)|(refine o_box rfl rfl rfl ?_;intro _)|refine o_skip rfl rfl ?_|refine o_skipN rfl rfl ?_|refine o_iface rfl rfl rfl ?_|refine o_build rfl rfl rfl rfl rfl ?_|(refine o_bslice rfl rfl rfl rfl rfl rfl rfl ?_;intro _)|(refine o_splitP rfl ?_ ?_<;>intro h<;>fail_if_success exact Bool.noConfusion h))|refine o_head0 rfl ?_|refine o_end ?_|refine o_head1 rfl ?_|refine wp_seq ?_|refine o_region ?_|refine wp_block ?_|refine wp_skip ?_|refine wp_exit ?_|(refine w_condD rfl ?_ ?_<;>intro h)|(refine w_cond rfl ?_ ?_<;>intro h<;>try exact Bool.noConfusion h)|refine w_ret (S) (vs:=[_]) rfl (Res.cell rfl rfl Res.nil) ?_
  generalize hBN : belowN ms (ms[i]'hi).id = BN at hob hra ‹SlI Δb ra Int _ _› ⊢
  have hlen : (natI BN).length = BN.length := natI_len
  have hBl : ∀ k ∈ BN, k < ms.length := fun k hk' => mem_below (hBN ▸ hk')
  have hL2 : restL ms u p i but = L ++ (BN.filter fun (k : Nat) => decide ((k : Int) ≠ but)).map (partOf p) := by unfold restL; rw [hL, e1, hBN]
  have hLl : L.length ≤ 2 := by rw [← hL]; split <;> split <;> simp
  have hBc : BN.length ≤ 12 := by rw [← hBN]; exact Nat.le_trans belowT_len hm
  refine WP.perm ?_ (FrS.h (Δ := Δ))
  refine wp_loop (fun i t ds S' => ∃ (j : Nat) (t0 : Tm) (w : Value) (Δ : Ents), i = BN.length - j ∧ j ≤ BN.length ∧ [] = ds ∧ Δ ++ (Δb ++ ⟨b6, true, .cells #[.int .i64 0, .int .i64 0] 70 (0, 0)⟩ :: S) = S' ∧ t = den [(47, .int .i64 j), (46, .int .i64 (natI BN).length), (45, .slice ra (natI BN).length rc), (7, w), (0, .pointer (some ⟨b, 0, none⟩)), (2, iv but), (6, .pointer (some ⟨b6, 0, none⟩))] t0 ∧ Own w (L ++ ((BN.take j).filter fun (k : Nat) => decide ((k : Int) ≠ but)).map (partOf p)) Δ)
    BN.length ⟨0, _, _, Δ, rfl, Nat.zero_le _, rfl, rfl, keep ⟨rfl, rfl, rfl, rfl, rfl, rfl, rfl, trivial⟩, by simpa using ho⟩ ?_
  rintro i' t ds S' ⟨j, t1, w, Δ, rfl, hj, rfl, rfl, rfl, ho⟩
  have hget : ∀ (hj : j < BN.length), (natI BN)[j]'(by rw [hlen]; exact hj) = (BN[j] : Int) := fun hj => by simp [natI]
  repeat' first|(refine gX ?_;first|refine o_v rfl rfl ?_|(refine o_splitD rfl rfl rfl ?_ ?_<;>intro h)|(refine o_split rfl rfl rfl ?_ ?_<;>intro h<;>fail_if_success exact Bool.noConfusion h)|(refine gL ?_;first|refine o_loadR rfl rfl rfl (by have := hBl (BN[j]'(by first|done|omega)) (List.getElem_mem _); omega) rfl rfl ?_|refine o_load rfl rfl rfl rfl ?_|refine o_loadR rfl rfl rfl (by omega) rfl rfl ?_|refine o_loadW rfl rfl rfl rfl ?_|refine o_loadK rfl rfl rfl ?_)|(refine gF ?_;first|refine o_fieldI rfl rfl rfl rfl ?_|refine o_field rfl rfl rfl rfl ?_)|(refine gB ?_;first|refine o_add rfl rfl rfl rfl (by omega) ?_|refine o_sub rfl rfl rfl rfl (by omega) ?_|refine o_eqNil rfl rfl rfl rfl rfl ?_)|(refine gC ?_;first|(refine o_append1 (p[BN[j]'(by first|done|omega)]'(by first|done|(have := hBl (BN[j]'(by first|done|omega)) (List.getElem_mem _); omega))) rfl rfl rfl rfl ho rfl (by simp only [List.length_append, List.length_map]; have := filter_len (l := BN) (q := fun (k : Nat) => decide ((k : Int) ≠ but)) (j := j); omega) rfl rfl rfl rfl ?_;intro w2 Δ2 ho2;refine ⟨inferInstance, ?_⟩))|(refine gI ?_;first|refine o_indexAZ (BN[j]'(by first|done|omega)) rfl rfl rfl rfl rfl (hget (by omega)) (by have := hBl (BN[j]'(by first|done|omega)) (List.getElem_mem _); omega) ?_|refine o_indexS rfl rfl rfl rfl rfl rfl (by omega) ?_|refine o_index rfl rfl rfl rfl rfl (by omega) ?_)|(refine gS ?_;first|refine o_store rfl rfl rfl rfl rfl rfl ?_|refine o_storeW rfl rfl rfl rfl rfl rfl ?_)|(refine o_allocZ rfl rfl ?_;intro _)|(refine o_box rfl rfl rfl ?_;intro _)|refine o_skip rfl rfl ?_|refine o_skipN rfl rfl ?_|refine o_iface rfl rfl rfl ?_|refine o_build rfl rfl rfl rfl rfl ?_|(refine o_bslice rfl rfl rfl rfl rfl rfl rfl ?_;intro _)|(refine o_splitP rfl ?_ ?_<;>intro h<;>fail_if_success exact Bool.noConfusion h))|refine o_head0 rfl ?_|refine o_end ?_|refine o_head1 rfl ?_|refine wp_seq ?_|refine o_region ?_|refine wp_block ?_|refine wp_skip ?_|refine wp_exit ?_|(refine w_condD rfl ?_ ?_<;>intro h)|(refine w_cond rfl ?_ ?_<;>intro h<;>try exact Bool.noConfusion h)|refine w_ret (S) (vs:=[_]) rfl (Res.cell rfl rfl Res.nil) ?_
  · rename_i hlt Δ2 ho2
    have hjl : j < BN.length := by omega
    have hbl := hBl BN[j] (List.getElem_mem _)
    refine ⟨BN.length - (j + 1), by omega, _, Sb.h, j + 1, _, _, Δ2, rfl, by omega, rfl, rfl, keep ⟨rfl, rfl, rfl, rfl, rfl, rfl, rfl, trivial⟩, ?_⟩
    rw [filter_snoc hjl, if_pos (by rw [hget hjl] at h; simpa using h), List.map_append, ← List.append_assoc, List.map_singleton, partOf_get (by omega)]
    exact ho2
  · rename_i hlt
    have hjl : j < BN.length := by omega
    refine ⟨BN.length - (j + 1), by omega, _, Sb.h, j + 1, _, _, Δ, rfl, by omega, rfl, rfl, keep ⟨rfl, rfl, rfl, rfl, rfl, rfl, rfl, trivial⟩, ?_⟩
    rw [filter_snoc hjl, if_neg (by rw [hget hjl] at h; simpa using h), List.append_nil]
    exact ho
  · have : j = BN.length := by omega
    subst this
    rw [List.take_length, ← hL2] at ho
    repeat' first|(refine gX ?_;first|refine o_v rfl rfl ?_|(refine o_splitD rfl rfl rfl ?_ ?_<;>intro h)|(refine o_split rfl rfl rfl ?_ ?_<;>intro h<;>fail_if_success exact Bool.noConfusion h)|(refine gL ?_;first|refine o_load rfl rfl rfl rfl ?_|refine o_loadR rfl rfl rfl (by omega) rfl rfl ?_|refine o_loadW rfl rfl rfl rfl ?_|refine o_loadK rfl rfl rfl ?_)|(refine gF ?_;first|refine o_fieldI rfl rfl rfl rfl ?_|refine o_field rfl rfl rfl rfl ?_)|(refine gB ?_;first|refine o_add rfl rfl rfl rfl (by omega) ?_|refine o_sub rfl rfl rfl rfl (by omega) ?_|refine o_eqNil rfl rfl rfl rfl rfl ?_)|(refine gC ?_;first|refine o_callF rfl rfl rfl (c102 _ _ _ _ (ho.slv.sub Sb.h) (by have := restL_len (ms := ms) (u := u) (p := p) (i := i) (but := but); omega) hbd) ?_)|(refine gI ?_;first|refine o_indexS rfl rfl rfl rfl rfl rfl (by omega) ?_|refine o_index rfl rfl rfl rfl rfl (by omega) ?_)|(refine gS ?_;first|refine o_store rfl rfl rfl rfl rfl rfl ?_|refine o_storeW rfl rfl rfl rfl rfl rfl ?_)|(refine o_allocZ rfl rfl ?_;intro _)|(refine o_box rfl rfl rfl ?_;intro _)|refine o_skip rfl rfl ?_|refine o_skipN rfl rfl ?_|refine o_iface rfl rfl rfl ?_|refine o_build rfl rfl rfl rfl rfl ?_|(refine o_bslice rfl rfl rfl rfl rfl rfl rfl ?_;intro _)|(refine o_splitP rfl ?_ ?_<;>intro h<;>fail_if_success exact Bool.noConfusion h))|refine o_head0 rfl ?_|refine o_end ?_|refine o_head1 rfl ?_|refine wp_seq ?_|refine o_region ?_|refine wp_block ?_|refine wp_skip ?_|refine wp_exit ?_|(refine w_condD rfl ?_ ?_<;>intro h)|(refine w_cond rfl ?_ ?_<;>intro h<;>try exact Bool.noConfusion h)|refine w_ret (S) (vs:=[_]) rfl (Res.cell rfl rfl Res.nil) ?_
    exact ⟨rfl, rfl⟩
end Go.Proofs.YtpnnmklacialgaaGreat
namespace Go.Proofs.YtpnnmklacialgaaGreat
open Go.Conc
attribute [local irreducible] WP OpF OpX CallW SemH retQ AnyF

theorem sumR_bd {M : Int} (h0 : 0 ≤ M) : ∀ {l : List RangeG}, (∀ x ∈ l, Bd M x) → Bd (M * l.length) (sumR l)
  | [], _ => by unfold Bd sumR; simp
  | x :: l, h => by
    have h1 := h x (.head _)
    have h2 := sumR_bd h0 (l := l) fun y hy => h y (.tail _ hy)
    unfold Bd at h1 h2 ⊢
    simp only [sumR, List.length_cons]
    have e : M * ((l.length + 1 : Nat) : Int) = M * l.length + M := by rw [Int.natCast_add, Int.mul_add]; simp
    rw [e]
    omega
theorem Bd.mono {M M' : Int} {x : RangeG} (h : Bd M x) (hm : M ≤ M') : Bd M' x := by
  unfold Bd at *; omega
theorem restR_bd {ms : List MainG} {u p : List RangeG} {i : Nat} {but : Int} (hm : ms.length ≤ 12) (hu : ∀ x ∈ u, Bd 1000000000000000 x) (hp : ∀ x ∈ p, Bd 1000000000000000 x) (hk : ∀ m ∈ ms, Bd 1000000000000000 m.leak) : Bd 14000000000000000 (restR ms u p i but) := by
  have h1 := sumR_bd (by omega) (restL_bd (i := i) (but := but) (by omega) hu hp hk)
  refine h1.mono ?_
  have := restL_len (ms := ms) (u := u) (p := p) (i := i) (but := but)
  omega

def burntR (ms : List MainG) (u p h : List RangeG) (i : Nat) : RangeG := meetR (partOf u i) (lessR (partOf h i) (restR ms u p i (-1)))
def leakedR (ms : List MainG) (u p h : List RangeG) (i : Nat) : RangeG := meetR (leakOf ms i) (lessR (partOf h i) (restR ms u p i (-2)))

theorem c100 (E : Env) (S : Ents) (b : Nat) (mn : Bool) (c : Array Value) (fz : Nat × Nat) (ms : List MainG) (v : Value) (u p hh : List RangeG) (ev : Bool) (i : Nat) (hin : (⟨b, mn, .cells c 140 fz⟩ : Ent) ∈ S) (ht : TreeP c v u p hh ev) (hv : SlV S v ms) (hm : ms.length ≤ 12) (hi : i < ms.length)
    (hu : ∀ x ∈ u, Bd 1000000000000000 x) (hp : ∀ x ∈ p, Bd 1000000000000000 x) (hk : ∀ m ∈ ms, Bd 1000000000000000 m.leak) (hb : ∀ x ∈ hh, Bd 1000000000000000 x) :
    CallW Tryz.prog E 100 #[.pointer (some ⟨b, 0, none⟩), iv i] S fun r S' => r = .agg (rangeC (burntR ms u p hh i)) ∧ S' = S := by
  have : InS b S mn (.cells c 140 fz) := ⟨hin⟩
  have : RowC c (0 + 5) RangeG encRange u := ⟨ht.used⟩
  have : RowC c (0 + 53) RangeG encRange hh := ⟨ht.through⟩
  have hlu := ht.lu
  have hlh := ht.lh
  have e1 : partOf u i = u[i]'(by omega) := partOf_get _
  have e2 : partOf hh i = hh[i]'(by omega) := partOf_get _
  have hrb := restR_bd (i := i) (but := -1) hm hu hp hk
  have hb2 := hb (hh[i]'(by omega)) (List.getElem_mem _)
  refine call_in (args := [.pointer (some ⟨b, 0, none⟩), iv i]) Tryz.func100 (by decide) rfl rfl ?_
  repeat' first|(refine gX ?_;first|refine o_v rfl rfl ?_|(refine o_splitD rfl rfl rfl ?_ ?_<;>intro h)|(refine o_split rfl rfl rfl ?_ ?_<;>intro h<;>fail_if_success exact Bool.noConfusion h)|(refine gL ?_;first|refine o_load rfl rfl rfl rfl ?_|refine o_loadR rfl rfl rfl (by omega) rfl rfl ?_|refine o_loadW rfl rfl rfl rfl ?_|refine o_loadK rfl rfl rfl ?_)|(refine gF ?_;first|refine o_fieldI rfl rfl rfl rfl ?_|refine o_field rfl rfl rfl rfl ?_)|(refine gB ?_;first|refine o_add rfl rfl rfl rfl (by omega) ?_|refine o_sub rfl rfl rfl rfl (by omega) ?_|refine o_eqNil rfl rfl rfl rfl rfl ?_)|(refine gC ?_;first|refine o_callF rfl rfl rfl (c111 _ _ b mn c fz ms v u p hh ev i (-1) (Sb.h.subset hin) ht (hv.sub Sb.h) hm hi hu hp hk) ?_|refine o_callF rfl rfl rfl (c149 _ _ (hh[i]'(by first|done|omega)) _ (hb2.mono (by omega)) (hrb.mono (by omega))) ?_|refine o_callF rfl rfl rfl (c110 _ _ (u[i]'(by first|done|omega)) _) ?_)|(refine gI ?_;first|refine o_indexA rfl rfl rfl rfl rfl (by omega) ?_|refine o_indexS rfl rfl rfl rfl rfl rfl (by omega) ?_|refine o_index rfl rfl rfl rfl rfl (by omega) ?_)|(refine gS ?_;first|refine o_store rfl rfl rfl rfl rfl rfl ?_|refine o_storeW rfl rfl rfl rfl rfl rfl ?_)|(refine o_allocZ rfl rfl ?_;intro _)|(refine o_box rfl rfl rfl ?_;intro _)|refine o_skip rfl rfl ?_|refine o_skipN rfl rfl ?_|refine o_iface rfl rfl rfl ?_|refine o_build rfl rfl rfl rfl rfl ?_|(refine o_bslice rfl rfl rfl rfl rfl rfl rfl ?_;intro _)|(refine o_splitP rfl ?_ ?_<;>intro h<;>fail_if_success exact Bool.noConfusion h))|refine o_head0 rfl ?_|refine o_end ?_|refine o_head1 rfl ?_|refine wp_seq ?_|refine o_region ?_|refine wp_block ?_|refine wp_skip ?_|refine wp_exit ?_|(refine w_condD rfl ?_ ?_<;>intro h)|(refine w_cond rfl ?_ ?_<;>intro h<;>try exact Bool.noConfusion h)|refine w_ret (S) (vs:=[_]) rfl (Res.cell rfl rfl Res.nil) ?_|(show WP _ _ _ _ (.region 1 _ true) _ _ _ _;refine o_drawn [(0, true), (1, true), (2, true), (3, true), (4, true), (5, true), (6, true), (7, true), (8, true), (9, true), (10, true), (11, true), (12, false), (13, false), (14, false), (15, false), (16, true), (17, true)] mixed (by kernel_rfl) ?_)
  refine ⟨?_, rfl⟩
  unfold burntR
  rw [e1, e2]
  rfl
theorem c101 (E : Env) (S : Ents) (b : Nat) (mn : Bool) (c : Array Value) (fz : Nat × Nat) (ms : List MainG) (v : Value) (u p hh : List RangeG) (ev : Bool) (i : Nat) (hin : (⟨b, mn, .cells c 140 fz⟩ : Ent) ∈ S) (ht : TreeP c v u p hh ev) (hv : SlV S v ms) (hm : ms.length ≤ 12) (hi : i < ms.length)
    (hu : ∀ x ∈ u, Bd 1000000000000000 x) (hp : ∀ x ∈ p, Bd 1000000000000000 x) (hk : ∀ m ∈ ms, Bd 1000000000000000 m.leak) (hb : ∀ x ∈ hh, Bd 1000000000000000 x) :
    CallW Tryz.prog E 101 #[.pointer (some ⟨b, 0, none⟩), iv i] S fun r S' => r = .agg (rangeC (leakedR ms u p hh i)) ∧ S' = S := by
  have hv0 := hv
  obtain ⟨q, cp, rfl, _, hr⟩ := hv
  have := SlI.mk hr
  have : InS b S mn (.cells c 140 fz) := ⟨hin⟩
  have : CellI c (0 + 0 + 0) (.slice q ms.length cp) := ⟨ht.mains⟩
  have : RowC c (0 + 53) RangeG encRange hh := ⟨ht.through⟩
  have hlh := ht.lh
  have e1 : leakOf ms i = ms[i].leak := by unfold leakOf; rw [List.getElem?_eq_getElem hi]
  have e2 : partOf hh i = hh[i]'(by omega) := partOf_get _
  have hrb := restR_bd (i := i) (but := -2) hm hu hp hk
  have hb2 := hb (hh[i]'(by omega)) (List.getElem_mem _)
  refine call_in (args := [.pointer (some ⟨b, 0, none⟩), iv i]) Tryz.func101 (by decide) rfl rfl ?_
  repeat' first|(refine gX ?_;first|refine o_v rfl rfl ?_|(refine o_splitD rfl rfl rfl ?_ ?_<;>intro h)|(refine o_split rfl rfl rfl ?_ ?_<;>intro h<;>fail_if_success exact Bool.noConfusion h)|(refine gL ?_;first|refine o_load rfl rfl rfl rfl ?_|refine o_loadR rfl rfl rfl (by omega) rfl rfl ?_|refine o_loadW rfl rfl rfl rfl ?_|refine o_loadK rfl rfl rfl ?_)|(refine gF ?_;first|refine o_fieldI rfl rfl rfl rfl ?_|refine o_field rfl rfl rfl rfl ?_)|(refine gB ?_;first|refine o_add rfl rfl rfl rfl (by omega) ?_|refine o_sub rfl rfl rfl rfl (by omega) ?_|refine o_eqNil rfl rfl rfl rfl rfl ?_)|(refine gC ?_;first|refine o_callF rfl rfl rfl (c111 _ _ b mn c fz ms _ u p hh ev i (-2) (Sb.h.subset hin) ht (hv0.sub Sb.h) hm hi hu hp hk) ?_|refine o_callF rfl rfl rfl (c149 _ _ (hh[i]'(by first|done|omega)) _ (hb2.mono (by omega)) (hrb.mono (by omega))) ?_|refine o_callF rfl rfl rfl (c110 _ _ (ms[i]'(by first|done|omega)).leak _) ?_)|(refine gI ?_;first|refine o_indexA rfl rfl rfl rfl rfl (by omega) ?_|refine o_indexS rfl rfl rfl rfl rfl rfl (by omega) ?_|refine o_index rfl rfl rfl rfl rfl (by omega) ?_)|(refine gS ?_;first|refine o_store rfl rfl rfl rfl rfl rfl ?_|refine o_storeW rfl rfl rfl rfl rfl rfl ?_)|(refine o_allocZ rfl rfl ?_;intro _)|(refine o_box rfl rfl rfl ?_;intro _)|refine o_skip rfl rfl ?_|refine o_skipN rfl rfl ?_|refine o_iface rfl rfl rfl ?_|refine o_build rfl rfl rfl rfl rfl ?_|(refine o_bslice rfl rfl rfl rfl rfl rfl rfl ?_;intro _)|(refine o_splitP rfl ?_ ?_<;>intro h<;>fail_if_success exact Bool.noConfusion h))|refine o_head0 rfl ?_|refine o_end ?_|refine o_head1 rfl ?_|refine wp_seq ?_|refine o_region ?_|refine wp_block ?_|refine wp_skip ?_|refine wp_exit ?_|(refine w_condD rfl ?_ ?_<;>intro h)|(refine w_cond rfl ?_ ?_<;>intro h<;>try exact Bool.noConfusion h)|refine w_ret (S) (vs:=[_]) rfl (Res.cell rfl rfl Res.nil) ?_|(show WP _ _ _ _ (.region 1 _ true) _ _ _ _;refine o_drawn [(0, true), (1, true), (2, true), (3, true), (4, true), (5, true), (6, true), (7, true), (8, true), (9, true), (10, true), (11, true), (12, true), (13, true), (14, true), (15, false), (16, false), (17, false), (18, false), (19, true), (20, true)] mixed (by kernel_rfl) ?_)
  refine ⟨?_, rfl⟩
  unfold leakedR
  rw [e1, e2]
  rfl
end Go.Proofs.YtpnnmklacialgaaGreat
namespace Go.Proofs.YtpnnmklacialgaaGreat
open Go.Conc
attribute [local irreducible] WP OpF OpX CallW SemH retQ AnyF RoundW

def countsU (p k : Int) (x : UseG) : Bool := decide (x.period = p) && countsB x.known x.til k
def countsF (p k : Int) (x : FaultG) : Bool := decide (x.period = p) && countsB x.known x.til k
theorem c160 (E : Env) (S : Ents) (I : Nat → Ents → Prop) (J : Ents → Prop) (lp b1 b2 b3 : Nat) (L : Loop) (xs : List ReadG) (a : Option Addr) (cp : Nat) (p k : Int) (hm : xs.length ≤ 17592186044416) (h0 : I 0 S)
    (hin : ∀ j S', I j S' → (⟨b1, true, .cells #[.slice a xs.length cp] 160 (0, 0)⟩ : Ent) ∈ S' ∧ (⟨b2, true, .cells #[.int .i64 p] 3 (0, 0)⟩ : Ent) ∈ S' ∧ (⟨b3, true, .cells #[.int .i64 k] 3 (0, 0)⟩ : Ent) ∈ S' ∧ SlA S' a xs ∧ loopE lp L ∈ S') (hL : L.params.size = 1)
    (hr : ∀ j (h : j < xs.length) S', I j S' → countsR p k xs[j] = true → RoundW Tryz.prog E lp L.fn (rndT L [.agg (readC xs[j])]) L.assign L.body S' fun v S'' => (v = .bool true ∧ I (j + 1) S'') ∨ (v = .bool false ∧ J S''))
    (hs : ∀ j (h : j < xs.length) S', I j S' → countsR p k xs[j] = false → I (j + 1) S') :
    CallW Tryz.prog E 160 #[.func (.yield lp) #[] #[], .pointer (some ⟨b1, 0, none⟩), .pointer (some ⟨b2, 0, none⟩), .pointer (some ⟨b3, 0, none⟩)] S fun _ S' => I xs.length S' ∨ J S' := by
  have i1 : InS b1 S true (.cells #[.slice a xs.length cp] 160 (0, 0)) := ⟨(hin 0 S h0).1⟩
  refine call_in (args := [.func (.yield lp) #[] #[], .pointer (some ⟨b1, 0, none⟩), .pointer (some ⟨b2, 0, none⟩), .pointer (some ⟨b3, 0, none⟩)]) Tryz.func160 (by decide) rfl rfl ?_
  repeat' first|(refine gX ?_;first|refine o_v rfl rfl ?_|(refine o_splitD rfl rfl rfl ?_ ?_<;>intro h)|(refine o_split rfl rfl rfl ?_ ?_<;>intro h<;>fail_if_success exact Bool.noConfusion h)|(refine gL ?_;first|refine o_load rfl rfl rfl rfl ?_|refine o_loadR rfl rfl rfl (by omega) rfl rfl ?_|refine o_loadW rfl rfl rfl rfl ?_|refine o_loadK rfl rfl rfl ?_)|(refine gF ?_;first|refine o_fieldI rfl rfl rfl rfl ?_|refine o_field rfl rfl rfl rfl ?_)|(refine gB ?_;first|refine o_add rfl rfl rfl rfl (by omega) ?_|refine o_sub rfl rfl rfl rfl (by omega) ?_|refine o_eqNil rfl rfl rfl rfl rfl ?_)|(refine gI ?_;first|refine o_indexS rfl rfl rfl rfl rfl rfl (by omega) ?_|refine o_index rfl rfl rfl rfl rfl (by omega) ?_)|(refine gS ?_;first|refine o_store rfl rfl rfl rfl rfl rfl ?_|refine o_storeW rfl rfl rfl rfl rfl rfl ?_)|(refine o_allocZ rfl rfl ?_;intro _)|(refine o_box rfl rfl rfl ?_;intro _)|refine o_skip rfl rfl ?_|refine o_skipN rfl rfl ?_|refine o_iface rfl rfl rfl ?_|refine o_build rfl rfl rfl rfl rfl ?_|(refine o_bslice rfl rfl rfl rfl rfl rfl rfl ?_;intro _)|(refine o_splitP rfl ?_ ?_<;>intro h<;>fail_if_success exact Bool.noConfusion h))|refine o_head0 rfl ?_|refine o_end ?_|refine o_head1 rfl ?_|refine wp_seq ?_|refine o_region ?_|refine wp_block ?_|refine wp_skip ?_|refine wp_exit ?_|(refine w_condD rfl ?_ ?_<;>intro h)|(refine w_cond rfl ?_ ?_<;>intro h<;>try exact Bool.noConfusion h)|refine w_ret (S) (vs:=[]) rfl Res.nil ?_
  refine wp_loop (fun i t ds S' => ∃ (j : Nat) (t0 : Tm), i = xs.length - j ∧ j ≤ xs.length ∧ [] = ds ∧ t = den [(14, .int .i64 j), (13, .int .i64 xs.length), (12, .slice a xs.length cp), (0, .func (.yield lp) #[] #[]), (2, .pointer (some ⟨b2, 0, none⟩)), (3, .pointer (some ⟨b3, 0, none⟩))] t0 ∧ I j S')
    xs.length ⟨0, _, rfl, Nat.zero_le _, rfl, keep ⟨rfl, rfl, rfl, rfl, rfl, rfl, trivial⟩, h0⟩ ?_
  rintro i t ds S' ⟨j, t0, rfl, hj, rfl, rfl, hI⟩
  obtain ⟨_, m2, m3, m4, m5⟩ := hin j S' hI
  have i2 : InS b2 S' true (.cells #[.int .i64 p] 3 (0, 0)) := ⟨m2⟩
  have i3 : InS b3 S' true (.cells #[.int .i64 k] 3 (0, 0)) := ⟨m3⟩
  have i4 := SlI.mk m4
  have hc1 : ∀ h : j < xs.length, xs[j].period = p → xs[j].known ≤ k → (xs[j].til = 0 ∨ xs[j].til > k) → countsR p k xs[j] = true := fun h h1 h2 h3 => by
    unfold countsR countsB
    simp only [Bool.and_eq_true, decide_eq_true_eq]
    exact ⟨h1, h2, h3.imp id id⟩
  have hc2 : ∀ h : j < xs.length, ¬ (xs[j].period = p ∧ xs[j].known ≤ k ∧ (xs[j].til = 0 ∨ xs[j].til > k)) → I (j + 1) S' := fun h h1 => hs j h S' hI (by
    unfold countsR countsB
    rw [Bool.eq_false_iff]
    simp only [ne_eq, Bool.and_eq_true, decide_eq_true_eq]
    exact fun ⟨h2, h3, h4⟩ => h1 ⟨h2, h3, h4.imp id id⟩)
  repeat' first|(refine gX ?_;first|refine o_v rfl rfl ?_|(refine o_splitD rfl rfl rfl ?_ ?_<;>intro h)|(refine o_split rfl rfl rfl ?_ ?_<;>intro h<;>fail_if_success exact Bool.noConfusion h)|(refine gL ?_;first|refine o_load rfl rfl rfl rfl ?_|refine o_loadR rfl rfl rfl (by omega) rfl rfl ?_|refine o_loadW rfl rfl rfl rfl ?_|refine o_loadK rfl rfl rfl ?_)|(refine gF ?_;first|refine o_fieldI rfl rfl rfl rfl ?_|refine o_field rfl rfl rfl rfl ?_)|(refine gB ?_;first|refine o_add rfl rfl rfl rfl (by omega) ?_|refine o_sub rfl rfl rfl rfl (by omega) ?_|refine o_eqNil rfl rfl rfl rfl rfl ?_)|(refine gC ?_;first|refine o_inv rfl rfl rfl rfl (c227 _ _ xs[j]) ?_|(refine o_yield (L:=L) (vs:=[_]) (S1:=S') rfl rfl rfl rfl (Sb.h.subset m5) hL.symm Sb.h (hr j (by first|done|omega) S' hI (hc1 (by omega) (by assumption) (by assumption) (by first|(left;assumption)|(right;assumption)))) ?_;rintro v S2 hv;refine ⟨inferInstance, ?_⟩;rcases hv with ⟨rfl, hv⟩|⟨rfl, hv⟩))|(refine gI ?_;first|refine o_indexS rfl rfl rfl rfl rfl rfl (by omega) ?_|refine o_index rfl rfl rfl rfl rfl (by omega) ?_)|(refine gS ?_;first|refine o_store rfl rfl rfl rfl rfl rfl ?_|refine o_storeW rfl rfl rfl rfl rfl rfl ?_)|(refine o_allocZ rfl rfl ?_;intro _)|(refine o_box rfl rfl rfl ?_;intro _)|refine o_skip rfl rfl ?_|refine o_skipN rfl rfl ?_|refine o_iface rfl rfl rfl ?_|refine o_build rfl rfl rfl rfl rfl ?_|(refine o_bslice rfl rfl rfl rfl rfl rfl rfl ?_;intro _)|(refine o_splitP rfl ?_ ?_<;>intro h<;>fail_if_success exact Bool.noConfusion h))|refine o_head0 rfl ?_|refine o_end ?_|refine o_head1 rfl ?_|refine wp_seq ?_|refine o_region ?_|refine wp_block ?_|refine wp_skip ?_|refine wp_exit ?_|(refine w_condD rfl ?_ ?_<;>intro h)|(refine w_cond rfl ?_ ?_<;>intro h<;>try exact Bool.noConfusion h)|refine w_ret (S2) (vs:=[]) rfl Res.nil ?_|refine w_ret (S) (vs:=[]) rfl Res.nil ?_
  all_goals first
    | exact .inr hv
    | exact ⟨xs.length - (j + 1), by omega, _, List.Sublist.refl _, j + 1, _, rfl, by omega, rfl, keep ⟨rfl, rfl, rfl, rfl, rfl, rfl, trivial⟩, hv⟩
    | exact ⟨xs.length - (j + 1), by omega, _, Sb.h, j + 1, _, rfl, by omega, rfl, keep ⟨rfl, rfl, rfl, rfl, rfl, rfl, trivial⟩, hc2 (by omega) fun ⟨q1, q2, q3⟩ => by first | contradiction | (rcases q3 with q3 | q3 <;> contradiction)⟩
    | (have e : j = xs.length := by omega
       exact w_fall (res_sem Res.nil (.inl (e ▸ hI))))
theorem c106 (E : Env) (S : Ents) (xs : List ReadG) (a : Option Addr) (cp : Nat) (p k : Int) : CallW Tryz.prog E 106 #[.slice a xs.length cp, iv p, iv k] S fun r S' => ∃ b1 b2 b3, r = .func (.func 160) #[] #[.pointer (some ⟨b1, 0, none⟩), .pointer (some ⟨b2, 0, none⟩), .pointer (some ⟨b3, 0, none⟩)] ∧
    S' = ⟨b3, true, .cells #[.int .i64 k] 3 (0, 0)⟩ :: ⟨b2, true, .cells #[.int .i64 p] 3 (0, 0)⟩ :: ⟨b1, true, .cells #[.slice a xs.length cp] 160 (0, 0)⟩ :: S := by
  refine call_in (args := [.slice a xs.length cp, iv p, iv k]) Tryz.func106 (by decide) rfl rfl ?_
  repeat' first|(refine gX ?_;first|refine o_v rfl rfl ?_|(refine o_splitD rfl rfl rfl ?_ ?_<;>intro h)|(refine o_split rfl rfl rfl ?_ ?_<;>intro h<;>fail_if_success exact Bool.noConfusion h)|(refine gL ?_;first|refine o_load rfl rfl rfl rfl ?_|refine o_loadR rfl rfl rfl (by omega) rfl rfl ?_|refine o_loadW rfl rfl rfl rfl ?_|refine o_loadK rfl rfl rfl ?_)|(refine gF ?_;first|refine o_fieldI rfl rfl rfl rfl ?_|refine o_field rfl rfl rfl rfl ?_)|(refine gB ?_;first|refine o_add rfl rfl rfl rfl (by omega) ?_|refine o_sub rfl rfl rfl rfl (by omega) ?_|refine o_eqNil rfl rfl rfl rfl rfl ?_)|(refine gI ?_;first|refine o_indexS rfl rfl rfl rfl rfl rfl (by omega) ?_|refine o_index rfl rfl rfl rfl rfl (by omega) ?_)|(refine gS ?_;first|refine o_store rfl rfl rfl rfl rfl rfl ?_|refine o_storeW rfl rfl rfl rfl rfl rfl ?_)|(refine o_allocZ rfl rfl ?_;intro _)|(refine o_box rfl rfl rfl ?_;intro _)|refine o_skip rfl rfl ?_|refine o_skipN rfl rfl ?_|refine o_iface rfl rfl rfl ?_|refine o_build rfl rfl rfl rfl rfl ?_|(refine o_bslice rfl rfl rfl rfl rfl rfl rfl ?_;intro _)|(refine o_splitP rfl ?_ ?_<;>intro h<;>fail_if_success exact Bool.noConfusion h))|refine o_head0 rfl ?_|refine o_end ?_|refine o_head1 rfl ?_|refine wp_seq ?_|refine o_region ?_|refine wp_block ?_|refine wp_skip ?_|refine wp_exit ?_|(refine w_condD rfl ?_ ?_<;>intro h)|(refine w_cond rfl ?_ ?_<;>intro h<;>try exact Bool.noConfusion h)|refine w_retA (vs:=[_]) rfl (Res.tmp rfl Res.nil) ?_|refine w_ret (S) (vs:=[_]) rfl (Res.tmp rfl Res.nil) ?_
  exact ⟨_, _, _, rfl, rfl⟩
theorem c181 (E : Env) (S : Ents) (I : Nat → Ents → Prop) (J : Ents → Prop) (lp b1 b2 b3 : Nat) (L : Loop) (xs : List UseG) (a : Option Addr) (cp : Nat) (p k : Int) (hm : xs.length ≤ 17592186044416) (h0 : I 0 S)
    (hin : ∀ j S', I j S' → (⟨b1, true, .cells #[.slice a xs.length cp] 193 (0, 0)⟩ : Ent) ∈ S' ∧ (⟨b2, true, .cells #[.int .i64 p] 3 (0, 0)⟩ : Ent) ∈ S' ∧ (⟨b3, true, .cells #[.int .i64 k] 3 (0, 0)⟩ : Ent) ∈ S' ∧ SlA S' a xs ∧ loopE lp L ∈ S') (hL : L.params.size = 1)
    (hr : ∀ j (h : j < xs.length) S', I j S' → countsU p k xs[j] = true → RoundW Tryz.prog E lp L.fn (rndT L [.agg (useC xs[j])]) L.assign L.body S' fun v S'' => (v = .bool true ∧ I (j + 1) S'') ∨ (v = .bool false ∧ J S''))
    (hs : ∀ j (h : j < xs.length) S', I j S' → countsU p k xs[j] = false → I (j + 1) S') :
    CallW Tryz.prog E 181 #[.func (.yield lp) #[] #[], .pointer (some ⟨b1, 0, none⟩), .pointer (some ⟨b2, 0, none⟩), .pointer (some ⟨b3, 0, none⟩)] S fun _ S' => I xs.length S' ∨ J S' := by
  have i1 : InS b1 S true (.cells #[.slice a xs.length cp] 193 (0, 0)) := ⟨(hin 0 S h0).1⟩
  refine call_in (args := [.func (.yield lp) #[] #[], .pointer (some ⟨b1, 0, none⟩), .pointer (some ⟨b2, 0, none⟩), .pointer (some ⟨b3, 0, none⟩)]) Tryz.func181 (by decide) rfl rfl ?_
  repeat' first|(refine gX ?_;first|refine o_v rfl rfl ?_|(refine o_splitD rfl rfl rfl ?_ ?_<;>intro h)|(refine o_split rfl rfl rfl ?_ ?_<;>intro h<;>fail_if_success exact Bool.noConfusion h)|(refine gL ?_;first|refine o_load rfl rfl rfl rfl ?_|refine o_loadR rfl rfl rfl (by omega) rfl rfl ?_|refine o_loadW rfl rfl rfl rfl ?_|refine o_loadK rfl rfl rfl ?_)|(refine gF ?_;first|refine o_fieldI rfl rfl rfl rfl ?_|refine o_field rfl rfl rfl rfl ?_)|(refine gB ?_;first|refine o_add rfl rfl rfl rfl (by omega) ?_|refine o_sub rfl rfl rfl rfl (by omega) ?_|refine o_eqNil rfl rfl rfl rfl rfl ?_)|(refine gI ?_;first|refine o_indexS rfl rfl rfl rfl rfl rfl (by omega) ?_|refine o_index rfl rfl rfl rfl rfl (by omega) ?_)|(refine gS ?_;first|refine o_store rfl rfl rfl rfl rfl rfl ?_|refine o_storeW rfl rfl rfl rfl rfl rfl ?_)|(refine o_allocZ rfl rfl ?_;intro _)|(refine o_box rfl rfl rfl ?_;intro _)|refine o_skip rfl rfl ?_|refine o_skipN rfl rfl ?_|refine o_iface rfl rfl rfl ?_|refine o_build rfl rfl rfl rfl rfl ?_|(refine o_bslice rfl rfl rfl rfl rfl rfl rfl ?_;intro _)|(refine o_splitP rfl ?_ ?_<;>intro h<;>fail_if_success exact Bool.noConfusion h))|refine o_head0 rfl ?_|refine o_end ?_|refine o_head1 rfl ?_|refine wp_seq ?_|refine o_region ?_|refine wp_block ?_|refine wp_skip ?_|refine wp_exit ?_|(refine w_condD rfl ?_ ?_<;>intro h)|(refine w_cond rfl ?_ ?_<;>intro h<;>try exact Bool.noConfusion h)|refine w_ret (S) (vs:=[]) rfl Res.nil ?_
  refine wp_loop (fun i t ds S' => ∃ (j : Nat) (t0 : Tm), i = xs.length - j ∧ j ≤ xs.length ∧ [] = ds ∧ t = den [(14, .int .i64 j), (13, .int .i64 xs.length), (12, .slice a xs.length cp), (0, .func (.yield lp) #[] #[]), (2, .pointer (some ⟨b2, 0, none⟩)), (3, .pointer (some ⟨b3, 0, none⟩))] t0 ∧ I j S')
    xs.length ⟨0, _, rfl, Nat.zero_le _, rfl, keep ⟨rfl, rfl, rfl, rfl, rfl, rfl, trivial⟩, h0⟩ ?_
  rintro i t ds S' ⟨j, t0, rfl, hj, rfl, rfl, hI⟩
  obtain ⟨_, m2, m3, m4, m5⟩ := hin j S' hI
  have i2 : InS b2 S' true (.cells #[.int .i64 p] 3 (0, 0)) := ⟨m2⟩
  have i3 : InS b3 S' true (.cells #[.int .i64 k] 3 (0, 0)) := ⟨m3⟩
  have i4 := SlI.mk m4
  have hc1 : ∀ h : j < xs.length, xs[j].period = p → xs[j].known ≤ k → (xs[j].til = 0 ∨ xs[j].til > k) → countsU p k xs[j] = true := fun h h1 h2 h3 => by
    unfold countsU countsB
    simp only [Bool.and_eq_true, decide_eq_true_eq]
    exact ⟨h1, h2, h3.imp id id⟩
  have hc2 : ∀ h : j < xs.length, ¬ (xs[j].period = p ∧ xs[j].known ≤ k ∧ (xs[j].til = 0 ∨ xs[j].til > k)) → I (j + 1) S' := fun h h1 => hs j h S' hI (by
    unfold countsU countsB
    rw [Bool.eq_false_iff]
    simp only [ne_eq, Bool.and_eq_true, decide_eq_true_eq]
    exact fun ⟨h2, h3, h4⟩ => h1 ⟨h2, h3, h4.imp id id⟩)
  repeat' first|(refine gX ?_;first|refine o_v rfl rfl ?_|(refine o_splitD rfl rfl rfl ?_ ?_<;>intro h)|(refine o_split rfl rfl rfl ?_ ?_<;>intro h<;>fail_if_success exact Bool.noConfusion h)|(refine gL ?_;first|refine o_load rfl rfl rfl rfl ?_|refine o_loadR rfl rfl rfl (by omega) rfl rfl ?_|refine o_loadW rfl rfl rfl rfl ?_|refine o_loadK rfl rfl rfl ?_)|(refine gF ?_;first|refine o_fieldI rfl rfl rfl rfl ?_|refine o_field rfl rfl rfl rfl ?_)|(refine gB ?_;first|refine o_add rfl rfl rfl rfl (by omega) ?_|refine o_sub rfl rfl rfl rfl (by omega) ?_|refine o_eqNil rfl rfl rfl rfl rfl ?_)|(refine gC ?_;first|refine o_inv rfl rfl rfl rfl (c228 _ _ xs[j]) ?_|(refine o_yield (L:=L) (vs:=[_]) (S1:=S') rfl rfl rfl rfl (Sb.h.subset m5) hL.symm Sb.h (hr j (by first|done|omega) S' hI (hc1 (by omega) (by assumption) (by assumption) (by first|(left;assumption)|(right;assumption)))) ?_;rintro v S2 hv;refine ⟨inferInstance, ?_⟩;rcases hv with ⟨rfl, hv⟩|⟨rfl, hv⟩))|(refine gI ?_;first|refine o_indexS rfl rfl rfl rfl rfl rfl (by omega) ?_|refine o_index rfl rfl rfl rfl rfl (by omega) ?_)|(refine gS ?_;first|refine o_store rfl rfl rfl rfl rfl rfl ?_|refine o_storeW rfl rfl rfl rfl rfl rfl ?_)|(refine o_allocZ rfl rfl ?_;intro _)|(refine o_box rfl rfl rfl ?_;intro _)|refine o_skip rfl rfl ?_|refine o_skipN rfl rfl ?_|refine o_iface rfl rfl rfl ?_|refine o_build rfl rfl rfl rfl rfl ?_|(refine o_bslice rfl rfl rfl rfl rfl rfl rfl ?_;intro _)|(refine o_splitP rfl ?_ ?_<;>intro h<;>fail_if_success exact Bool.noConfusion h))|refine o_head0 rfl ?_|refine o_end ?_|refine o_head1 rfl ?_|refine wp_seq ?_|refine o_region ?_|refine wp_block ?_|refine wp_skip ?_|refine wp_exit ?_|(refine w_condD rfl ?_ ?_<;>intro h)|(refine w_cond rfl ?_ ?_<;>intro h<;>try exact Bool.noConfusion h)|refine w_ret (S2) (vs:=[]) rfl Res.nil ?_|refine w_ret (S) (vs:=[]) rfl Res.nil ?_
  all_goals first
    | exact .inr hv
    | exact ⟨xs.length - (j + 1), by omega, _, List.Sublist.refl _, j + 1, _, rfl, by omega, rfl, keep ⟨rfl, rfl, rfl, rfl, rfl, rfl, trivial⟩, hv⟩
    | exact ⟨xs.length - (j + 1), by omega, _, Sb.h, j + 1, _, rfl, by omega, rfl, keep ⟨rfl, rfl, rfl, rfl, rfl, rfl, trivial⟩, hc2 (by omega) fun ⟨q1, q2, q3⟩ => by first | contradiction | (rcases q3 with q3 | q3 <;> contradiction)⟩
    | (have e : j = xs.length := by omega
       exact w_fall (res_sem Res.nil (.inl (e ▸ hI))))
theorem c148 (E : Env) (S : Ents) (xs : List UseG) (a : Option Addr) (cp : Nat) (p k : Int) : CallW Tryz.prog E 148 #[.slice a xs.length cp, iv p, iv k] S fun r S' => ∃ b1 b2 b3, r = .func (.func 181) #[] #[.pointer (some ⟨b1, 0, none⟩), .pointer (some ⟨b2, 0, none⟩), .pointer (some ⟨b3, 0, none⟩)] ∧
    S' = ⟨b3, true, .cells #[.int .i64 k] 3 (0, 0)⟩ :: ⟨b2, true, .cells #[.int .i64 p] 3 (0, 0)⟩ :: ⟨b1, true, .cells #[.slice a xs.length cp] 193 (0, 0)⟩ :: S := by
  refine call_in (args := [.slice a xs.length cp, iv p, iv k]) Tryz.func148 (by decide) rfl rfl ?_
  repeat' first|(refine gX ?_;first|refine o_v rfl rfl ?_|(refine o_splitD rfl rfl rfl ?_ ?_<;>intro h)|(refine o_split rfl rfl rfl ?_ ?_<;>intro h<;>fail_if_success exact Bool.noConfusion h)|(refine gL ?_;first|refine o_load rfl rfl rfl rfl ?_|refine o_loadR rfl rfl rfl (by omega) rfl rfl ?_|refine o_loadW rfl rfl rfl rfl ?_|refine o_loadK rfl rfl rfl ?_)|(refine gF ?_;first|refine o_fieldI rfl rfl rfl rfl ?_|refine o_field rfl rfl rfl rfl ?_)|(refine gB ?_;first|refine o_add rfl rfl rfl rfl (by omega) ?_|refine o_sub rfl rfl rfl rfl (by omega) ?_|refine o_eqNil rfl rfl rfl rfl rfl ?_)|(refine gI ?_;first|refine o_indexS rfl rfl rfl rfl rfl rfl (by omega) ?_|refine o_index rfl rfl rfl rfl rfl (by omega) ?_)|(refine gS ?_;first|refine o_store rfl rfl rfl rfl rfl rfl ?_|refine o_storeW rfl rfl rfl rfl rfl rfl ?_)|(refine o_allocZ rfl rfl ?_;intro _)|(refine o_box rfl rfl rfl ?_;intro _)|refine o_skip rfl rfl ?_|refine o_skipN rfl rfl ?_|refine o_iface rfl rfl rfl ?_|refine o_build rfl rfl rfl rfl rfl ?_|(refine o_bslice rfl rfl rfl rfl rfl rfl rfl ?_;intro _)|(refine o_splitP rfl ?_ ?_<;>intro h<;>fail_if_success exact Bool.noConfusion h))|refine o_head0 rfl ?_|refine o_end ?_|refine o_head1 rfl ?_|refine wp_seq ?_|refine o_region ?_|refine wp_block ?_|refine wp_skip ?_|refine wp_exit ?_|(refine w_condD rfl ?_ ?_<;>intro h)|(refine w_cond rfl ?_ ?_<;>intro h<;>try exact Bool.noConfusion h)|refine w_retA (vs:=[_]) rfl (Res.tmp rfl Res.nil) ?_|refine w_ret (S) (vs:=[_]) rfl (Res.tmp rfl Res.nil) ?_
  exact ⟨_, _, _, rfl, rfl⟩
theorem c182 (E : Env) (S : Ents) (I : Nat → Ents → Prop) (J : Ents → Prop) (lp b1 b2 b3 : Nat) (L : Loop) (xs : List FaultG) (a : Option Addr) (cp : Nat) (p k : Int) (hm : xs.length ≤ 17592186044416) (h0 : I 0 S)
    (hin : ∀ j S', I j S' → (⟨b1, true, .cells #[.slice a xs.length cp] 197 (0, 0)⟩ : Ent) ∈ S' ∧ (⟨b2, true, .cells #[.int .i64 p] 3 (0, 0)⟩ : Ent) ∈ S' ∧ (⟨b3, true, .cells #[.int .i64 k] 3 (0, 0)⟩ : Ent) ∈ S' ∧ SlA S' a xs ∧ loopE lp L ∈ S') (hL : L.params.size = 1)
    (hr : ∀ j (h : j < xs.length) S', I j S' → countsF p k xs[j] = true → RoundW Tryz.prog E lp L.fn (rndT L [.agg (faultC xs[j])]) L.assign L.body S' fun v S'' => (v = .bool true ∧ I (j + 1) S'') ∨ (v = .bool false ∧ J S''))
    (hs : ∀ j (h : j < xs.length) S', I j S' → countsF p k xs[j] = false → I (j + 1) S') :
    CallW Tryz.prog E 182 #[.func (.yield lp) #[] #[], .pointer (some ⟨b1, 0, none⟩), .pointer (some ⟨b2, 0, none⟩), .pointer (some ⟨b3, 0, none⟩)] S fun _ S' => I xs.length S' ∨ J S' := by
  have i1 : InS b1 S true (.cells #[.slice a xs.length cp] 197 (0, 0)) := ⟨(hin 0 S h0).1⟩
  refine call_in (args := [.func (.yield lp) #[] #[], .pointer (some ⟨b1, 0, none⟩), .pointer (some ⟨b2, 0, none⟩), .pointer (some ⟨b3, 0, none⟩)]) Tryz.func182 (by decide) rfl rfl ?_
  repeat' first|(refine gX ?_;first|refine o_v rfl rfl ?_|(refine o_splitD rfl rfl rfl ?_ ?_<;>intro h)|(refine o_split rfl rfl rfl ?_ ?_<;>intro h<;>fail_if_success exact Bool.noConfusion h)|(refine gL ?_;first|refine o_load rfl rfl rfl rfl ?_|refine o_loadR rfl rfl rfl (by omega) rfl rfl ?_|refine o_loadW rfl rfl rfl rfl ?_|refine o_loadK rfl rfl rfl ?_)|(refine gF ?_;first|refine o_fieldI rfl rfl rfl rfl ?_|refine o_field rfl rfl rfl rfl ?_)|(refine gB ?_;first|refine o_add rfl rfl rfl rfl (by omega) ?_|refine o_sub rfl rfl rfl rfl (by omega) ?_|refine o_eqNil rfl rfl rfl rfl rfl ?_)|(refine gI ?_;first|refine o_indexS rfl rfl rfl rfl rfl rfl (by omega) ?_|refine o_index rfl rfl rfl rfl rfl (by omega) ?_)|(refine gS ?_;first|refine o_store rfl rfl rfl rfl rfl rfl ?_|refine o_storeW rfl rfl rfl rfl rfl rfl ?_)|(refine o_allocZ rfl rfl ?_;intro _)|(refine o_box rfl rfl rfl ?_;intro _)|refine o_skip rfl rfl ?_|refine o_skipN rfl rfl ?_|refine o_iface rfl rfl rfl ?_|refine o_build rfl rfl rfl rfl rfl ?_|(refine o_bslice rfl rfl rfl rfl rfl rfl rfl ?_;intro _)|(refine o_splitP rfl ?_ ?_<;>intro h<;>fail_if_success exact Bool.noConfusion h))|refine o_head0 rfl ?_|refine o_end ?_|refine o_head1 rfl ?_|refine wp_seq ?_|refine o_region ?_|refine wp_block ?_|refine wp_skip ?_|refine wp_exit ?_|(refine w_condD rfl ?_ ?_<;>intro h)|(refine w_cond rfl ?_ ?_<;>intro h<;>try exact Bool.noConfusion h)|refine w_ret (S) (vs:=[]) rfl Res.nil ?_
  refine wp_loop (fun i t ds S' => ∃ (j : Nat) (t0 : Tm), i = xs.length - j ∧ j ≤ xs.length ∧ [] = ds ∧ t = den [(14, .int .i64 j), (13, .int .i64 xs.length), (12, .slice a xs.length cp), (0, .func (.yield lp) #[] #[]), (2, .pointer (some ⟨b2, 0, none⟩)), (3, .pointer (some ⟨b3, 0, none⟩))] t0 ∧ I j S')
    xs.length ⟨0, _, rfl, Nat.zero_le _, rfl, keep ⟨rfl, rfl, rfl, rfl, rfl, rfl, trivial⟩, h0⟩ ?_
  rintro i t ds S' ⟨j, t0, rfl, hj, rfl, rfl, hI⟩
  obtain ⟨_, m2, m3, m4, m5⟩ := hin j S' hI
  have i2 : InS b2 S' true (.cells #[.int .i64 p] 3 (0, 0)) := ⟨m2⟩
  have i3 : InS b3 S' true (.cells #[.int .i64 k] 3 (0, 0)) := ⟨m3⟩
  have i4 := SlI.mk m4
  have hc1 : ∀ h : j < xs.length, xs[j].period = p → xs[j].known ≤ k → (xs[j].til = 0 ∨ xs[j].til > k) → countsF p k xs[j] = true := fun h h1 h2 h3 => by
    unfold countsF countsB
    simp only [Bool.and_eq_true, decide_eq_true_eq]
    exact ⟨h1, h2, h3.imp id id⟩
  have hc2 : ∀ h : j < xs.length, ¬ (xs[j].period = p ∧ xs[j].known ≤ k ∧ (xs[j].til = 0 ∨ xs[j].til > k)) → I (j + 1) S' := fun h h1 => hs j h S' hI (by
    unfold countsF countsB
    rw [Bool.eq_false_iff]
    simp only [ne_eq, Bool.and_eq_true, decide_eq_true_eq]
    exact fun ⟨h2, h3, h4⟩ => h1 ⟨h2, h3, h4.imp id id⟩)
  repeat' first|(refine gX ?_;first|refine o_v rfl rfl ?_|(refine o_splitD rfl rfl rfl ?_ ?_<;>intro h)|(refine o_split rfl rfl rfl ?_ ?_<;>intro h<;>fail_if_success exact Bool.noConfusion h)|(refine gL ?_;first|refine o_load rfl rfl rfl rfl ?_|refine o_loadR rfl rfl rfl (by omega) rfl rfl ?_|refine o_loadW rfl rfl rfl rfl ?_|refine o_loadK rfl rfl rfl ?_)|(refine gF ?_;first|refine o_fieldI rfl rfl rfl rfl ?_|refine o_field rfl rfl rfl rfl ?_)|(refine gB ?_;first|refine o_add rfl rfl rfl rfl (by omega) ?_|refine o_sub rfl rfl rfl rfl (by omega) ?_|refine o_eqNil rfl rfl rfl rfl rfl ?_)|(refine gC ?_;first|refine o_inv rfl rfl rfl rfl (c229 _ _ xs[j]) ?_|(refine o_yield (L:=L) (vs:=[_]) (S1:=S') rfl rfl rfl rfl (Sb.h.subset m5) hL.symm Sb.h (hr j (by first|done|omega) S' hI (hc1 (by omega) (by assumption) (by assumption) (by first|(left;assumption)|(right;assumption)))) ?_;rintro v S2 hv;refine ⟨inferInstance, ?_⟩;rcases hv with ⟨rfl, hv⟩|⟨rfl, hv⟩))|(refine gI ?_;first|refine o_indexS rfl rfl rfl rfl rfl rfl (by omega) ?_|refine o_index rfl rfl rfl rfl rfl (by omega) ?_)|(refine gS ?_;first|refine o_store rfl rfl rfl rfl rfl rfl ?_|refine o_storeW rfl rfl rfl rfl rfl rfl ?_)|(refine o_allocZ rfl rfl ?_;intro _)|(refine o_box rfl rfl rfl ?_;intro _)|refine o_skip rfl rfl ?_|refine o_skipN rfl rfl ?_|refine o_iface rfl rfl rfl ?_|refine o_build rfl rfl rfl rfl rfl ?_|(refine o_bslice rfl rfl rfl rfl rfl rfl rfl ?_;intro _)|(refine o_splitP rfl ?_ ?_<;>intro h<;>fail_if_success exact Bool.noConfusion h))|refine o_head0 rfl ?_|refine o_end ?_|refine o_head1 rfl ?_|refine wp_seq ?_|refine o_region ?_|refine wp_block ?_|refine wp_skip ?_|refine wp_exit ?_|(refine w_condD rfl ?_ ?_<;>intro h)|(refine w_cond rfl ?_ ?_<;>intro h<;>try exact Bool.noConfusion h)|refine w_ret (S2) (vs:=[]) rfl Res.nil ?_|refine w_ret (S) (vs:=[]) rfl Res.nil ?_
  all_goals first
    | exact .inr hv
    | exact ⟨xs.length - (j + 1), by omega, _, List.Sublist.refl _, j + 1, _, rfl, by omega, rfl, keep ⟨rfl, rfl, rfl, rfl, rfl, rfl, trivial⟩, hv⟩
    | exact ⟨xs.length - (j + 1), by omega, _, Sb.h, j + 1, _, rfl, by omega, rfl, keep ⟨rfl, rfl, rfl, rfl, rfl, rfl, trivial⟩, hc2 (by omega) fun ⟨q1, q2, q3⟩ => by first | contradiction | (rcases q3 with q3 | q3 <;> contradiction)⟩
    | (have e : j = xs.length := by omega
       exact w_fall (res_sem Res.nil (.inl (e ▸ hI))))
theorem c154 (E : Env) (S : Ents) (xs : List FaultG) (a : Option Addr) (cp : Nat) (p k : Int) : CallW Tryz.prog E 154 #[.slice a xs.length cp, iv p, iv k] S fun r S' => ∃ b1 b2 b3, r = .func (.func 182) #[] #[.pointer (some ⟨b1, 0, none⟩), .pointer (some ⟨b2, 0, none⟩), .pointer (some ⟨b3, 0, none⟩)] ∧
    S' = ⟨b3, true, .cells #[.int .i64 k] 3 (0, 0)⟩ :: ⟨b2, true, .cells #[.int .i64 p] 3 (0, 0)⟩ :: ⟨b1, true, .cells #[.slice a xs.length cp] 197 (0, 0)⟩ :: S := by
  refine call_in (args := [.slice a xs.length cp, iv p, iv k]) Tryz.func154 (by decide) rfl rfl ?_
  repeat' first|(refine gX ?_;first|refine o_v rfl rfl ?_|(refine o_splitD rfl rfl rfl ?_ ?_<;>intro h)|(refine o_split rfl rfl rfl ?_ ?_<;>intro h<;>fail_if_success exact Bool.noConfusion h)|(refine gL ?_;first|refine o_load rfl rfl rfl rfl ?_|refine o_loadR rfl rfl rfl (by omega) rfl rfl ?_|refine o_loadW rfl rfl rfl rfl ?_|refine o_loadK rfl rfl rfl ?_)|(refine gF ?_;first|refine o_fieldI rfl rfl rfl rfl ?_|refine o_field rfl rfl rfl rfl ?_)|(refine gB ?_;first|refine o_add rfl rfl rfl rfl (by omega) ?_|refine o_sub rfl rfl rfl rfl (by omega) ?_|refine o_eqNil rfl rfl rfl rfl rfl ?_)|(refine gI ?_;first|refine o_indexS rfl rfl rfl rfl rfl rfl (by omega) ?_|refine o_index rfl rfl rfl rfl rfl (by omega) ?_)|(refine gS ?_;first|refine o_store rfl rfl rfl rfl rfl rfl ?_|refine o_storeW rfl rfl rfl rfl rfl rfl ?_)|(refine o_allocZ rfl rfl ?_;intro _)|(refine o_box rfl rfl rfl ?_;intro _)|refine o_skip rfl rfl ?_|refine o_skipN rfl rfl ?_|refine o_iface rfl rfl rfl ?_|refine o_build rfl rfl rfl rfl rfl ?_|(refine o_bslice rfl rfl rfl rfl rfl rfl rfl ?_;intro _)|(refine o_splitP rfl ?_ ?_<;>intro h<;>fail_if_success exact Bool.noConfusion h))|refine o_head0 rfl ?_|refine o_end ?_|refine o_head1 rfl ?_|refine wp_seq ?_|refine o_region ?_|refine wp_block ?_|refine wp_skip ?_|refine wp_exit ?_|(refine w_condD rfl ?_ ?_<;>intro h)|(refine w_cond rfl ?_ ?_<;>intro h<;>try exact Bool.noConfusion h)|refine w_retA (vs:=[_]) rfl (Res.tmp rfl Res.nil) ?_|refine w_ret (S) (vs:=[_]) rfl (Res.tmp rfl Res.nil) ?_
  exact ⟨_, _, _, rfl, rfl⟩

end Go.Proofs.YtpnnmklacialgaaGreat
namespace Go.Proofs.YtpnnmklacialgaaGreat
open Go.Conc

/-! ### a valid net -/

structure Valid (n : NetG) : Prop where
  m12 : n.mains.length ≤ 12
  mains : ∀ m ∈ n.mains, mainOk m = true ∧ upOk n m = true
  rise : riseN (·.id) (upOk n) n.mains = true
  u60 : n.uses.length ≤ 60
  uses : ∀ u ∈ n.uses, useOk u = true ∧ 0 ≤ placeF n u.main
  r60 : n.readings.length ≤ 60
  reads : ∀ r ∈ n.readings, readOk r = true ∧ 0 ≤ placeF n r.main
  f60 : n.faults.length ≤ 60
  faults : ∀ f ∈ n.faults, faultOk f = true ∧ 0 ≤ placeF n f.main
  p10 : n.prices.length ≤ 10
  prices : ∀ p ∈ n.prices, priceOk p = true
theorem riseF_ok {α : Type} {key : α → Int} {ok : α → Bool} : ∀ {l : List α} {was : Int}, riseF key ok was l = true → ∀ x ∈ l, ok x = true
  | [], _, _, x, hx => by cases hx
  | y :: l, was, h, x, hx => by
    simp only [riseF, Bool.and_eq_true] at h
    rcases List.mem_cons.1 hx with rfl | hx
    · exact h.1.2
    · exact riseF_ok h.2 x hx
theorem riseN_ok {α : Type} {key : α → Int} {ok : α → Bool} {l : List α} (h : riseN key ok l = true) : ∀ x ∈ l, ok x = true := by
  cases l with
  | nil => intro x hx; cases hx
  | cons y l =>
    simp only [riseN, Bool.and_eq_true] at h
    intro x hx
    rcases List.mem_cons.1 hx with rfl | hx
    · exact h.1
    · exact riseF_ok h.2 x hx
theorem valid_of {n : NetG} (h : validB n = true) : Valid n := by
  unfold validB at h
  simp only [Bool.and_eq_true, lenAll_iff] at h
  obtain ⟨⟨⟨⟨⟨⟨⟨⟨⟨⟨h1, h2⟩, h3, h4⟩, h5, h6⟩, h7, h8⟩, h9, h10⟩, h11⟩, h12⟩, h13⟩, h14⟩, h15⟩ := h
  exact ⟨h1, fun m hm => ⟨h2 m hm, riseN_ok h11 m hm⟩, h11, h3, fun u hu => ⟨h4 u hu, of_decide_eq_true (riseF_ok h13 u hu)⟩, h5, fun r hr => ⟨h6 r hr, of_decide_eq_true (riseF_ok h14 r hr)⟩, h7, fun f hf => ⟨h8 f hf, of_decide_eq_true (riseF_ok h15 f hf)⟩, h9, h10⟩

theorem idxF_spec {α : Type} {p : α → Bool} : ∀ {l : List α} {i : Nat}, (0 ≤ idxF p l i → ∃ j, idxF p l i = ((i + j : Nat) : Int) ∧ ∃ h : j < l.length, p l[j] = true) ∧ (idxF p l i < 0 → idxF p l i = -1)
  | [], i => ⟨fun h => by simp [idxF] at h, fun _ => rfl⟩
  | x :: l, i => by
    simp only [idxF]
    by_cases hp : p x = true
    · rw [if_pos hp]
      exact ⟨fun _ => ⟨0, by simp, by simp, hp⟩, fun h => by omega⟩
    · rw [if_neg hp]
      have ih := idxF_spec (p := p) (l := l) (i := i + 1)
      refine ⟨fun h => ?_, ih.2⟩
      obtain ⟨j, h1, h2, h3⟩ := ih.1 h
      exact ⟨j + 1, by rw [h1]; congr 1; omega, by simp; omega, by simpa using h3⟩
def idx (n : NetG) (id : Int) : Nat := (placeF n id).toNat
theorem idx_spec {n : NetG} {id : Int} (h : 0 ≤ placeF n id) : placeF n id = (idx n id : Int) ∧ ∃ h : idx n id < n.mains.length, n.mains[idx n id].id = id := by
  obtain ⟨j, h1, h2, h3⟩ := (idxF_spec (p := fun x : MainG => x.id == id) (l := n.mains) (i := 0)).1 h
  have e : placeF n id = (j : Int) := by unfold placeF; rw [h1]; simp
  have e2 : idx n id = j := by unfold idx; rw [e]; simp
  rw [e2]
  exact ⟨e, h2, by simpa using h3⟩

/-! ### ranges that are not negative, and bounded -/

def Nn (M : Int) (x : RangeG) : Prop := 0 ≤ x.lo ∧ x.lo ≤ M ∧ 0 ≤ x.hi ∧ x.hi ≤ M
theorem Nn.bd {M : Int} {x : RangeG} (h : Nn M x) : Bd M x := by unfold Nn at h; unfold Bd; omega
theorem Nn.mono {M M' : Int} {x : RangeG} (h : Nn M x) (hm : M ≤ M') : Nn M' x := by unfold Nn at *; omega
theorem nn_zero {M : Int} (h : 0 ≤ M) : Nn M zR := by unfold Nn zR; simp only; omega
theorem vol_nn {u : UseG} (h : useOk u = true) : Nn 1000000 (volR u) := by
  obtain ⟨⟨h1, h2⟩, h3, h4⟩ := vol_bd h
  unfold Nn volR
  simp only
  have a1 := Int.ediv_nonneg h1 (show (0 : Int) ≤ 60 by omega)
  omega
theorem sumR_nn {M : Int} (h0 : 0 ≤ M) : ∀ {l : List RangeG}, (∀ x ∈ l, Nn M x) → Nn (M * l.length) (sumR l)
  | [], _ => by unfold Nn sumR; simp
  | x :: l, h => by
    have h1 := h x (.head _)
    have h2 := sumR_nn h0 (l := l) fun y hy => h y (.tail _ hy)
    unfold Nn at h1 h2 ⊢
    simp only [sumR, List.length_cons]
    have e : M * ((l.length + 1 : Nat) : Int) = M * l.length + M := by rw [Int.natCast_add, Int.mul_add]; simp
    rw [e]
    omega
/-- No part is negative. -/
def Ge (x : RangeG) : Prop := 0 ≤ x.lo ∧ 0 ≤ x.hi
theorem sum_sub {l l' : List RangeG} (hs : List.Sublist l l') (h : ∀ x ∈ l', Ge x) : (sumR l).lo ≤ (sumR l').lo ∧ (sumR l).hi ≤ (sumR l').hi ∧ Ge (sumR l) := by
  induction hs with
  | slnil => simp [sumR, Ge]
  | @cons l l' x _ ih =>
    have := ih fun y hy => h y (.tail _ hy)
    have hx := h x (.head _)
    unfold Ge at *
    simp only [sumR]
    omega
  | @cons_cons l l' x _ ih =>
    have := ih fun y hy => h y (.tail _ hy)
    have hx := h x (.head _)
    unfold Ge at *
    simp only [sumR]
    omega
theorem sumR_app {l m : List RangeG} : sumR (l ++ m) = ⟨(sumR l).lo + (sumR m).lo, (sumR l).hi + (sumR m).hi⟩ := by
  induction l with
  | nil => simp [sumR]
  | cons x l ih => simp only [List.cons_append, sumR, ih, Int.add_assoc]
theorem sum_set {l : List RangeG} {i : Nat} {x : RangeG} (h : ∀ y ∈ l, Ge y) (hx : Ge x) : (sumR (l.set i x)).lo ≤ (sumR l).lo + x.lo ∧ (sumR (l.set i x)).hi ≤ (sumR l).hi + x.hi := by
  induction l generalizing i with
  | nil => unfold Ge at hx; simp [sumR]; omega
  | cons y l ih =>
    have hy := h y (.head _)
    have hl := (sum_sub (List.Sublist.refl l) fun z hz => h z (.tail _ hz)).2.2
    unfold Ge at *
    cases i with
    | zero => simp only [List.set_cons_zero, sumR]; omega
    | succ i =>
      have := ih (i := i) fun z hz => h z (.tail _ hz)
      simp only [List.set_cons_succ, sumR]; omega
theorem mem_set {α : Type} {l : List α} {i : Nat} {x y : α} (h : y ∈ l.set i x) : y = x ∨ y ∈ l := by
  rcases List.mem_or_eq_of_mem_set h with h | h
  · exact .inr h
  · exact .inl h
theorem ge_part {p : List RangeG} {i : Nat} (h : ∀ x ∈ p, Ge x) : Ge (partOf p i) := by
  unfold partOf
  rcases Nat.lt_or_ge i p.length with h1 | h1
  · simp [List.getD, h1]; exact h _ (List.getElem_mem h1)
  · simp [List.getD, h1]; unfold Ge zR; simp
theorem bd_part {M : Int} (h0 : 0 ≤ M) {p : List RangeG} {i : Nat} (h : ∀ x ∈ p, Bd M x) : Bd M (partOf p i) := by
  unfold partOf
  rcases Nat.lt_or_ge i p.length with h1 | h1
  · simp [List.getD, h1]; exact h _ (List.getElem_mem h1)
  · simp [List.getD, h1]; unfold Bd zR; simp only; omega
theorem nn_part {M : Int} (h0 : 0 ≤ M) {p : List RangeG} {i : Nat} (h : ∀ x ∈ p, Nn M x) : Nn M (partOf p i) := by
  unfold partOf
  rcases Nat.lt_or_ge i p.length with h1 | h1
  · simp [List.getD, h1]; exact h _ (List.getElem_mem h1)
  · simp [List.getD, h1]; exact nn_zero h0

/-! ### what lamps burnt -/

def z12 : List RangeG := List.replicate 12 zR
def stepU (n : NetG) (acc : List RangeG) (u : UseG) : List RangeG := acc.set (idx n u.main) (sumR [partOf acc (idx n u.main), volR u])
def usedT (n : NetG) (p k : Int) (j : Nat) : List RangeG := ((n.uses.take j).filter (countsU p k)).foldl (stepU n) z12
def usedN (n : NetG) (p k : Int) : List RangeG := usedT n p k n.uses.length
theorem foldU_nn {n : NetG} : ∀ {l : List UseG} {acc : List RangeG} {B : Int}, 0 ≤ B → (∀ x ∈ acc, Nn B x) → (∀ u ∈ l, useOk u = true) → ∀ x ∈ l.foldl (stepU n) acc, Nn (B + 1000000 * l.length) x
  | [], acc, B, hB, ha, _ => by simpa using ha
  | u :: l, acc, B, hB, ha, hl => by
    have hv := vol_nn (hl u (.head _))
    have hp := nn_part (i := idx n u.main) hB ha
    have hstep : ∀ x ∈ stepU n acc u, Nn (B + 1000000) x := by
      intro x hx
      rcases mem_set hx with rfl | hx
      · unfold Nn at hv hp ⊢
        simp only [sumR]; omega
      · exact (ha x hx).mono (by omega)
    have := foldU_nn (n := n) (l := l) (by omega) hstep fun v hv => hl v (.tail _ hv)
    intro x hx
    refine (this x hx).mono ?_
    simp only [List.length_cons, Int.natCast_add]
    omega
theorem usedT_nn {n : NetG} (h : Valid n) {p k : Int} {j : Nat} : ∀ x ∈ usedT n p k j, Nn 60000000 x := by
  intro x hx
  have := foldU_nn (n := n) (l := (n.uses.take j).filter (countsU p k)) (acc := z12) (B := 0) (by omega) (fun x hx => by rw [List.eq_of_mem_replicate hx]; exact nn_zero (by omega)) (fun u hu => (h.uses u (List.mem_of_mem_take (List.mem_filter.1 hu).1)).1) x hx
  refine this.mono ?_
  have h1 := filter_len (l := n.uses) (q := countsU p k) (j := j)
  have := h.u60
  omega
theorem foldU_len {n : NetG} : ∀ {l : List UseG} {acc : List RangeG}, (l.foldl (stepU n) acc).length = acc.length
  | [], _ => rfl
  | u :: l, acc => by rw [List.foldl_cons, foldU_len]; simp [stepU]
theorem usedT_len {n : NetG} {p k : Int} {j : Nat} : (usedT n p k j).length = 12 := by unfold usedT; rw [foldU_len]; simp [z12]
theorem usedT_succ {n : NetG} {p k : Int} {j : Nat} (h : j < n.uses.length) : usedT n p k (j + 1) = if countsU p k n.uses[j] = true then stepU n (usedT n p k j) n.uses[j] else usedT n p k j := by
  unfold usedT
  rw [filter_snoc h, List.foldl_append]
  split <;> simp

/-! ### what mains let through, as far as the mains below tell -/

def readT (n : NetG) (by' : ReadG → Bool) (p k : Int) (i : Nat) (x : RangeG) (j : Nat) : RangeG := ((n.readings.take j).filter (countsR p k)).foldl (fun acc r => if r.main = idOf n.mains i ∧ by' r = true then meetR acc r.volume else acc) x
def readN (n : NetG) (by' : ReadG → Bool) (p k : Int) (i : Nat) (x : RangeG) : RangeG := readT n by' p k i x n.readings.length
theorem readT_succ {n : NetG} {by' : ReadG → Bool} {p k : Int} {i : Nat} {x : RangeG} {j : Nat} (h : j < n.readings.length) :
    readT n by' p k i x (j + 1) = if countsR p k n.readings[j] = true then (if n.readings[j].main = idOf n.mains i ∧ by' n.readings[j] = true then meetR (readT n by' p k i x j) n.readings[j].volume else readT n by' p k i x j) else readT n by' p k i x j := by
  unfold readT
  rw [filter_snoc h, List.foldl_append]
  split <;> simp
def upStep (n : NetG) (by' : ReadG → Bool) (p k : Int) (P : List RangeG) (i : Nat) : List RangeG := P.set i (readN n by' p k i (restR n.mains (usedN n p k) P i (-3)))
/-- d mains done, the last ones first. -/
def upsD (n : NetG) (by' : ReadG → Bool) (p k : Int) : Nat → List RangeG
  | 0 => z12
  | d + 1 => upStep n by' p k (upsD n by' p k d) (n.mains.length - 1 - d)
def evD (n : NetG) (by' : ReadG → Bool) (p k : Int) : Nat → Bool
  | 0 => true
  | d + 1 => evD n by' p k d && decide ((partOf (upsD n by' p k (d + 1)) (n.mains.length - 1 - d)).lo ≤ (partOf (upsD n by' p k (d + 1)) (n.mains.length - 1 - d)).hi)
def upsN (n : NetG) (by' : ReadG → Bool) (p k : Int) : List RangeG := upsD n by' p k n.mains.length
def evenN (n : NetG) (by' : ReadG → Bool) (p k : Int) : Bool := evD n by' p k n.mains.length
theorem upsD_len {n : NetG} {by' : ReadG → Bool} {p k : Int} : ∀ {d : Nat}, (upsD n by' p k d).length = 12
  | 0 => by simp [upsD, z12]
  | d + 1 => by simp [upsD, upStep, upsD_len]

theorem foldR_nn {n : NetG} {by' : ReadG → Bool} {i : Nat} {M : Int} (hM : 100000000 ≤ M) : ∀ {l : List ReadG} {x : RangeG}, Nn M x → (∀ r ∈ l, readOk r = true) → Nn M (l.foldl (fun acc r => if r.main = idOf n.mains i ∧ by' r = true then meetR acc r.volume else acc) x)
  | [], x, hx, _ => hx
  | r :: l, x, hx, hl => by
    refine foldR_nn hM (l := l) ?_ fun r hr => hl r (.tail _ hr)
    dsimp only
    split
    · have := hl r (.head _)
      simp only [readOk, rangeOk, Bool.and_eq_true, decide_eq_true_eq] at this
      unfold Nn meetR at *
      simp only
      omega
    · exact hx
theorem readT_nn {n : NetG} (h : Valid n) {by' : ReadG → Bool} {p k : Int} {i : Nat} {M : Int} {x : RangeG} {j : Nat} (hM : 100000000 ≤ M) (hx : Nn M x) : Nn M (readT n by' p k i x j) :=
  foldR_nn hM hx fun r hr => (h.reads r (List.mem_of_mem_take (List.mem_filter.1 hr).1)).1

theorem leak_nn {n : NetG} (h : Valid n) {i : Nat} : Nn 100000000 (leakOf n.mains i) := by
  unfold leakOf
  cases hm : n.mains[i]? with
  | none => exact nn_zero (by omega)
  | some m =>
    have := (h.mains m (List.mem_of_getElem? hm)).1
    simp only [mainOk, rangeOk, Bool.and_eq_true, decide_eq_true_eq] at this
    unfold Nn
    simp only
    omega
theorem belowN_sub {ms : List MainG} {id but : Int} {P : List RangeG} (hl : ms.length ≤ P.length) : List.Sublist (((belowN ms id).filter fun (k : Nat) => decide ((k : Int) ≠ but)).map (partOf P)) P := by
  have h1 : List.Sublist ((belowN ms id).filter fun (k : Nat) => decide ((k : Int) ≠ but)) (List.range ms.length) := (List.filter_sublist).trans (by unfold belowN belowT; exact List.filter_sublist)
  refine (h1.map (partOf P)).trans ?_
  have h2 : (List.range ms.length).map (partOf P) = P.take ms.length := by
    apply List.ext_getElem?
    intro i
    rw [List.getElem?_map, List.getElem?_take]
    by_cases hi : i < ms.length
    · rw [List.getElem?_range hi, if_pos hi]
      simp [partOf_get (show i < P.length by omega), List.getElem?_eq_getElem (show i < P.length by omega)]
    · rw [if_neg hi, List.getElem?_eq_none (by simp; omega)]; rfl
  rw [h2]
  exact List.take_sublist _ _
theorem restR_nn {n : NetG} (h : Valid n) {p k : Int} {P : List RangeG} (hl : P.length = 12) (hP : ∀ x ∈ P, Ge x) {i : Nat} {but : Int} :
    0 ≤ (restR n.mains (usedN n p k) P i but).lo ∧ (restR n.mains (usedN n p k) P i but).lo ≤ 160000000 + (sumR P).lo ∧ 0 ≤ (restR n.mains (usedN n p k) P i but).hi ∧ (restR n.mains (usedN n p k) P i but).hi ≤ 160000000 + (sumR P).hi := by
  unfold restR restL
  rw [sumR_app, sumR_app]
  have h1 := sum_sub (belowN_sub (ms := n.mains) (id := idOf n.mains i) (but := but) (P := P) (by have := h.m12; omega)) hP
  have h2 := nn_part (i := i) (by omega) (usedT_nn h (p := p) (k := k) (j := n.uses.length))
  have h3 := leak_nn h (i := i)
  change Nn 60000000 (partOf (usedN n p k) i) at h2
  unfold Nn Ge at *
  split <;> split <;> simp only [sumR] <;> omega
theorem upsD_nn {n : NetG} (h : Valid n) {by' : ReadG → Bool} {p k : Int} : ∀ {d : Nat}, (∀ x ∈ upsD n by' p k d, Ge x) ∧ (sumR (upsD n by' p k d)).lo ≤ 200000000 * (2 ^ d - 1) ∧ (sumR (upsD n by' p k d)).hi ≤ 200000000 * (2 ^ d - 1)
  | 0 => by
    refine ⟨fun x hx => ?_, by simp [upsD, z12, sumR, zR, List.replicate], by simp [upsD, z12, sumR, zR, List.replicate]⟩
    rw [List.eq_of_mem_replicate hx]; unfold Ge zR; simp
  | d + 1 => by
    obtain ⟨h1, h2, h3⟩ := upsD_nn h (by' := by') (p := p) (k := k) (d := d)
    have hr := restR_nn h (p := p) (k := k) upsD_len h1 (i := n.mains.length - 1 - d) (but := -3)
    have hpow : (1 : Int) ≤ 2 ^ d := by
      have : 0 < (2 : Int) ^ d := Int.pow_pos (by omega)
      omega
    generalize hM : (200000000 * 2 ^ d : Int) = M at *
    have hM2 : (200000000 * (2 ^ (d + 1) - 1) : Int) = 2 * M - 200000000 := by rw [Int.pow_succ, ← hM]; omega
    have hM3 : (200000000 * (2 ^ d - 1) : Int) = M - 200000000 := by rw [← hM]; omega
    have hM4 : 200000000 ≤ M := by rw [← hM]; omega
    rw [hM3] at h2 h3
    rw [hM2]
    have hx : Nn (M - 40000000) (restR n.mains (usedN n p k) (upsD n by' p k d) (n.mains.length - 1 - d) (-3)) := by unfold Nn; omega
    have hx2 := readT_nn h (by' := by') (p := p) (k := k) (i := n.mains.length - 1 - d) (j := n.readings.length) (by omega) hx
    change Nn (M - 40000000) (readN n by' p k (n.mains.length - 1 - d) _) at hx2
    have hge : Ge (readN n by' p k (n.mains.length - 1 - d) (restR n.mains (usedN n p k) (upsD n by' p k d) (n.mains.length - 1 - d) (-3))) := ⟨hx2.1, hx2.2.2.1⟩
    have hs := sum_set (i := n.mains.length - 1 - d) h1 hge
    refine ⟨fun x hx' => ?_, ?_, ?_⟩
    · rcases mem_set hx' with rfl | hx'
      · exact hge
      · exact h1 x hx'
    · unfold Nn at hx2
      simp only [upsD, upStep]; omega
    · unfold Nn at hx2
      simp only [upsD, upStep]; omega
theorem ge_sum_mem {l : List RangeG} (h : ∀ x ∈ l, Ge x) : ∀ x ∈ l, x.lo ≤ (sumR l).lo ∧ x.hi ≤ (sumR l).hi := by
  intro x hx
  have := sum_sub (List.singleton_sublist.2 hx) h
  simp only [sumR] at this
  omega
theorem pow_le12 : ∀ {d : Nat}, d ≤ 12 → (200000000 * (2 ^ d - 1) : Int) ≤ 900000000000 := by
  intro d hd
  have : (2 : Int) ^ d ≤ 2 ^ 12 := by
    have := Nat.pow_le_pow_right (n := 2) (by omega) hd
    exact_mod_cast this
  have e : (2 : Int) ^ 12 = 4096 := by decide
  omega
theorem upsD_bd {n : NetG} (h : Valid n) {by' : ReadG → Bool} {p k : Int} {d : Nat} (hd : d ≤ 12) : (∀ x ∈ upsD n by' p k d, Nn 900000000000 x) ∧ (sumR (upsD n by' p k d)).lo ≤ 900000000000 ∧ (sumR (upsD n by' p k d)).hi ≤ 900000000000 := by
  obtain ⟨h1, h2, h3⟩ := upsD_nn h (by' := by') (p := p) (k := k) (d := d)
  have hp := pow_le12 hd
  refine ⟨fun x hx => ?_, by omega, by omega⟩
  have := ge_sum_mem h1 x hx
  have := h1 x hx
  unfold Ge at this
  unfold Nn; omega

/-! ### what mains let through -/

def upOf (n : NetG) (i : Nat) : Int := match n.mains[i]? with | some m => m.up | none => 0
def stepH (n : NetG) (by' : ReadG → Bool) (p k : Int) (H : List RangeG) (i : Nat) : List RangeG :=
  let P := upsN n by' p k
  let H1 := H.set i (partOf P i)
  if 0 ≤ placeF n (upOf n i) then H1.set i (meetR (partOf P i) (lessR (partOf H1 (idx n (upOf n i))) (restR n.mains (usedN n p k) P (idx n (upOf n i)) (i : Int)))) else H1
def thrT (n : NetG) (by' : ReadG → Bool) (p k : Int) : Nat → List RangeG
  | 0 => z12
  | i + 1 => stepH n by' p k (thrT n by' p k i) i
def thrN (n : NetG) (by' : ReadG → Bool) (p k : Int) : List RangeG := thrT n by' p k n.mains.length
theorem thrT_len {n : NetG} {by' : ReadG → Bool} {p k : Int} : ∀ {i : Nat}, (thrT n by' p k i).length = 12
  | 0 => by simp [thrT, z12]
  | i + 1 => by
    have := thrT_len (n := n) (by' := by') (p := p) (k := k) (i := i)
    simp only [thrT, stepH]
    split <;> simp [this]
theorem thrT_bd {n : NetG} (h : Valid n) {by' : ReadG → Bool} {p k : Int} : ∀ {i : Nat}, ∀ x ∈ thrT n by' p k i, Bd (1000000000000 * (i + 1)) x
  | 0 => by
    intro x hx
    rw [List.eq_of_mem_replicate hx]
    unfold Bd zR; simp
  | i + 1 => by
    have ih := thrT_bd h (by' := by') (p := p) (k := k) (i := i)
    have hu := upsD_bd h (by' := by') (p := p) (k := k) h.m12
    change (∀ x ∈ upsN n by' p k, _) ∧ (sumR (upsN n by' p k)).lo ≤ _ ∧ (sumR (upsN n by' p k)).hi ≤ _ at hu
    have hp := nn_part (i := i) (by omega) hu.1
    have hr := restR_nn h (p := p) (k := k) (P := upsN n by' p k) upsD_len (fun x hx => ⟨(hu.1 x hx).1, (hu.1 x hx).2.2.1⟩) (i := idx n (upOf n i)) (but := (i : Int))
    have e : (1000000000000 * (((i + 1 : Nat) : Int) + 1)) = 1000000000000 * ((i : Int) + 1) + 1000000000000 := by rw [Int.natCast_add]; omega
    rw [e]
    generalize hB : (1000000000000 * ((i : Int) + 1) : Int) = B at *
    have hB2 : 1000000000000 ≤ B := by rw [← hB]; omega
    have h1 : ∀ x ∈ (thrT n by' p k i).set i (partOf (upsN n by' p k) i), Bd B x := fun x hx => by
      rcases mem_set hx with rfl | hx
      · exact hp.bd.mono (by omega)
      · exact ih x hx
    intro x hx
    simp only [thrT, stepH] at hx
    split at hx
    · rcases mem_set hx with rfl | hx
      · have hk := bd_part (i := idx n (upOf n i)) (by omega) h1
        unfold Nn at hp
        unfold Bd at hk
        unfold Bd meetR lessR
        simp only
        omega
      · exact (h1 x hx).mono (by omega)
    · exact (h1 x hx).mono (by omega)
theorem thrN_bd {n : NetG} (h : Valid n) {by' : ReadG → Bool} {p k : Int} : ∀ x ∈ thrN n by' p k, Bd 13000000000000 x := fun x hx => by
  refine (thrT_bd h x hx).mono ?_
  have := h.m12
  omega
end Go.Proofs.YtpnnmklacialgaaGreat
