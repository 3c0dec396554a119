/- From the caller's own tree to the row: the outermost call, and what its arguments read as.
   What arguments read as: numbers, structs of numbers, slices of such, a net.
   The frame of the eight laws: from the walk over every net (whatever its two further arguments) to the row's contract. -/
import Derived.Test.YtpnnmklacialgaaGreatP12
import Derived.Conc.LeavingOf
import Derived.Carry
import Derived.Deep.Slices
import Derived.OpenShut
import Derived.SizedLaws
set_option linter.unusedVariables false
set_option linter.unusedSimpArgs false
namespace Go.Proofs.YtpnnmklacialgaaGreat
open Go.Conc

/-- The outside as it was, the heap no smaller. -/
structure Ext (w w' : World) : Prop where
  tape : w'.tape = w.tape
  os : w'.os = w.os
  output : w'.output = w.output
  size : w.heap.size ≤ w'.heap.size
theorem Ext.refl (w : World) : Ext w w := ⟨rfl, rfl, rfl, Nat.le_refl _⟩
theorem Ext.trans {a b c : World} (h : Ext a b) (k : Ext b c) : Ext a c := ⟨k.tape.trans h.tape, k.os.trans h.os, k.output.trans h.output, Nat.le_trans h.size k.size⟩
theorem Ext.rely {O : Nat → Prop} {m : Mode} {w w' : World} (h : Rely O m w w') : Ext w w' := ⟨h.tape, h.os, h.output, h.size⟩

section
variable {P : Program}
theorem xm_mono {m : Mode} {g : Goroutine} {w : World} {O : Nat → Prop} {K K' : Mode → Goroutine → World → (Nat → Prop) → Prop} (h : XM P m g w O K) (hk : ∀ m' g' O', K m' g' w O' → K' m' g' w O') : XM P m g w O K' := by
  obtain ⟨h1, h2, h3⟩ := h
  refine ⟨h1, h2, ?_⟩
  cases ht : m.tag with
  | plain =>
    simp only [ht] at h3 ⊢
    obtain ⟨g', child, c, L, O', ro', s, r, tm, a1, a2, a3, a4, a5, a6⟩ := h3
    exact ⟨g', child, c, L, O', ro', s, r, tm, a1, a2, a3, a4, a5, hk _ _ _ a6⟩
  | recv c L =>
    simp only [ht] at h3 ⊢
    obtain ⟨z, a1, a2⟩ := h3
    refine ⟨z, a1, ?_⟩
    cases L with
    | nil => obtain ⟨ro', O', a3⟩ := a2; exact ⟨ro', O', hk _ _ _ a3⟩
    | cons v L => exact hk _ _ _ a2
  | send c L => simp only [ht] at h3
theorem Run.ext {Stop : StopAt} {m : Mode} {g : Goroutine} {w : World} {O : Nat → Prop} (h : Run P true (XM P) Stop m g w O) : ∀ w0, Ext w0 w → Run P true (XM P) (fun m g w O => Stop m g w O ∧ Ext w0 w) m g w O := by
  induction h with
  | stop h => exact fun w0 he => .stop fun w₁ hr => ⟨h w₁ hr, he.trans (.rely hr)⟩
  | walk g' w' es hs h _ ih =>
    refine fun w0 he => .walk g' w' es hs h fun w₁ hr => ih w₁ hr w0 ?_
    have hg := (h w₁ hr).2
    exact (he.trans (.rely hr)).trans ⟨hg.tape, hg.os, hg.output, hg.size⟩
  | extra K h _ ih =>
    intro w0 he
    refine .extra (fun m' g' w' O' => K m' g' w' O' ∧ Ext w0 w') (fun w₁ hr => ?_) fun m' g' w' O' hk => ih m' g' w' O' hk.1 w0 hk.2
    exact xm_mono (h w₁ hr) fun m' g' O' hk => ⟨hk, he.trans (.rely hr)⟩

/-- The outermost call. -/
theorem top_run {ro : Nat → Prop} {f : FuncId} {fr : Func} {c : Code} {args : List Value} {S : Ents} {W : World} {O : Nat → Prop} {R : Value → Ents → Prop} {Post : Value → World → Prop} (hf : P.funcs[f]? = some fr) (hb : fr.body = some c) (hargs : Nat.ble args.length fr.ntmps = true) (hin : P.inits.idxOf? f = none)
    (h : WP P ⟨true, XM P, ⟨ro, .plain⟩, false⟩ f fr.ntmps c (retQ P ⟨ro, .plain⟩ fr.results R) (den (dens args 0) fun _ => undef) [] S) (hh : Holds S W O ro)
    (hp : ∀ v S' w' O', R v S' → Holds S' w' O' ro → Ext W w' → Post v w') : Run P true (XM P) (StM P Post) ⟨ro, .plain⟩ (G (Frame.enter P f args.toArray .normal) []) W O := by
  have hag : Agree fr.ntmps (args.toArray ++ Array.replicate (fr.ntmps - args.toArray.size) undef) (den (dens args 0) fun _ => undef) := by
    have := agree_enter (ntm := fr.ntmps) (args := args.toArray) (by simpa using Nat.le_of_ble_eq_true hargs)
    refine ⟨this.size, fun i => ?_⟩
    rw [this.get, den_dens]
    simp [enterT, Array.getD, List.getD_eq_getElem?_getD]
    split <;> simp_all
  rw [enter_st args.toArray hf hb]
  -- to the frame on its way out
  let St : StopAt := fun m g w O => m = ⟨ro, .plain⟩ ∧ ∃ arr k t' S', g = G { (base f).st arr [] k with mode := .returning } [] ∧ Agree fr.ntmps arr t' ∧ SemH P ⟨ro, .plain⟩ (resultsT fr.results t') S' R ∧ Holds (S' ++ []) w O ro
  have h1 : Run P true (XM P) St ⟨ro, .plain⟩ (G ((base f).st (args.toArray ++ Array.replicate (fr.ntmps - args.toArray.size) undef) [] [.code c]) []) W O := by
    refine h [] (base f) _ [] [] W O St rfl ⟨by simp [base], fun _ => rfl⟩ hag (by rw [List.append_nil]; exact hh) fun e t' ds' S' arr' w' O' q ha hh' => ?_
    cases e with
    | normal =>
      obtain ⟨rfl, hs⟩ := q
      exact RunE.silent (E := ⟨true, XM P, ⟨ro, .plain⟩, false⟩) (g' := G { (base f).st arr' [] [] with mode := .returning } []) rfl (fun _ => by simp [G, stepG, stepG.exec, Frame.st, base, default, instInhabitedFrame.default]) fun w₁ hr => Run.stop fun w₂ hr₂ => ⟨rfl, arr', [], t', S', rfl, ha, hs, (hh'.rely hr).rely hr₂⟩
    | ret =>
      obtain ⟨rfl, hs⟩ := q
      intro k'
      exact RunE.silent (E := ⟨true, XM P, ⟨ro, .plain⟩, false⟩) (g' := G { (base f).st arr' [] (.code .ret :: k') with mode := .returning } []) rfl (fun _ => by simp [G, stepG, stepG.exec, Frame.st, base, default, instInhabitedFrame.default]) fun w₁ hr => Run.stop fun w₂ hr₂ => ⟨rfl, arr', _, t', S', rfl, ha, hs, (hh'.rely hr).rely hr₂⟩
    | exit id => exact q.elim
    | goto l => exact q.elim
    | panic c => exact q.elim
    | outgrown => exact q.elim
  refine (Run.ext h1 W (.refl _)).bind fun m g w O hst => ?_
  obtain ⟨⟨rfl, arr, k, t', S', rfl, ha, hs, hh'⟩, hext⟩ := hst
  refine Run.stop fun w₁ hr => ⟨rfl, rfl, ?_⟩
  obtain ⟨v, w', es, S'', hrun, hb', hh2, hes, hR⟩ := hs [] O w₁ w₁ #[] (Base.refl O w₁) (by rw [grow_self]; exact hh'.rely hr) (by simp)
  have hrun' : Sem.runT P (results fr arr) w₁ #[] = (.ok v w', es) := by rw [results_eq ha]; exact hrun
  refine ⟨v, w', seen P f es, ?_, fun e he => hes e (seen_sub e he), hp v S'' w' _ hR (by rw [List.append_nil] at hh2; exact hh2) ((hext.trans (.rely hr)).trans ⟨hb'.tape, hb'.os, hb'.output, hb'.size⟩)⟩
  have hfn : (base f).fn = f := rfl
  have hk : (base f).kind = .normal := rfl
  simp [G, stepG, unwind, doReturn, Frame.st, hfn, hf, hrun', hk, GStep.after, hin, -Sem.runT_eq]

/-- All that lies in memory, read by everybody. -/
def allE (w : World) : Ents := w.heap.toList.zipIdx.map fun p => ⟨p.2, false, p.1⟩
theorem allE_mem {w : World} {b : Nat} {o : Obj} (h : w.heap[b]? = some o) : (⟨b, false, o⟩ : Ent) ∈ allE w := by
  unfold allE
  rw [List.mem_map]
  refine ⟨(o, b), ?_, rfl⟩
  rw [List.mem_zipIdx_iff_getElem?]
  simpa using h
theorem allE_holds (w : World) : Holds (allE w) w (fun _ => False) fun b => b < w.heap.size := by
  have key : ∀ e ∈ allE w, w.heap[e.blk]? = some e.obj ∧ e.mine = false := by
    intro e he
    unfold allE at he
    obtain ⟨⟨o, b⟩, hm, rfl⟩ := List.mem_map.1 he
    rw [List.mem_zipIdx_iff_getElem?] at hm
    exact ⟨by simpa using hm, rfl⟩
  exact ⟨fun e he => ⟨(key e he).1, .inr ⟨(key e he).2, lt_of_some (key e he).1⟩⟩, apart_ro fun e he => (key e he).2⟩
theorem allE_below {w w' : World} {O ro : Nat → Prop} {S' : Ents} (hs : List.Sublist (allE w) S') (hh : Holds S' w' O ro) (he : Ext w w') : RowKit.Below w.heap.size w w' :=
  ⟨he.os, he.tape, he.output, he.size, fun k hk => by
    have h1 : w.heap[k]? = some w.heap[k] := Array.getElem?_eq_getElem hk
    rw [h1]
    exact (hh.each _ (hs.subset (allE_mem h1))).1⟩

/-- A LAW's RUN: true, and memory as it was. -/
theorem law_runs {f : FuncId} {fr : Func} {c : Code} {args : List Value} {W : World} (hf : P.funcs[f]? = some fr) (hb : fr.body = some c) (hargs : Nat.ble args.length fr.ntmps = true) (hin : P.inits.idxOf? f = none)
    (h : ∀ ro, WP P ⟨true, XM P, ⟨ro, .plain⟩, false⟩ f fr.ntmps c (retQ P ⟨ro, .plain⟩ fr.results fun r S' => r = .bool true ∧ List.Sublist (allE W) S') (den (dens args 0) fun _ => undef) [] (allE W)) :
    ∃ N last o w' t', runNT P (N + 1) (solo (G (Frame.enter P f args.toArray .normal) []) W) #[] = (.ended o w', t') ∧ runN P N (solo (G (Frame.enter P f args.toArray .normal) []) W) = .next last ∧ step P last = .ended o w' ∧
      Conc.Good P (fun v w' => v = .bool true ∧ RowKit.Below W.heap.size W w') last o w' t' :=
  run_good (top_run hf hb hargs hin (h _) (allE_holds W) fun v S' w' O' hR hh he => ⟨hR.1, allE_below hR.2 hh he⟩) rfl
end
end Go.Proofs.YtpnnmklacialgaaGreat
namespace Go.Proofs.YtpnnmklacialgaaGreat
open Go.Conc

/-- All cells of type t are of kind int. -/
def intsOnly (P : Program) : Nat → TypeId → Bool
  | 0, _ => false
  | n + 1, t => match P.underlying t with
    | some (.int k) => decide (k = .i64)
    | some (.struct fs) => (List.range (P.cellsOf t)).all fun j => fs.toList.any fun f => intsOnly P n f.type && (decide (f.offset ≤ j) && decide (j < f.offset + P.cellsOf f.type))
    | _ => false

section
variable {H : Type} {enc : TypeId × Value → H} {P : Program} {W : World}

theorem rd_all {base : Nat} {spare : Nat → Bool} {held : Bool} : ∀ {n fuel : Nat} {t : TypeId} {cs : List Value} {x : DataW H × List MemPlace}, intsOnly P n t = true → DataW.trod enc P W base spare held fuel t cs = some x → ∀ v ∈ cs, ∃ z, v = .int .i64 z
  | 0, _, _, _, _, h, _ => by simp [intsOnly] at h
  | n + 1, fuel, t, cs, x, h, hx => by
    simp only [intsOnly] at h
    split at h
    · rename_i k hu
      have := of_decide_eq_true h
      subst this
      obtain ⟨m, rfl, _, _⟩ := DataW.trod_int hu hx
      intro v hv
      exact ⟨m, List.mem_singleton.1 hv⟩
    · rename_i fs hu
      obtain ⟨xs, m, rfl, _, hl, hlen, hf⟩ := DataW.trod_struct hu hx
      intro v hv
      obtain ⟨j, hj, rfl⟩ := List.mem_iff_getElem.1 hv
      have h1 := List.all_eq_true.1 h j (List.mem_range.2 (by omega))
      obtain ⟨f, hfm, h2⟩ := List.any_eq_true.1 h1
      simp only [Bool.and_eq_true, decide_eq_true_eq] at h2
      obtain ⟨h3, h4, h5⟩ := h2
      obtain ⟨i, hi, rfl⟩ := List.mem_iff_getElem.1 hfm
      have hi' : i < fs.size := by simpa using hi
      have h6 := hf i fs[i] (Array.getElem?_eq_getElem hi')
      rw [List.getElem?_eq_getElem (by omega)] at h6
      refine rd_all (by simpa using h3) h6 _ ?_
      rw [List.mem_iff_getElem?]
      refine ⟨j - fs[i].offset, ?_⟩
      simp only [Array.getElem_toList] at h4 h5
      rw [List.getElem?_take, if_pos (by omega), List.getElem?_drop, show fs[i].offset + (j - fs[i].offset) = j by omega, List.getElem?_eq_getElem hj]
    · cases h

/-- The cells as one function. -/
theorem rd_fun {base : Nat} {spare : Nat → Bool} {held : Bool} {n fuel sz : Nat} {t : TypeId} {cs : List Value} {x : DataW H × List MemPlace} (hi : intsOnly P n t = true) (hs : cs.length = sz) (h : DataW.trod enc P W base spare held fuel t cs = some x) :
    ∃ f : Nat → Int, cs = (List.range sz).map fun k => Value.int .i64 (f k) := by
  have ha := rd_all hi h
  obtain ⟨f, hf⟩ := Go.Deep.choose_lt (α := Int) (n := sz) (p := fun k z => cs[k]? = some (.int .i64 z)) fun k hk => by
    obtain ⟨z, hz⟩ := ha _ (List.getElem_mem (show k < cs.length by omega))
    exact ⟨z, by rw [List.getElem?_eq_getElem (by omega), hz]⟩
  refine ⟨f, ?_⟩
  apply List.ext_getElem?
  intro k
  by_cases hk : k < sz
  · rw [hf k hk]
    simp [hk]
  · rw [List.getElem?_eq_none (by omega), List.getElem?_eq_none (by simp; omega)]
end

class Dec (α : Type) [En : Enc α] where
  dec : (Nat → Int) → α
  ok : ∀ f, En.enc (dec f) = ((List.range En.sz).map fun k => Value.int .i64 (f k)).toArray
instance : Dec Int := ⟨fun f => f 0, fun f => rfl⟩
instance : Dec MainG := ⟨fun f => ⟨f 0, f 1, ⟨f 2, f 3⟩⟩, fun f => rfl⟩
instance : Dec UseG := ⟨fun f => ⟨f 0, f 1, f 2, ⟨f 3, f 4⟩, ⟨f 5, f 6⟩, f 7, f 8⟩, fun f => rfl⟩
instance : Dec ReadG := ⟨fun f => ⟨f 0, f 1, f 2, ⟨f 3, f 4⟩, f 5, f 6⟩, fun f => rfl⟩
instance : Dec FaultG := ⟨fun f => ⟨f 0, f 1, f 2, f 3, f 4, f 5⟩, fun f => rfl⟩
instance : Dec PriceG := ⟨fun f => ⟨f 0, f 1, f 2⟩, fun f => rfl⟩
instance : Dec PostG := ⟨fun f => ⟨f 0, f 1, f 2, f 3, f 4⟩, fun f => rfl⟩

section
variable {H : Type} {enc : TypeId × Value → H} {P : Program} {W : World}
theorem rd_slice {α : Type} [En : Enc α] [De : Dec α] {n fuel : Nat} {t e : TypeId} {cs : List Value} {x : DataW H × List MemPlace} (ht : P.underlying t = some (.slice e)) (hi : intsOnly P n e = true) (hsz : P.cellsOf e = En.sz)
    (h : DataW.trod enc P W 0 (fun _ => true) true fuel t cs = some x) (hw : ∀ k ∈ x.1.weights P t, k ≤ reachBytes) : ∃ (v : Value) (xs : List α), cs = [v] ∧ SlV (allE W) v xs ∧ xs.length * P.bytesOf e ≤ reachBytes := by
  rcases Go.Deep.open_slice ht h with ⟨rfl, rfl⟩ | ⟨a, len, cap, m, n', D, Pl, rfl, _, hl, _, hm, rfl, hx⟩
  · exact ⟨_, [], rfl, ⟨none, 0, rfl, Nat.le_refl _, fun h => absurd h (by simp)⟩, by simp⟩
  · simp only [if_true] at hm
    subst hm
    have hpos := En.pos
    obtain ⟨F, hF⟩ := Go.Deep.choose_lt (α := Nat → Int) (n := m) (p := fun i f => ∀ k, k < En.sz → W.cell? ((a.add (i * En.sz)).add k) = some (.int .i64 (f k))) fun i hi' => by
      obtain ⟨cs', h1, h2⟩ := hx i hi'
      rw [hsz] at h1
      obtain ⟨_, h3, h4⟩ := World.cells?_some h1
      obtain ⟨f, rfl⟩ := rd_fun hi h3 h2
      exact ⟨f, fun k hk => by rw [h4 k hk]; simp [hk]⟩
    have hlen : ((List.range len).map fun i => De.dec (F i)).length = len := by simp
    refine ⟨_, (List.range len).map fun i => De.dec (F i), rfl, ⟨some a, m, by rw [hlen], by rw [hlen]; exact hl, fun h0 => ?_⟩, ?_⟩
    · rw [hlen] at h0
      have h1 := hF 0 (by omega) 0 hpos
      have e0 : (a.add (0 * En.sz)).add 0 = a := by simp [Addr.add]
      rw [e0] at h1
      unfold World.cell? at h1
      split at h1
      · rename_i c ty fz hb
        have hsp : a.spot = none := by
          cases hs : a.spot with
          | none => rfl
          | some q => rw [hs] at h1; simp at h1
        obtain ⟨b, off, sp⟩ := a
        simp only at hsp
        subst hsp
        refine ⟨rfl, false, c, ty, fz, allE_mem hb, ?_⟩
        intro i hi' k hk
        have hil : i < len := by simpa using hi'
        have h2 := hF i (by omega) k hk
        rw [Go.Deep.add_add, add_mk] at h2
        unfold World.cell? at h2
        simp only at hb
        simp only [hb, Option.isSome_none, Bool.false_eq_true, if_false] at h2
        show c[off + i * En.sz + k]? = _
        rw [Nat.add_assoc, h2, List.getElem_map, List.getElem_range, De.ok]
        simp [hk]
      · cases h1
    · rw [hlen]
      have := hw ((len + (m - len)) * P.bytesOf e) (by simp [DataW.weights, ht])
      exact Nat.le_trans (Nat.mul_le_mul_right _ (by omega)) this

theorem struct_parts {t : TypeId} {fs : Array Field} {fuel : Nat} {cs : List Value} {x : DataW H × List MemPlace} (hu : P.underlying t = some (.struct fs)) (h : DataW.trod enc P W 0 (fun _ => true) true fuel t cs = some x) (hw : ∀ k ∈ x.1.weights P t, k ≤ reachBytes) :
    cs.length = P.cellsOf t ∧ ∀ (i : Nat) (f : Field), fs[i]? = some f → ∃ (n : Nat) (y : DataW H × List MemPlace), DataW.trod enc P W 0 (fun _ => true) true n f.type ((cs.drop f.offset).take (P.cellsOf f.type)) = some y ∧ ∀ k ∈ y.1.weights P f.type, k ≤ reachBytes := by
  obtain ⟨xs, n, rfl, rfl, hl, hlen, hf⟩ := DataW.trod_struct hu h
  refine ⟨hl, fun i f hfi => ?_⟩
  have hi : i < fs.size := (Array.getElem?_eq_some_iff.1 hfi).1
  have h1 := hf i f hfi
  rw [List.getElem?_eq_getElem (by omega)] at h1
  refine ⟨n, xs[i], h1, fun k hk => hw k ?_⟩
  simp only [DataW.weights, hu]
  refine DataW.weights_mem_each (j := i) (t := f.type) (d := xs[i].1) ?_ ?_ k hk
  · rw [List.getElem?_map, Array.getElem?_toList, hfi]; rfl
  · rw [List.getElem?_map, List.getElem?_eq_getElem (by omega)]; rfl
end

theorem array5 {cs : Array Value} (h : cs.size = 5) : ∃ a b c d e, cs = #[a, b, c, d, e] := by
  obtain ⟨l⟩ := cs
  simp only [List.size_toArray] at h
  match l, h with
  | [a, b, c, d, e], _ => exact ⟨a, b, c, d, e, rfl⟩

/-- What a net's types are. -/
structure NetT (P : Program) (f0 f1 f2 f3 f4 : Field) : Prop where
  u : P.underlying 28 = some (.struct #[f0, f1, f2, f3, f4])
  c : P.cellsOf 28 = 5
  fs : [f0, f1, f2, f3, f4].map (fun f => (f.type, f.offset)) = [(22, 0), (23, 1), (24, 2), (25, 3), (26, 4)]
  cs : [22, 23, 24, 25, 26].map P.cellsOf = [1, 1, 1, 1, 1]
  us : [22, 23, 24, 25, 26].map P.underlying = [some (.slice 72), some (.slice 74), some (.slice 76), some (.slice 78), some (.slice 104)]
  es : [72, 74, 76, 78, 104].map P.cellsOf = [4, 9, 7, 6, 3]
  bs : [72, 74, 76, 78, 104].map P.bytesOf = [32, 72, 56, 48, 24]
  is : [72, 74, 76, 78, 104].map (intsOnly P 5) = [true, true, true, true, true]

section
variable {H : Type} {enc : TypeId × Value → H} {P : Program} {W : World}
/-- A NET. -/
theorem rd_netP {base : Nat} {v : Value} {d : DataW H} {p : List MemPlace} {f0 f1 f2 f3 f4 : Field} (N : NetT P f0 f1 f2 f3 f4) (hv : Value.okWide P W .any base 28 v) (h : DataW.Trod enc P W 0 (fun _ => true) true 28 v d p) (hw : ∀ k ∈ d.weights P 28, k ≤ reachBytes) :
    ∃ a b c d e n, v = .agg #[a, b, c, d, e] ∧ NetV (allE W) a b c d e n := by
  obtain ⟨Nu, Nc, Nf, Ncs, Nus, Nes, Nbs, Nis⟩ := N
  simp only [List.map_cons, List.map_nil, List.cons.injEq, and_true] at Ncs Nus Nes Nbs Nis
  obtain ⟨c22, c23, c24, c25, c26⟩ := Ncs
  obtain ⟨u22, u23, u24, u25, u26⟩ := Nus
  obtain ⟨c72, c74, c76, c78, c104⟩ := Nes
  obtain ⟨b72, b74, b76, b78, b104⟩ := Nbs
  obtain ⟨i72, i74, i76, i78, i104⟩ := Nis
  obtain ⟨cs, hve, hsz⟩ := Go.WideShapes.okWide_struct Nu hv
  rw [Nc] at hsz
  obtain ⟨a, b, c, d', e, hcs⟩ := array5 hsz
  subst hcs
  subst hve
  obtain ⟨fuel, hf⟩ := h
  obtain ⟨_, hp⟩ := struct_parts Nu hf hw
  simp only [List.map_cons, List.map_nil, List.cons.injEq, and_true, Prod.mk.injEq] at Nf
  obtain ⟨⟨t0, o0⟩, ⟨t1, o1⟩, ⟨t2, o2⟩, ⟨t3, o3⟩, ⟨t4, o4⟩⟩ := Nf
  obtain ⟨_, y0, h0, w0⟩ := hp 0 f0 rfl
  obtain ⟨_, y1, h1, w1⟩ := hp 1 f1 rfl
  obtain ⟨_, y2, h2, w2⟩ := hp 2 f2 rfl
  obtain ⟨_, y3, h3, w3⟩ := hp 3 f3 rfl
  obtain ⟨_, y4, h4, w4⟩ := hp 4 f4 rfl
  rw [t0] at h0 w0
  rw [t1] at h1 w1
  rw [t2] at h2 w2
  rw [t3] at h3 w3
  rw [t4] at h4 w4
  rw [c22, o0] at h0
  rw [c23, o1] at h1
  rw [c24, o2] at h2
  rw [c25, o3] at h3
  rw [c26, o4] at h4
  obtain ⟨v0, x0, e0, s0, l0⟩ := rd_slice (α := MainG) u22 i72 c72 h0 w0
  obtain ⟨v1, x1, e1, s1, l1⟩ := rd_slice (α := UseG) u23 i74 c74 h1 w1
  obtain ⟨v2, x2, e2, s2, l2⟩ := rd_slice (α := ReadG) u24 i76 c76 h2 w2
  obtain ⟨v3, x3, e3, s3, l3⟩ := rd_slice (α := FaultG) u25 i78 c78 h3 w3
  obtain ⟨v4, x4, e4, s4, l4⟩ := rd_slice (α := PriceG) u26 i104 c104 h4 w4
  simp [Value.cells] at e0 e1 e2 e3 e4
  subst e0 e1 e2 e3 e4
  rw [b72, reachBytes] at l0
  rw [b74, reachBytes] at l1
  rw [b76, reachBytes] at l2
  rw [b78, reachBytes] at l3
  rw [b104, reachBytes] at l4
  exact ⟨_, _, _, _, _, ⟨x0, x1, x2, x3, x4⟩, rfl, ⟨s0, s1, s2, s3, s4, by simp only; omega, by simp only; omega, by simp only; omega, by simp only; omega, by simp only; omega⟩⟩

/-- A LIST of things of numbers. -/
theorem rd_listP {α : Type} [En : Enc α] [De : Dec α] {base n : Nat} {t e : TypeId} {v : Value} {d : DataW H} {p : List MemPlace} (hu : P.underlying t = some (.slice e)) (hi : intsOnly P n e = true) (hsz : P.cellsOf e = En.sz) (hv : Value.okWide P W .any base t v) (h : DataW.Trod enc P W 0 (fun _ => true) true t v d p) (hw : ∀ k ∈ d.weights P t, k ≤ reachBytes) :
    ∃ xs : List α, SlV (allE W) v xs ∧ xs.length * P.bytesOf e ≤ reachBytes := by
  obtain ⟨a, len, cap, hve⟩ := Go.WideShapes.okWide_slice hu hv
  subst hve
  obtain ⟨fuel, hf⟩ := h
  obtain ⟨v', xs, e, hs, hl⟩ := rd_slice (α := α) hu hi hsz hf hw
  simp only [Value.cells, List.cons.injEq, and_true] at e
  subst e
  exact ⟨xs, hs, hl⟩
/-- A STRUCT OF NUMBERS. -/
theorem rd_structP {base sz n : Nat} {t : TypeId} {fs : Array Field} {v : Value} {d : DataW H} {p : List MemPlace} (hu : P.underlying t = some (.struct fs)) (hi : intsOnly P n t = true) (hc : P.cellsOf t = sz) (hv : Value.okWide P W .any base t v) (h : DataW.Trod enc P W 0 (fun _ => true) true t v d p) :
    ∃ f : Nat → Int, v = .agg ((List.range sz).map fun k => Value.int .i64 (f k)).toArray := by
  obtain ⟨cs, hve, hsz⟩ := Go.WideShapes.okWide_struct hu hv
  subst hve
  obtain ⟨fuel, hf⟩ := h
  obtain ⟨f, hf⟩ := rd_fun hi (sz := sz) (by show cs.toList.length = sz; rw [Array.length_toList]; exact hsz.trans hc) hf
  refine ⟨f, ?_⟩
  simp only [Value.cells] at hf
  rw [← hf]
end

/-! the types of this seat -/
theorem netT : ∃ f0 f1 f2 f3 f4, NetT Tryz.prog f0 f1 f2 f3 f4 := ⟨_, _, _, _, _, Tryz.underlying28, by kernel_rfl, rfl, by kernel_rfl, by kernel_rfl, by kernel_rfl, by kernel_rfl, by kernel_rfl⟩
theorem cellsT3 : Tryz.prog.cellsOf 3 = 1 := by kernel_rfl
theorem bytesT3 : Tryz.prog.bytesOf 3 = 8 := by kernel_rfl
theorem intsT3 : intsOnly Tryz.prog 5 3 = true := by kernel_rfl
theorem cellsT66 : Tryz.prog.cellsOf 66 = 5 := by kernel_rfl
theorem bytesT66 : Tryz.prog.bytesOf 66 = 40 := by kernel_rfl
theorem intsT66 : intsOnly Tryz.prog 5 66 = true := by kernel_rfl
section
variable {H : Type} {enc : TypeId × Value → H} {W : World}
set_option maxRecDepth 100000 in
theorem rd_net {base : Nat} {v : Value} {d : DataW H} {p : List MemPlace} (hv : Value.okWide Tryz.prog W .any base 28 v) (h : DataW.Trod enc Tryz.prog W 0 (fun _ => true) true 28 v d p) (hw : ∀ k ∈ d.weights Tryz.prog 28, k ≤ reachBytes) :
    ∃ a b c d e n, v = .agg #[a, b, c, d, e] ∧ NetV (allE W) a b c d e n :=
  have ⟨_, _, _, _, _, N⟩ := netT
  rd_netP N hv h hw
theorem nums_le {n m : Nat} (hm : m = 8) (h : n * m ≤ reachBytes) : n ≤ 17592186044416 := by
  subst hm
  rw [reachBytes] at h
  omega
set_option maxRecDepth 100000 in
theorem rd_nums {base : Nat} {v : Value} {d : DataW H} {p : List MemPlace} (hv : Value.okWide Tryz.prog W .any base 33 v) (h : DataW.Trod enc Tryz.prog W 0 (fun _ => true) true 33 v d p) (hw : ∀ k ∈ d.weights Tryz.prog 33, k ≤ reachBytes) :
    ∃ xs : List Int, SlV (allE W) v xs ∧ xs.length ≤ 17592186044416 :=
  (rd_listP (α := Int) (n := 5) Tryz.underlying33 intsT3 cellsT3 hv h hw).imp fun _ h => ⟨h.1, nums_le bytesT3 h.2⟩
end
end Go.Proofs.YtpnnmklacialgaaGreat
namespace Go.Proofs.YtpnnmklacialgaaGreat
open Go.Conc Go.RowKit Go.ChangeShapes

section
variable {H : Type} {enc : TypeId × Value → H}
/-- An argument as it comes in: it is of its type, it reads, and its bulk is within reach. -/
structure Arg {H : Type} (enc : TypeId × Value → H) (P : Program) (W : World) (t : TypeId) (v : Value) : Prop where
  ok : ∃ base, Value.okWide P W .any base t v
  rd : ∃ d p, DataW.Trod enc P W 0 (fun _ => true) true t v d p ∧ ∀ k ∈ d.weights P t, k ≤ reachBytes

theorem law_liftedC {C : Checked} {os : Os} {f : FuncId} {fr : Func} {t1 t2 t3 t4 : TypeId} {sp : ChangeSpec} (started : os.Started)
    (own : ownKnob C.prog.godebug = none) (laid : laidOutB C.prog = true)
    (hfn : C.prog.funcs[f]? = some fr) (hp : fr.params = #[t1, t2, t3]) (hr : fr.resultTypes = #[t4]) (hnt : Nat.ble 3 fr.ntmps = true) (hin : C.prog.inits.idxOf? f = none)
    (hv : sp.vars = []) (hsp : ∀ d1 d2 d3, sp.fn H [d1, d2, d3] = { results := [.lit (.bool true)], args := [d1, d2, d3] })
    (hr1 : C.prog.readableRec t1 = true) (hr2 : C.prog.readableRec t2 = true) (hr3 : C.prog.readableRec t3 = true)
    (hs1 : t1 < C.prog.types.size) (hs2 : t2 < C.prog.types.size) (hs3 : t3 < C.prog.types.size) (hu4 : C.prog.underlying t4 = some .bool)
    (witness : ∃ (w : World) (tape : Tape) (i : Input), w.os = os ∧ (w.forCall tape i).Shaped C.prog ∧ i.vars = [] ∧ Input.okWide C.prog (w.forCall tape i) .any w.heap.size f i ∧
      sp.pre6 enc C.prog fr [] false (w.forCall tape i).memory i.args ∧ ({} : Assume).holds C.prog (lone (Frame.enter C.prog f i.args .normal) [] (w.forCall tape i)))
    (h : ∀ (W : World) (v1 v2 v3 : Value), Arg enc C.prog W t1 v1 → Arg enc C.prog W t2 v2 → Arg enc C.prog W t3 v3 → ∃ c, fr.body = some c ∧ ∀ ro,
      WP C.prog ⟨true, XM C.prog, ⟨ro, .plain⟩, false⟩ f fr.ntmps c (retQ C.prog ⟨ro, .plain⟩ fr.results fun r S' => r = .bool true ∧ List.Sublist (allE W) S') (den (dens [v1, v2, v3] 0) fun _ => undef) [] (allE W)) :
    ReturnsInLeavingWide {} C os f .any (sp.pre6 enc C.prog fr [] false) (sp.post enc C.prog fr false true false false) := by
  refine returnsInLeavingWide_of_change_sized (C := C) own started hfn witness ?_
  intro W base args ds gs before hval hW _ hsz _
  have hW' := hW
  obtain ⟨p, q, hA, hV, hbf, _, _⟩ := hW
  rw [hp] at hA hval hsz
  rw [hv] at hV
  obtain ⟨rfl, rfl⟩ := trodVars_none hV
  obtain ⟨v1, vs1, d1, ds1, p1, q1, ha1, rfl, rfl, h1, hA1⟩ := trodAll_cons hA
  obtain ⟨v2, vs2, d2, ds2, p2, q2, rfl, rfl, rfl, h2, hA2⟩ := trodAll_cons hA1
  obtain ⟨v3, vs3, d3, ds3, p3, q3, rfl, rfl, rfl, h3, hA3⟩ := trodAll_cons hA2
  obtain ⟨rfl, rfl, rfl⟩ := trodAll_nil hA3
  have hargs : args = [v1, v2, v3].toArray := by cases args; simp_all
  subst hargs
  have hw : ∀ (j : Nat) (t : TypeId) (d : DataW H), [t1, t2, t3][j]? = some t → [d1, d2, d3][j]? = some d → ∀ k ∈ d.weights C.prog t, k ≤ reachBytes := by
    intro j t d ht hd k hk
    refine of_decide_eq_true (List.all_eq_true.1 hsz k (DataW.weights_mem_each (j := j) (t := t) (d := d) ?_ ?_ k hk))
    · rw [List.getElem?_append_left (by have := (List.getElem?_eq_some_iff.1 ht).1; simpa using this)]; exact ht
    · rw [List.append_nil]; exact hd
  obtain ⟨c, hb, hwp⟩ := h W v1 v2 v3
    ⟨⟨base, hval 0 t1 v1 rfl rfl⟩, d1, _, h1, hw 0 t1 d1 rfl rfl⟩ ⟨⟨base, hval 1 t2 v2 rfl rfl⟩, d2, _, h2, hw 1 t2 d2 rfl rfl⟩ ⟨⟨base, hval 2 t3 v3 rfl rfl⟩, d3, _, h3, hw 2 t3 d3 rfl rfl⟩
  obtain ⟨M, last, o, w', t', e1, e2, e3, e4⟩ := law_runs (P := C.prog) (args := [v1, v2, v3]) (W := W) hfn hb hnt hin hwp
  refine ⟨M, last, o, w', t', e1, e2, e3, e4.mono fun v hF => ?_⟩
  obtain ⟨rfl, hbelow⟩ := hF
  subst hbf
  have hlt : ∀ x ∈ p1 ++ (p2 ++ (p3 ++ [])) ++ [], x.block < W.heap.size := fun x hx => by simpa using hW'.lt x hx
  refine ⟨_, _, _, [], p1 ++ (p2 ++ (p3 ++ [])), [], hW', ?_, ?_, ?_, hbelow.frame _, fun h => by cases h⟩
  · rw [hr, List.append_nil, hsp]
    exact trodAll_mk1 (shut_bool hu4 true)
  · rw [hp, List.append_nil, hsp]
    refine trodAll_cons_mk (Below.trod laid hr1 hs1 h1 hbelow fun x hx => hlt x (by simp [hx])) (trodAll_cons_mk (Below.trod laid hr2 hs2 h2 hbelow fun x hx => hlt x (by simp [hx])) (trodAll_cons_mk (Below.trod laid hr3 hs3 h3 hbelow fun x hx => hlt x (by simp [hx])) trodAll_mk0))
  · rw [List.append_nil, hsp, hv]
    rfl
end
section
variable {H : Type} {enc : TypeId × Value → H} {W : World}
set_option maxRecDepth 100000 in
theorem arg_net {v : Value} (h : Arg enc Tryz.prog W 28 v) : ∃ a b c d e n, v = .agg #[a, b, c, d, e] ∧ NetV (allE W) a b c d e n := by
  obtain ⟨⟨base, hv⟩, d, p, hr, hw⟩ := h
  exact rd_net hv hr hw
set_option maxRecDepth 100000 in
theorem arg_nums {v : Value} (h : Arg enc Tryz.prog W 33 v) : ∃ xs : List Int, SlV (allE W) v xs ∧ xs.length ≤ 17592186044416 := by
  obtain ⟨⟨base, hv⟩, d, p, hr, hw⟩ := h
  exact rd_nums hv hr hw
theorem arg_struct {P : Program} {n sz : Nat} {t : TypeId} {fs : Array Field} {v : Value} (hu : P.underlying t = some (.struct fs)) (hi : intsOnly P n t = true) (hc : P.cellsOf t = sz) (h : Arg enc P W t v) :
    ∃ f : Nat → Int, v = .agg ((List.range sz).map fun k => Value.int .i64 (f k)).toArray := by
  obtain ⟨⟨base, hv⟩, d, p, hr, hw⟩ := h
  exact rd_structP hu hi hc hv hr
end
theorem own' : ownKnob Tryz.prog.godebug = none := by kernel_rfl
theorem laid' : laidOutB Tryz.prog = true := by kernel_rfl
end Go.Proofs.YtpnnmklacialgaaGreat
