/- The judgement of a goroutine's own steps in company, its ghost heap, and the laws of the entries of a step.
   What an entry of a step does, told on the ghost heap.
   The logic of pieces of code, in company: control, operations, calls.
   Regions whose order is drawn.
   The operations, told on the ghost heap.
   The rules in the form in which a walk applies them: the temporaries as a list ahead of whatever else they hold.
   The program's types, as a table.
   The tables of the program's types as functions. -/
import Derived.Test.YtpnnmklacialgaaGreatProg
import Derived.Conc.Events
import Derived.Conc.Own5
import Derived.Conc.DeferLaws
import Derived.Orders
import Derived.IntWalk
import Derived.KernelRfl
set_option linter.unusedVariables false
set_option linter.unusedSimpArgs false
namespace Go.Proofs.YtpnnmklacialgaaGreat
open Go.Conc
inductive Tag where
  | plain
  | recv (c : Nat) (L : List Value)
  | send (c : Nat) (L : List Value)
structure Mode where
  ro : Nat → Prop
  tag : Tag
structure Rely (O : Nat → Prop) (m : Mode) (w w₁ : World) : Prop where
  tape : w₁.tape = w.tape
  os : w₁.os = w.os
  output : w₁.output = w.output
  size : w.heap.size ≤ w₁.heap.size
  keep : ∀ b, b < w.heap.size → (O b ∨ m.ro b) → w₁.heap[b]? = w.heap[b]?
theorem Rely.refl (O : Nat → Prop) (m : Mode) (w : World) : Rely O m w w := ⟨rfl, rfl, rfl, Nat.le_refl _, fun _ _ _ => rfl⟩
theorem Rely.trans {O : Nat → Prop} {m : Mode} {a b c : World} (h : Rely O m a b) (k : Rely O m b c) : Rely O m a c :=
  ⟨k.tape.trans h.tape, k.os.trans h.os, k.output.trans h.output, Nat.le_trans h.size k.size, fun x hx ho => (k.keep x (Nat.lt_of_lt_of_le hx h.size) ho).trans (h.keep x hx ho)⟩
def EvOk (O ro : Nat → Prop) (n n' : Nat) (e : Event) : Prop :=
  match e.loc with
  | .cell a => e.sync = false ∧ a.block < n' ∧ (if e.write then O a.block ∨ n ≤ a.block else (O a.block ∨ n ≤ a.block) ∨ ro a.block)
  | .obj r => e.sync = false ∧ r < n' ∧ (O r ∨ n ≤ r)
  | .mark k => k = .noRoom ∨ ∃ f, k = .extern f
  | _ => False
theorem EvOk.mono {O ro : Nat → Prop} {n a b : Nat} {e : Event} (h : EvOk O ro n a e) (hab : a ≤ b) : EvOk O ro n b e := by
  unfold EvOk at *
  split <;> simp_all
  · exact Nat.lt_of_lt_of_le h.2.1 hab
  · exact Nat.lt_of_lt_of_le h.2.1 hab
def grow (O : Nat → Prop) (w w' : World) : Nat → Prop := fun b => O b ∨ (w.heap.size ≤ b ∧ b < w'.heap.size)
structure Guar (O : Nat → Prop) (m : Mode) (w w' : World) (es : Array Event) : Prop where
  tape : w'.tape = w.tape
  os : w'.os = w.os
  output : w'.output = w.output
  size : w.heap.size ≤ w'.heap.size
  keep : ∀ b, b < w.heap.size → ¬ O b → w'.heap[b]? = w.heap[b]?
  evs : ∀ e ∈ es, EvOk O m.ro w.heap.size w'.heap.size e
theorem Guar.idle (O : Nat → Prop) (m : Mode) (w : World) : Guar O m w w #[] := ⟨rfl, rfl, rfl, Nat.le_refl _, fun _ _ _ => rfl, fun _ h => by simp at h⟩
theorem grow_self (O : Nat → Prop) (w : World) : grow O w w = O := by
  funext b
  refine propext ⟨fun h => h.elim id fun h => absurd h.2 (by omega), .inl⟩
abbrev XNode := Mode → Goroutine → World → (Nat → Prop) → (Mode → Goroutine → World → (Nat → Prop) → Prop) → Prop
abbrev StopAt := Mode → Goroutine → World → (Nat → Prop) → Prop
section run
variable (P : Program) (main : Bool) (X : XNode) (Stop : StopAt)
inductive Run : Mode → Goroutine → World → (Nat → Prop) → Prop
  | stop {m : Mode} {g : Goroutine} {w : World} {O : Nat → Prop} : (∀ w₁, Rely O m w w₁ → Stop m g w₁ O) → Run m g w O
  | walk {m : Mode} {g : Goroutine} {w : World} {O : Nat → Prop} (g' : World → Goroutine) (w' : World → World) (es : World → Array Event) : g.status = .running →
      (∀ w₁, Rely O m w w₁ → stepG P main g w₁ = .go (g' w₁) (w' w₁) (es w₁) ∧ Guar O m w₁ (w' w₁) (es w₁)) →
      (∀ w₁, Rely O m w w₁ → Run m (g' w₁) (w' w₁) (grow O w₁ (w' w₁))) → Run m g w O
  | extra {m : Mode} {g : Goroutine} {w : World} {O : Nat → Prop} (K : Mode → Goroutine → World → (Nat → Prop) → Prop) :
      (∀ w₁, Rely O m w w₁ → X m g w₁ O K) → (∀ m' g' w' O', K m' g' w' O' → Run m' g' w' O') → Run m g w O
end run
section
variable {P : Program} {main : Bool} {X : XNode} {Stop : StopAt} {m : Mode} {g : Goroutine} {w w₁ : World} {O : Nat → Prop}
theorem Run.step (hs : g.status = .running)
    (h : ∀ w₁, Rely O m w w₁ → ∃ g' w' es, stepG P main g w₁ = .go g' w' es ∧ Guar O m w₁ w' es ∧ Run P main X Stop m g' w' (grow O w₁ w')) : Run P main X Stop m g w O := by
  classical
  have h' : ∀ w₁, ∃ g' w' es, Rely O m w w₁ → stepG P main g w₁ = .go g' w' es ∧ Guar O m w₁ w' es ∧ Run P main X Stop m g' w' (grow O w₁ w') := fun w₁ => by
    by_cases hr : Rely O m w w₁
    · obtain ⟨a, b, c, d⟩ := h w₁ hr
      exact ⟨a, b, c, fun _ => d⟩
    · exact ⟨g, w, #[], fun x => absurd x hr⟩
  exact .walk (fun w₁ => (h' w₁).choose) (fun w₁ => (h' w₁).choose_spec.choose) (fun w₁ => (h' w₁).choose_spec.choose_spec.choose) hs
    (fun w₁ hr => let x := (h' w₁).choose_spec.choose_spec.choose_spec hr; ⟨x.1, x.2.1⟩)
    (fun w₁ hr => ((h' w₁).choose_spec.choose_spec.choose_spec hr).2.2)
theorem Run.rely (h : Run P main X Stop m g w O) (hr : Rely O m w w₁) : Run P main X Stop m g w₁ O := by
  cases h with
  | stop h => exact .stop fun w₂ h₂ => h w₂ (hr.trans h₂)
  | walk g' w' es hs h k => exact .walk g' w' es hs (fun w₂ h₂ => h w₂ (hr.trans h₂)) fun w₂ h₂ => k w₂ (hr.trans h₂)
  | extra K h hk => exact .extra K (fun w₂ h₂ => h w₂ (hr.trans h₂)) hk
theorem Run.bind {Stop' : StopAt} (h : Run P main X Stop m g w O) (k : ∀ m g w O, Stop m g w O → Run P main X Stop' m g w O) : Run P main X Stop' m g w O := by
  induction h with
  | stop h => exact k _ _ _ _ (h _ (Rely.refl _ _ _))
  | walk g' w' es hs h _ ih => exact .walk g' w' es hs h ih
  | extra K h _ ih => exact .extra K h ih
end
structure Ent where
  blk : Nat
  mine : Bool
  obj : Obj
abbrev Ents := List Ent
structure Holds (S : Ents) (w : World) (O ro : Nat → Prop) : Prop where
  each : ∀ e ∈ S, w.heap[e.blk]? = some e.obj ∧ (O e.blk ∨ (e.mine = false ∧ ro e.blk))
  apart : S.Pairwise fun e e' => (e.mine = true ∨ e'.mine = true) → e.blk ≠ e'.blk
theorem lt_of_some {α : Type} {a : Array α} {i : Nat} {x : α} (h : a[i]? = some x) : i < a.size := (Array.getElem?_eq_some_iff.1 h).1
theorem Holds.lt {S : Ents} {w : World} {O ro : Nat → Prop} (h : Holds S w O ro) {e : Ent} (he : e ∈ S) : e.blk < w.heap.size := lt_of_some (h.each e he).1
theorem Holds.rely {S : Ents} {w w₁ : World} {O : Nat → Prop} {m : Mode} (h : Holds S w O m.ro) (hr : Rely O m w w₁) : Holds S w₁ O m.ro :=
  ⟨fun e he => ⟨(hr.keep _ (h.lt he) ((h.each e he).2.imp id (·.2))).trans (h.each e he).1, (h.each e he).2⟩, h.apart⟩
theorem Holds.sub {S S' : Ents} {w : World} {O ro : Nat → Prop} (h : Holds S w O ro) (hs : List.Sublist S' S) : Holds S' w O ro :=
  ⟨fun e he => h.each e (hs.subset he), h.apart.sublist hs⟩
theorem Holds.perm {S S' : Ents} {w : World} {O ro : Nat → Prop} (h : Holds S w O ro) (hs : S.Perm S') : Holds S' w O ro :=
  ⟨fun e he => h.each e (hs.mem_iff.2 he), (hs.pairwise_iff (R := fun e e' : Ent => (e.mine = true ∨ e'.mine = true) → e.blk ≠ e'.blk) (fun {x y} h hm e => h hm.symm e.symm)).1 h.apart⟩
end Go.Proofs.YtpnnmklacialgaaGreat
namespace Go.Proofs.YtpnnmklacialgaaGreat
open Go.Conc
structure Base (O : Nat → Prop) (w₀ w : World) : Prop where
  tape : w.tape = w₀.tape
  os : w.os = w₀.os
  output : w.output = w₀.output
  size : w₀.heap.size ≤ w.heap.size
  keep : ∀ b, b < w₀.heap.size → ¬ O b → w.heap[b]? = w₀.heap[b]?
theorem Base.refl (O : Nat → Prop) (w : World) : Base O w w := ⟨rfl, rfl, rfl, Nat.le_refl _, fun _ _ _ => rfl⟩
def SemH {α : Type} (P : Program) (m : Mode) (s : Sem α) (S : Ents) (R : α → Ents → Prop) : Prop :=
  ∀ (F : Ents) (O : Nat → Prop) (w₀ w : World) (es : Array Event), Base O w₀ w → Holds (S ++ F) w (grow O w₀ w) m.ro → (∀ e ∈ es, EvOk O m.ro w₀.heap.size w.heap.size e) →
    ∃ a w' es' S', s.runT P w es = (.ok a w', es') ∧ Base O w₀ w' ∧ Holds (S' ++ F) w' (grow O w₀ w') m.ro ∧ (∀ e ∈ es', EvOk O m.ro w₀.heap.size w'.heap.size e) ∧ R a S'
section
variable {α β : Type} {P : Program} {m : Mode} {S : Ents}
theorem semH_pure {a : α} {R : α → Ents → Prop} (h : R a S) : SemH P m (pure a) S R :=
  fun F O w₀ w es hb hh he => ⟨a, w, es, S, rfl, hb, hh, he, h⟩
theorem semH_bind {s : Sem α} {f : α → Sem β} {R : β → Ents → Prop} (h : SemH P m s S fun a S' => SemH P m (f a) S' R) : SemH P m (s >>= f) S R := by
  intro F O w₀ w es hb hh he
  obtain ⟨a, w₁, es₁, S₁, hr, hb₁, hh₁, he₁, hk⟩ := h F O w₀ w es hb hh he
  obtain ⟨b, w₂, es₂, S₂, hr₂, hb₂, hh₂, he₂, hk₂⟩ := hk F O w₀ w₁ es₁ hb₁ hh₁ he₁
  refine ⟨b, w₂, es₂, S₂, ?_, hb₂, hh₂, he₂, hk₂⟩
  show (Sem.bind s f).runT P w es = _
  rw [Sem.runT_bind', hr]
  exact hr₂
theorem semH_mono {s : Sem α} {R R' : α → Ents → Prop} (h : SemH P m s S R) (hr : ∀ a S, R a S → R' a S) : SemH P m s S R' :=
  fun F O w₀ w es hb hh he => let ⟨a, w₁, es₁, S₁, x1, x2, x3, x4, x5⟩ := h F O w₀ w es hb hh he; ⟨a, w₁, es₁, S₁, x1, x2, x3, x4, hr _ _ x5⟩
theorem semH_program {R : Program → Ents → Prop} (h : R P S) : SemH P m program S R :=
  fun F O w₀ w es hb hh he => ⟨P, w, es, S, rfl, hb, hh, he, h⟩
theorem Base.own {O : Nat → Prop} {w₀ w : World} (h : Base O w₀ w) : ∀ b, ¬ grow O w₀ w b → b < w.heap.size → ¬ O b ∧ b < w₀.heap.size :=
  fun b hb hl => ⟨fun ho => hb (.inl ho), Nat.lt_of_not_le fun hx => hb (.inr ⟨hx, hl⟩)⟩
theorem ok_of_grow {O : Nat → Prop} {w₀ w : World} {b : Nat} (h : grow O w₀ w b) : O b ∨ w₀.heap.size ≤ b := h.imp id (·.1)
theorem semH_load {a : Addr} {R : Value → Ents → Prop} {e : Ent} {c : Array Value} {ty : TypeId} {fz : Nat × Nat} {v : Value} (he : e ∈ S) (hb : a.block = e.blk) (hs : a.spot = none)
    (ho : e.obj = .cells c ty fz) (hv : c[a.off]? = some v) (h : R v S) : SemH P m (load a) S R := by
  intro F O w₀ w es hbase hh hes
  replace he := List.mem_append_left F he
  have hc : w.cell? a = some v := by
    have := (hh.each e he).1
    simp [World.cell?, hb, this, ho, hs, hv]
  refine ⟨v, w, es.push ⟨.cell a, false, false⟩, S, ?_, hbase, hh, ?_, h⟩
  · simp only [load, Sem.runT, hc]
    rfl
  · intro x hx
    rcases Array.mem_push.1 hx with hx | rfl
    · exact hes x hx
    · refine ⟨rfl, by rw [hb]; exact hh.lt he, ?_⟩
      simp only [Bool.false_eq_true, if_false]
      rcases (hh.each e he).2 with ho | ⟨_, ho⟩
      · exact .inl (hb ▸ ok_of_grow ho)
      · exact .inr (hb ▸ ho)
inductive Upd : Ents → Nat → Obj → Obj → Ents → Prop
  | here {b : Nat} {o o' : Obj} {S : Ents} : Upd (⟨b, true, o⟩ :: S) b o o' (⟨b, true, o'⟩ :: S)
  | there {b : Nat} {o o' : Obj} {S S' : Ents} {e : Ent} : Upd S b o o' S' → Upd (e :: S) b o o' (e :: S')
theorem Upd.app {S S' : Ents} {b : Nat} {o o' : Obj} (h : Upd S b o o' S') (F : Ents) : Upd (S ++ F) b o o' (S' ++ F) := by
  induction h with
  | here => exact .here
  | there _ ih => exact .there ih
theorem Upd.mem {S S' : Ents} {b : Nat} {o o' : Obj} (h : Upd S b o o' S') : (⟨b, true, o⟩ : Ent) ∈ S := by
  induction h with
  | here => exact .head _
  | there _ ih => exact .tail _ ih
theorem Upd.blks {S S' : Ents} {b : Nat} {o o' : Obj} (h : Upd S b o o' S') : ∀ e' ∈ S', ∃ e ∈ S, e.blk = e'.blk ∧ e.mine = e'.mine := by
  induction h with
  | here =>
    intro e' he
    rcases List.mem_cons.1 he with rfl | he
    · exact ⟨_, .head _, rfl, rfl⟩
    · exact ⟨e', .tail _ he, rfl, rfl⟩
  | there _ ih =>
    intro e' he
    rcases List.mem_cons.1 he with rfl | he
    · exact ⟨_, .head _, rfl, rfl⟩
    · obtain ⟨e, h1, h2⟩ := ih e' he
      exact ⟨e, .tail _ h1, h2⟩
theorem Upd.pairwise {S S' : Ents} {b : Nat} {o o' : Obj} (h : Upd S b o o' S') (hp : S.Pairwise fun e e' => (e.mine = true ∨ e'.mine = true) → e.blk ≠ e'.blk) :
    S'.Pairwise fun e e' => (e.mine = true ∨ e'.mine = true) → e.blk ≠ e'.blk := by
  induction h with
  | here => exact List.pairwise_cons.2 ⟨fun e he => (List.pairwise_cons.1 hp).1 e he, (List.pairwise_cons.1 hp).2⟩
  | there h ih =>
    refine List.pairwise_cons.2 ⟨fun e' he => ?_, ih (List.pairwise_cons.1 hp).2⟩
    obtain ⟨e, h1, h2, h3⟩ := h.blks e' he
    have := (List.pairwise_cons.1 hp).1 e h1
    rw [h2, h3] at this
    exact this
theorem Upd.other {S S' : Ents} {b : Nat} {o o' : Obj} (h : Upd S b o o' S') (hp : S.Pairwise fun e e' => (e.mine = true ∨ e'.mine = true) → e.blk ≠ e'.blk) :
    ∀ e ∈ S', (e.blk = b ∧ e.obj = o' ∧ e.mine = true) ∨ (e ∈ S ∧ e.blk ≠ b) := by
  induction h with
  | here =>
    intro e he
    rcases List.mem_cons.1 he with rfl | he
    · exact .inl ⟨rfl, rfl, rfl⟩
    · exact .inr ⟨.tail _ he, fun e2 => (List.pairwise_cons.1 hp).1 e he (.inl rfl) e2.symm⟩
  | there h ih =>
    intro e he
    rcases List.mem_cons.1 he with rfl | he
    · exact .inr ⟨.head _, (List.pairwise_cons.1 hp).1 _ h.mem (.inr rfl)⟩
    · rcases ih (List.pairwise_cons.1 hp).2 e he with h1 | ⟨h1, h2⟩
      · exact .inl h1
      · exact .inr ⟨.tail _ h1, h2⟩
theorem Holds.upd {S S' : Ents} {b : Nat} {o o' : Obj} {w w' : World} {O ro : Nat → Prop} (h : Holds S w O ro) (hu : Upd S b o o' S') (hb : w'.heap[b]? = some o') (ho : ∀ x, x ≠ b → w'.heap[x]? = w.heap[x]?) : Holds S' w' O ro := by
  refine ⟨fun e he => ?_, hu.pairwise h.apart⟩
  have hown : O b := by
    rcases (h.each _ hu.mem).2 with h1 | ⟨h1, _⟩
    · exact h1
    · cases h1
  rcases hu.other h.apart e he with ⟨h1, h2, h3⟩ | ⟨h1, h2⟩
  · exact ⟨by rw [h1, h2]; exact hb, .inl (h1 ▸ hown)⟩
  · exact ⟨(ho _ h2).trans (h.each e h1).1, (h.each e h1).2⟩
theorem Holds.ownOf {S S' : Ents} {b : Nat} {o o' : Obj} {w : World} {O ro : Nat → Prop} (h : Holds S w O ro) (hu : Upd S b o o' S') : O b := by
  rcases (h.each _ hu.mem).2 with h1 | ⟨h1, _⟩
  · exact h1
  · cases h1
theorem semH_store {a : Addr} {v : Value} {R : Unit → Ents → Prop} {S' : Ents} {c : Array Value} {ty : TypeId} (hv : v.oneCell' = true) (hs : a.spot = none) (hlt : a.off < c.size)
    (hu : Upd S a.block (.cells c ty (0, 0)) (.cells (c.setIfInBounds a.off v) ty (0, 0)) S') (h : R () S') : SemH P m (store a v) S R := by
  intro F O w₀ w es hbase hh hes
  replace hu := hu.app F
  have hm := (hh.each _ hu.mem).1
  have hc : w.cell? a = some c[a.off] := by simp [World.cell?, hm, hs, hlt]
  have hf : w.frozen? a = false := by simp [World.frozen?, hm]
  have hl : a.block < w.heap.size := hh.lt hu.mem
  have hsz : (w.setCell a v).heap.size = w.heap.size := by simp [World.setCell]
  have hg : grow O w₀ (w.setCell a v) = grow O w₀ w := by funext b; simp [grow, hsz]
  refine ⟨(), w.setCell a v, es.push ⟨.cell a, true, false⟩, S', ?_, ?_, ?_, ?_, h⟩
  · cases v <;> first
      | (simp [Value.oneCell'] at hv; done)
      | (simp only [store, Sem.runT, hc, hf, Bool.false_eq_true, if_false]; rfl)
  · refine ⟨hbase.tape, hbase.os, hbase.output, by rw [hsz]; exact hbase.size, fun b hb1 hb2 => ?_⟩
    have : a.block ≠ b := by
      rintro rfl
      rcases hh.ownOf hu with h1 | ⟨h1, h2⟩
      · exact hb2 h1
      · omega
    rw [← hbase.keep b hb1 hb2]
    simp [World.setCell, Array.getElem?_modify, this]
  · rw [hg]
    refine hh.upd hu ?_ ?_
    · simp [World.setCell, Array.getElem?_modify, hm, hs]
    · intro x hx
      simp [World.setCell, Array.getElem?_modify, Ne.symm hx]
  · intro x hx
    rw [hsz]
    rcases Array.mem_push.1 hx with hx | rfl
    · exact hes x hx
    · refine ⟨rfl, hl, ?_⟩
      simp only [if_true]
      exact ok_of_grow (hh.ownOf hu)
theorem Holds.push {w : World} {O ro : Nat → Prop} (h : Holds S w O ro) (O' : Nat → Prop) (o : Obj) (hO : ∀ b, O b → O' b) (hn : O' w.heap.size) :
    Holds (⟨w.heap.size, true, o⟩ :: S) { w with heap := w.heap.push o } O' ro := by
  refine ⟨fun e he => ?_, List.pairwise_cons.2 ⟨fun e he _ => ?_, h.apart⟩⟩
  · rcases List.mem_cons.1 he with rfl | he
    · exact ⟨by simp, .inl hn⟩
    · have hl := h.lt he
      refine ⟨?_, (h.each e he).2.imp (hO _) id⟩
      show (w.heap.push o)[e.blk]? = _
      rw [Array.getElem?_push, if_neg (by omega)]
      exact (h.each e he).1
  · have := h.lt he
    show w.heap.size ≠ e.blk
    omega
theorem semH_new {o : Obj} {R : Nat → Ents → Prop} (h : ∀ b, R b (⟨b, true, o⟩ :: S)) : SemH P m (newObj o) S R := by
  intro F O w₀ w es hbase hh hes
  have hsz : ({ w with heap := w.heap.push o } : World).heap.size = w.heap.size + 1 := by simp
  refine ⟨w.heap.size, { w with heap := w.heap.push o }, es, ⟨w.heap.size, true, o⟩ :: S, rfl, ?_, ?_, ?_, h _⟩
  · refine ⟨hbase.tape, hbase.os, hbase.output, by have := hbase.size; omega, fun b h1 h2 => ?_⟩
    rw [← hbase.keep b h1 h2]
    show (w.heap.push o)[b]? = _
    rw [Array.getElem?_push, if_neg (by have := hbase.size; omega)]
  · refine hh.push _ o (fun b hb => ?_) (.inr ⟨hbase.size, by omega⟩)
    rcases hb with hb | ⟨h1, h2⟩
    · exact .inl hb
    · exact .inr ⟨h1, by omega⟩
  · intro x hx
    exact (hes x hx).mono (by omega)
def Obj.noCells : Obj → Bool
  | .cells .. => false
  | .chan .. => false
  | _ => true
theorem semH_getObj {b : Nat} {o : Obj} {R : Obj → Ents → Prop} (hb : ⟨b, true, o⟩ ∈ S) (ho : Obj.noCells o = true) (h : R o S) : SemH P m (getObj b) S R := by
  intro F O w₀ w es hbase hh hes
  replace hb := List.mem_append_left F hb
  have hm := (hh.each _ hb).1
  have hown : grow O w₀ w b := by
    rcases (hh.each _ hb).2 with h1 | ⟨h1, _⟩
    · exact h1
    · cases h1
  refine ⟨o, w, es.push ⟨.obj b, false, o.isChan⟩, S, ?_, hbase, hh, ?_, h⟩
  · simp only at hm
    cases o <;> first
      | (simp [Obj.noCells] at ho; done)
      | (simp only [getObj, Sem.runT, hm]; done)
  · intro x hx
    rcases Array.mem_push.1 hx with hx | rfl
    · exact hes x hx
    · refine ⟨?_, hh.lt hb, ok_of_grow hown⟩
      cases o <;> simp_all [Obj.isChan, Obj.noCells]
theorem semH_setObj {b : Nat} {o o' : Obj} {S' : Ents} {R : Unit → Ents → Prop} (hu : Upd S b o o' S') (ho : Obj.noCells o = true) (ho' : Obj.noCells o' = true) (h : R () S') : SemH P m (setObj b o') S R := by
  intro F O w₀ w es hbase hh hes
  replace hu := hu.app F
  have hm := (hh.each _ hu.mem).1
  have hl : b < w.heap.size := hh.lt hu.mem
  have hsz : ({ w with heap := w.heap.setIfInBounds b o' } : World).heap.size = w.heap.size := by simp
  have hg : grow O w₀ { w with heap := w.heap.setIfInBounds b o' } = grow O w₀ w := by funext b; simp [grow]
  refine ⟨(), { w with heap := w.heap.setIfInBounds b o' }, es.push ⟨.obj b, true, o'.isChan⟩, S', ?_, ?_, ?_, ?_, h⟩
  · simp only at hm
    cases o <;> first
      | (simp [Obj.noCells] at ho; done)
      | (simp only [setObj, Sem.runT, hm]; done)
  · refine ⟨hbase.tape, hbase.os, hbase.output, by rw [hsz]; exact hbase.size, fun x hb1 hb2 => ?_⟩
    have : b ≠ x := by
      rintro rfl
      rcases hh.ownOf hu with h1 | ⟨h1, h2⟩
      · exact hb2 h1
      · omega
    rw [← hbase.keep x hb1 hb2]
    show (w.heap.setIfInBounds b o')[x]? = _
    rw [Array.getElem?_setIfInBounds_ne this]
  · rw [hg]
    refine hh.upd hu ?_ ?_
    · show (w.heap.setIfInBounds b o')[b]? = _
      simp [hl]
    · intro x hx
      show (w.heap.setIfInBounds b o')[x]? = _
      rw [Array.getElem?_setIfInBounds_ne (Ne.symm hx)]
  · intro x hx
    rw [hsz]
    rcases Array.mem_push.1 hx with hx | rfl
    · exact hes x hx
    · refine ⟨?_, hl, ok_of_grow (hh.ownOf hu)⟩
      cases o' <;> simp_all [Obj.isChan, Obj.noCells]
theorem semH_choose {q : Question} {R : Nat → Ents → Prop} (h : ∀ n, R (if q.forced then 0 else q.cut n) S) : SemH P m (choose q) S R := by
  intro F O w₀ w es hbase hh hes
  by_cases hf : q.forced = true
  · refine ⟨0, w, es, S, ?_, hbase, hh, hes, by simpa [hf] using h 0⟩
    simp [choose, Sem.runT, hf, -Sem.runT_eq]
  · refine ⟨q.cut (w.tape w.drawn q), { w with drawn := w.drawn + 1 }, es, S, ?_, ?_, ?_, hes, by simpa [hf] using h (w.tape w.drawn q)⟩
    · simp [choose, Sem.runT, hf, -Sem.runT_eq]
    · exact ⟨hbase.tape, hbase.os, hbase.output, hbase.size, hbase.keep⟩
    · exact ⟨hh.each, hh.apart⟩
theorem semH_mark {k : Mark} {R : Unit → Ents → Prop} (hk : k = .noRoom ∨ ∃ f, k = .extern f) (h : R () S) : SemH P m (mark k) S R := by
  intro F O w₀ w es hbase hh hes
  refine ⟨(), w, es.push ⟨.mark k, false, true⟩, S, rfl, hbase, hh, ?_, h⟩
  intro x hx
  rcases Array.mem_push.1 hx with hx | rfl
  · exact hes x hx
  · exact hk
theorem semH_typeInfo {t : TypeId} {i : TypeInfo} {R : TypeInfo → Ents → Prop} (hi : P.info? t = some i) (h : R i S) : SemH P m (typeInfo t) S R := by
  unfold typeInfo
  refine semH_bind (semH_program ?_)
  rw [hi]
  exact semH_pure h
theorem semH_underlying {t : TypeId} {d : TypeDesc} {R : TypeDesc → Ents → Prop} (hi : P.underlying t = some d) (h : R d S) : SemH P m (underlying t) S R := by
  unfold underlying
  refine semH_bind (semH_program ?_)
  rw [hi]
  exact semH_pure h
theorem semH_ite {c : Prop} [Decidable c] {x y : Sem α} {R : α → Ents → Prop} (h1 : c → SemH P m x S R) (h2 : ¬ c → SemH P m y S R) : SemH P m (if c then x else y) S R := by
  split
  · exact h1 ‹_›
  · exact h2 ‹_›
end
end Go.Proofs.YtpnnmklacialgaaGreat
namespace Go.Proofs.YtpnnmklacialgaaGreat
open Go.Conc
abbrev Tm := Nat → Value
def upd (t : Tm) (k : Nat) (v : Value) : Tm := fun j => bif Nat.beq j k then v else t j
def updo (t : Tm) (k : Option Nat) (v : Value) : Tm := match k with | some d => upd t d v | none => t
def ev (t : Tm) : Operand → Value
  | .tmp i => t i
  | .const v => v
  | .global g => .pointer (some ⟨g, 0, none⟩)
  | .func f => .func (.func f) #[] #[]
theorem beq_ne {a b : Nat} (h : a ≠ b) : Nat.beq a b = false := by
  cases h2 : Nat.beq a b with
  | false => rfl
  | true => exact absurd (Nat.eq_of_beq_eq_true h2) h
theorem upd_same {t : Tm} {k : Nat} {v : Value} (h : t k = v) : upd t k v = t := by
  funext j
  unfold upd
  by_cases e : j = k
  · subst e; simp [h]
  · rw [beq_ne e]; rfl
structure Agree (n : Nat) (arr : Array Value) (t : Tm) : Prop where
  size : arr.size = n
  get : ∀ i, arr.getD i undef = t i
theorem Agree.set {n : Nat} {arr : Array Value} {t : Tm} (h : Agree n arr t) {d : Nat} (hd : d < n) (v : Value) : Agree n (arr.setIfInBounds d v) (upd t d v) := by
  refine ⟨by simp [h.size], fun i => ?_⟩
  have := h.get i
  have hs := h.size
  unfold upd
  by_cases e : i = d
  · subst e
    have h2 : i < arr.size := by omega
    simp [Array.getD, h2]
  · rw [beq_ne e]
    rw [cond_false, ← this]
    by_cases h2 : i < arr.size
    · simp [Array.getD, h2, Array.getElem_setIfInBounds, Ne.symm e]
    · simp [Array.getD, h2]
structure Env where
  main : Bool
  X : XNode
  m : Mode
  rd : Bool
def _root_.Go.Frame.st (b : Frame) (arr : Array Value) (ds : List Deferred) (todo : List Item) : Frame := { b with tmps := arr, defers := ds, todo, mode := .run }
theorem eval_st {b : Frame} {arr : Array Value} {ds : List Deferred} {k : List Item} {n : Nat} {t : Tm} (h : Agree n arr t) : (b.st arr ds k).eval = ev t := by
  funext x
  cases x <;> simp [Frame.eval, Frame.st, ev, h.get]
abbrev Post := Exit → Tm → List Deferred → Ents → Prop
section
variable (P : Program) (E : Env) (Stop : StopAt)
def RunE (g : Goroutine) (w : World) (O : Nat → Prop) : Prop := Run P E.main E.X Stop E.m g w O
def Aft (b : Frame) (k : List Item) (cs : List Frame) : Exit → Array Value → List Deferred → World → (Nat → Prop) → Prop
  | .normal, arr, ds, w, O => RunE P E Stop (G (b.st arr ds k) cs) w O
  | .exit id, arr, ds, w, O => ∃ k', exitTo id k = some k' ∧ RunE P E Stop (G (b.st arr ds k') cs) w O
  | .ret, arr, ds, w, O => ∀ k', RunE P E Stop (G (b.st arr ds (.code .ret :: k')) cs) w O
  | _, _, _, _, _ => False
end
def FrOk (E : Env) (b : Frame) : Prop := b.kind ≠ .early ∧ (E.rd = false → b.roundOf = none)
def WP (P : Program) (E : Env) (fn n : Nat) (c : Code) (Q : Post) (t : Tm) (ds : List Deferred) (S : Ents) : Prop :=
  ∀ (F : Ents) (b : Frame) (arr : Array Value) (k : List Item) (cs : List Frame) (w : World) (O : Nat → Prop) (Stop : StopAt), b.fn = fn → FrOk E b → Agree n arr t → Holds (S ++ F) w O E.m.ro →
    (∀ e t' ds' S' arr' w' O', Q e t' ds' S' → Agree n arr' t' → Holds (S' ++ F) w' O' E.m.ro → Aft P E Stop b k cs e arr' ds' w' O') →
    RunE P E Stop (G (b.st arr ds (.code c :: k)) cs) w O
def OpsW (P : Program) (E : Env) (fn n : Nat) (ops : Array Oper) (todo : List Nat) (Q : Tm → List Deferred → Ents → Prop) (t : Tm) (ds : List Deferred) (S : Ents) : Prop :=
  ∀ (F : Ents) (b : Frame) (arr : Array Value) (k : List Item) (cs : List Frame) (w : World) (O : Nat → Prop) (Stop : StopAt) (suf : List Nat), b.fn = fn → FrOk E b → Agree n arr t → Holds (S ++ F) w O E.m.ro →
    (∀ t' ds' S' arr' w' O', Q t' ds' S' → Agree n arr' t' → Holds (S' ++ F) w' O' E.m.ro → RunE P E Stop (G (b.st arr' ds' (.inRegion ops suf :: k)) cs) w' O') →
    RunE P E Stop (G (b.st arr ds (.inRegion ops (todo ++ suf) :: k)) cs) w O
section
variable {P : Program} {E : Env} {Stop : StopAt} {fn n : Nat} {Q : Post} {t : Tm} {ds : List Deferred} {S : Ents}
theorem RunE.silent {g g' : Goroutine} {w : World} {O : Nat → Prop} (hr : g.status = .running) (hs : ∀ w₁, stepG P E.main g w₁ = .go g' w₁ #[]) (h : ∀ w₁, Rely O E.m w w₁ → RunE P E Stop g' w₁ O) : RunE P E Stop g w O :=
  Run.step hr fun w₁ h₁ => ⟨g', w₁, #[], hs w₁, Guar.idle _ _ _, by rw [grow_self]; exact h w₁ h₁⟩
theorem RunE.rely {g : Goroutine} {w w₁ : World} {O : Nat → Prop} (h : RunE P E Stop g w O) (hr : Rely O E.m w w₁) : RunE P E Stop g w₁ O := Run.rely h hr
theorem Aft.rely {b : Frame} {k : List Item} {cs : List Frame} {e : Exit} {arr : Array Value} {ds : List Deferred} {w w₁ : World} {O : Nat → Prop} (h : Aft P E Stop b k cs e arr ds w O) (hr : Rely O E.m w w₁) : Aft P E Stop b k cs e arr ds w₁ O := by
  cases e with
  | normal => exact RunE.rely h hr
  | exit id => obtain ⟨k', h1, h2⟩ := h; exact ⟨k', h1, h2.rely hr⟩
  | ret => exact fun k' => (h k').rely hr
  | goto l => exact h
  | panic c => exact h
  | outgrown => exact h
theorem Aft.push {b : Frame} {x : Item} {k : List Item} {cs : List Frame} {e : Exit} {arr : Array Value} {ds : List Deferred} {w : World} {O : Nat → Prop} (hx : x.plain = true) (he : e ≠ .normal) (h : Aft P E Stop b k cs e arr ds w O) :
    Aft P E Stop b (x :: k) cs e arr ds w O := by
  cases e with
  | normal => exact absurd rfl he
  | exit id => obtain ⟨k', h1, h2⟩ := h; exact ⟨k', by cases x <;> simp_all [exitTo, Item.plain], h2⟩
  | ret => exact h
  | goto l => exact h
  | panic c => exact h
  | outgrown => exact h
theorem WP.mono {c : Code} {Q' : Post} (h : WP P E fn n c Q t ds S) (hq : ∀ e t ds S, Q e t ds S → Q' e t ds S) : WP P E fn n c Q' t ds S :=
  fun F b arr k cs w O Stop h1 h2 h3 h4 h5 => h F b arr k cs w O Stop h1 h2 h3 h4 fun e t' ds' S' arr' w' O' q => h5 e t' ds' S' arr' w' O' (hq _ _ _ _ q)
theorem OpsW.mono {ops : Array Oper} {todo : List Nat} {Q Q' : Tm → List Deferred → Ents → Prop} (h : OpsW P E fn n ops todo Q t ds S) (hq : ∀ t ds S, Q t ds S → Q' t ds S) : OpsW P E fn n ops todo Q' t ds S :=
  fun F b arr k cs w O Stop suf h1 h2 h3 h4 h5 => h F b arr k cs w O Stop suf h1 h2 h3 h4 fun t' ds' S' arr' w' O' q => h5 t' ds' S' arr' w' O' (hq _ _ _ q)
theorem WP.sub {c : Code} {S' : Ents} (h : WP P E fn n c Q t ds S') (hs : List.Sublist S' S) : WP P E fn n c Q t ds S :=
  fun F b arr k cs w O Stop h1 h2 h3 h4 h5 => h F b arr k cs w O Stop h1 h2 h3 (h4.sub (hs.append_right F)) h5
theorem WP.perm {c : Code} {S' : Ents} (h : WP P E fn n c Q t ds S') (hs : S.Perm S') : WP P E fn n c Q t ds S :=
  fun F b arr k cs w O Stop h1 h2 h3 h4 h5 => h F b arr k cs w O Stop h1 h2 h3 (h4.perm (hs.append_right F)) h5
theorem WP.frame {c : Code} {A : Ents} (h : WP P E fn n c (fun e t ds S' => Q e t ds (S' ++ A)) t ds S) : WP P E fn n c Q t ds (S ++ A) :=
  fun F b arr k cs w O Stop h1 h2 h3 h4 h5 => h (A ++ F) b arr k cs w O Stop h1 h2 h3 (by rw [← List.append_assoc]; exact h4)
    fun e t' ds' S' arr' w' O' q ha hh => h5 e t' ds' (S' ++ A) arr' w' O' q ha (by rw [List.append_assoc]; exact hh)
section steps
variable {main : Bool} {b : Frame} {arr : Array Value} {k : List Item} {cs : List Frame} {w : World}
theorem st_skip : stepG P main (G (b.st arr ds (.code .skip :: k)) cs) w = .go (G (b.st arr ds k) cs) w := by simp [G, stepG, stepG.exec, Frame.st]
theorem st_inBlock {id : Nat} : stepG P main (G (b.st arr ds (.inBlock id :: k)) cs) w = .go (G (b.st arr ds k) cs) w := by simp [G, stepG, stepG.exec, Frame.st]
theorem st_seq {x y : Code} : stepG P main (G (b.st arr ds (.code (.seq x y) :: k)) cs) w = .go (G (b.st arr ds (.code x :: .code y :: k)) cs) w := by simp [G, stepG, stepG.exec, Frame.st]
theorem st_cond {c : Operand} {x y : Code} {v : Bool} (ha : Agree n arr t) (h : ev t c = .bool v) :
    stepG P main (G (b.st arr ds (.code (.cond c x y) :: k)) cs) w = .go (G (b.st arr ds (.code (bif v then x else y) :: k)) cs) w := by
  have h' : (b.st arr ds (.code (.cond c x y) :: k)).eval c = .bool v := by rw [eval_st ha]; exact h
  simp only [Frame.st] at h'
  cases v <;> simp [G, stepG, stepG.exec, Frame.st, h']
theorem st_block {id : Nat} {c : Code} : stepG P main (G (b.st arr ds (.code (.block id c) :: k)) cs) w = .go (G (b.st arr ds (.code c :: .inBlock id :: k)) cs) w := by simp [G, stepG, stepG.exec, Frame.st]
theorem st_loop {c : Code} : stepG P main (G (b.st arr ds (.code (.loop c) :: k)) cs) w = .go (G (b.st arr ds (.code c :: .inLoop c :: k)) cs) w := by simp [G, stepG, stepG.exec, Frame.st]
theorem st_inLoop {c : Code} : stepG P main (G (b.st arr ds (.inLoop c :: k)) cs) w = .go (G (b.st arr ds (.code c :: .inLoop c :: k)) cs) w := by simp [G, stepG, stepG.exec, Frame.st]
theorem st_exit {id : Nat} {k' : List Item} (h : exitTo id k = some k') : stepG P main (G (b.st arr ds (.code (.exit id) :: k)) cs) w = .go (G (b.st arr ds k') cs) w := by simp [G, stepG, stepG.exec, Frame.st, h]
theorem st_region {id : Nat} {ops : Array Oper} : stepG P main (G (b.st arr ds (.code (.region id ops false) :: k)) cs) w = .go (G (b.st arr ds (.inRegion ops (List.range ops.size) :: k)) cs) w := by simp [G, stepG, stepG.exec, Frame.st]
theorem st_region_end {ops : Array Oper} : stepG P main (G (b.st arr ds (.inRegion ops [] :: k)) cs) w = .go (G (b.st arr ds k) cs) w := by simp [G, stepG, stepG.exec, Frame.st]
end steps
theorem wp_skip (h : Q .normal t ds S) : WP P E fn n .skip Q t ds S := fun F b arr k cs w O Stop h1 h2 h3 h4 h5 =>
  RunE.silent rfl (fun _ => st_skip) fun w₁ hr => h5 .normal t ds S arr w₁ O h h3 (h4.rely hr)
theorem wp_exit {id : Nat} (h : Q (.exit id) t ds S) : WP P E fn n (.exit id) Q t ds S := fun F b arr k cs w O Stop h1 h2 h3 h4 h5 => by
  obtain ⟨k', hk, hg⟩ := h5 (.exit id) t ds S arr w O h h3 h4
  exact RunE.silent rfl (fun _ => st_exit hk) fun w₁ hr => hg.rely hr
theorem wp_ret (h : Q .ret t ds S) : WP P E fn n .ret Q t ds S := fun F b arr k cs w O Stop h1 h2 h3 h4 h5 => h5 .ret t ds S arr w O h h3 h4 k
def seqQ (K : Tm → List Deferred → Ents → Prop) (Q : Post) : Post
  | .normal => K
  | e => Q e
theorem wp_seq {x y : Code} (h : WP P E fn n x (seqQ (WP P E fn n y Q) Q) t ds S) : WP P E fn n (.seq x y) Q t ds S := fun F b arr k cs w O Stop h1 h2 h3 h4 h5 =>
  RunE.silent rfl (fun _ => st_seq) fun w₁ hr => h F b arr (.code y :: k) cs w₁ O Stop h1 h2 h3 (h4.rely hr) fun e t' ds' S' arr' w' O' q ha hh => by
    cases e with
    | normal => exact q F b arr' k cs w' O' Stop h1 h2 ha hh h5
    | exit id => exact (h5 _ _ _ _ _ _ _ q ha hh).push rfl (by simp)
    | ret => exact h5 .ret _ _ _ _ _ _ q ha hh
    | goto l => exact h5 _ _ _ _ _ _ _ q ha hh
    | panic c => exact h5 _ _ _ _ _ _ _ q ha hh
    | outgrown => exact h5 _ _ _ _ _ _ _ q ha hh
theorem wp_cond {c : Operand} {x y : Code} {v : Bool} (hc : ev t c = .bool v) (h1 : v = true → WP P E fn n x Q t ds S) (h2 : v = false → WP P E fn n y Q t ds S) : WP P E fn n (.cond c x y) Q t ds S := fun F b arr k cs w O Stop g1 g2 g3 g4 g5 =>
  RunE.silent rfl (fun _ => st_cond g3 hc) fun w₁ hr => by
    cases v with
    | true => exact h1 rfl F b arr k cs w₁ O Stop g1 g2 g3 (g4.rely hr) g5
    | false => exact h2 rfl F b arr k cs w₁ O Stop g1 g2 g3 (g4.rely hr) g5
def blockQ (id : Nat) (Q : Post) : Post
  | .exit i => bif Nat.beq i id then Q .normal else Q (.exit i)
  | e => Q e
theorem wp_block {id : Nat} {c : Code} (h : WP P E fn n c (blockQ id Q) t ds S) : WP P E fn n (.block id c) Q t ds S := fun F b arr k cs w O Stop h1 h2 h3 h4 h5 =>
  RunE.silent rfl (fun _ => st_block) fun w₁ hr => h F b arr (.inBlock id :: k) cs w₁ O Stop h1 h2 h3 (h4.rely hr) fun e t' ds' S' arr' w' O' q ha hh => by
    cases e with
    | normal => exact RunE.silent rfl (fun _ => st_inBlock) fun w₂ hr₂ => RunE.rely (h5 .normal _ _ _ _ _ _ q ha hh) hr₂
    | exit i =>
      by_cases e : i = id
      · subst e
        simp only [blockQ, show Nat.beq i i = true from by simp, cond_true] at q
        exact ⟨k, by simp [exitTo], h5 .normal _ _ _ _ _ _ q ha hh⟩
      · simp only [blockQ, beq_ne e, cond_false] at q
        obtain ⟨k', hk, hg⟩ := h5 _ _ _ _ _ _ _ q ha hh
        exact ⟨k', by simp [exitTo, hk]; omega, hg⟩
    | ret => exact h5 .ret _ _ _ _ _ _ q ha hh
    | goto l => exact h5 _ _ _ _ _ _ _ q ha hh
    | panic c => exact h5 _ _ _ _ _ _ _ q ha hh
    | outgrown => exact h5 _ _ _ _ _ _ _ q ha hh
theorem wp_loop {c : Code} (I : Nat → Tm → List Deferred → Ents → Prop) (i : Nat) (h0 : I i t ds S)
    (h : ∀ i t ds S, I i t ds S → WP P E fn n c (seqQ (fun t' ds' S' => ∃ i', i' < i ∧ ∃ S'', List.Sublist S'' S' ∧ I i' t' ds' S'') Q) t ds S) : WP P E fn n (.loop c) Q t ds S := by
  intro F b arr k cs w O Stop h1 h2 h3 h4 h5
  have key : ∀ i t ds S arr w O, I i t ds S → Agree n arr t → Holds (S ++ F) w O E.m.ro → RunE P E Stop (G (b.st arr ds (.code c :: .inLoop c :: k)) cs) w O := by
    intro i
    induction i using Nat.strongRecOn with
    | _ i ih =>
      intro t ds S arr w O hI ha hh
      refine h i t ds S hI F b arr (.inLoop c :: k) cs w O Stop h1 h2 ha hh fun e t' ds' S' arr' w' O' q ha' hh' => ?_
      cases e with
      | normal =>
        obtain ⟨i', hlt, S'', hsub, hI'⟩ := q
        exact RunE.silent rfl (fun _ => st_inLoop) fun w₂ hr₂ => ih i' hlt _ _ _ _ _ _ hI' ha' ((hh'.sub (hsub.append_right F)).rely hr₂)
      | exit id => exact (h5 _ _ _ _ _ _ _ q ha' hh').push rfl (by simp)
      | ret => exact h5 .ret _ _ _ _ _ _ q ha' hh'
      | goto l => exact h5 _ _ _ _ _ _ _ q ha' hh'
      | panic c => exact h5 _ _ _ _ _ _ _ q ha' hh'
      | outgrown => exact h5 _ _ _ _ _ _ _ q ha' hh'
  exact RunE.silent rfl (fun _ => st_loop) fun w₁ hr => key i t ds S arr w₁ O h0 h3 (h4.rely hr)
theorem wp_region {id : Nat} {ops : Array Oper} (h : OpsW P E fn n ops (List.range ops.size) (Q .normal) t ds S) : WP P E fn n (.region id ops false) Q t ds S := fun F b arr k cs w O Stop h1 h2 h3 h4 h5 =>
  RunE.silent rfl (fun _ => st_region) fun w₁ hr => by
    have := h F b arr k cs w₁ O Stop [] h1 h2 h3 (h4.rely hr) fun t' ds' S' arr' w' O' q ha hh => RunE.silent rfl (fun _ => st_region_end) fun w₂ hr₂ => RunE.rely (h5 .normal t' ds' S' arr' w' O' q ha hh) hr₂
    rwa [List.append_nil] at this
theorem ops_nil {ops : Array Oper} {Q : Tm → List Deferred → Ents → Prop} (h : Q t ds S) : OpsW P E fn n ops [] Q t ds S := fun F b arr k cs w O Stop suf h1 h2 h3 h4 h5 => h5 t ds S arr w O h h3 h4
def wantB (ops : Array Oper) (t : Tm) (o : Oper) : Bool :=
  match o.guard with
  | none => true
  | some (j, w) => match (ops[j]?).bind (·.dst) with
    | some d => match t d with
      | .bool b => bif w then b else !b
      | _ => false
    | none => false
theorem wanted_eq {ops : Array Oper} {arr : Array Value} (h : Agree n arr t) (o : Oper) : Region.wanted o (yielded ops arr) = wantB ops t o := by
  unfold Region.wanted wantB
  cases o.guard with
  | none => rfl
  | some p =>
    obtain ⟨j, w⟩ := p
    simp only [yielded]
    cases hd : (ops[j]?).bind (·.dst) with
    | none => simp
    | some d =>
      simp only [Option.bind_some]
      have := h.get d
      by_cases hl : d < arr.size
      · simp only [Array.getD, hl, dif_pos] at this
        rw [Array.getElem?_eq_getElem hl]
        simp only [Array.getInternal_eq_getElem] at this
        rw [this]
        cases t d <;> try rfl
        rename_i bv
        cases bv <;> cases w <;> rfl
      · simp only [Array.getD, hl, dif_neg, not_false_eq_true] at this
        have e : arr[d]? = none := Array.getElem?_eq_none (Nat.le_of_not_lt hl)
        rw [e, ← this]
        rfl
def isDefer : Op → Bool
  | .defer _ => true
  | _ => false
theorem st_oper {main : Bool} {b : Frame} {arr : Array Value} {k : List Item} {cs : List Frame} {w : World} {ops : Array Oper} {i : Nat} {rest : List Nat} {o : Oper} (ha : Agree n arr t) (ho : ops[i]? = some o) (hw : wantB ops t o = true) (hd : isDefer o.op = false) :
    stepG P main (G (b.st arr ds (.inRegion ops (i :: rest) :: k)) cs) w = stepG.apply P true (b.st arr ds (.inRegion ops (i :: rest) :: k)) cs none (execOp (ev t) o) w := by
  have he := eval_st (b := b) (ds := ds) (k := .inRegion ops (i :: rest) :: k) ha
  have hw' := (wanted_eq (ops := ops) ha o).trans hw
  simp only [Frame.st] at he
  unfold stepG
  simp only [G, Frame.st, stepG.exec, ho, Option.map_some, Option.getD_some, hw', if_true, stepG.oper, Frame.oper?, he]
  cases h1 : o.op <;> simp_all [isDefer] <;> (split <;> simp_all)
theorem st_unwanted {main : Bool} {b : Frame} {arr : Array Value} {k : List Item} {cs : List Frame} {w : World} {ops : Array Oper} {i : Nat} {rest : List Nat} {o : Oper} (ha : Agree n arr t) (ho : ops[i]? = some o) (hw : wantB ops t o = false) :
    stepG P main (G (b.st arr ds (.inRegion ops (i :: rest) :: k)) cs) w = .go (G ((b.st arr ds (.inRegion ops (i :: rest) :: k)).finish undef) cs) w := by
  have hw' := (wanted_eq (ops := ops) ha o).trans hw
  unfold stepG
  simp [G, Frame.st, stepG.exec, ho, hw']
theorem foldl_seen {g : Bool × Array Event → Event → Bool × Array Event} (hg : ∀ s e x, x ∈ (g s e).2 → x ∈ s.2 ∨ x = e) :
    ∀ (l : List Event) (s : Bool × Array Event), ∀ x ∈ (l.foldl g s).2, x ∈ s.2 ∨ x ∈ l
  | [], s, x, h => .inl h
  | e :: l, s, x, h => by
    rcases foldl_seen hg l (g s e) x h with h | h
    · rcases hg _ _ _ h with h | rfl
      · exact .inl h
      · exact .inr (.head _)
    · exact .inr (.tail _ h)
theorem seen_sub {fn : FuncId} {es : Array Event} : ∀ e ∈ seen P fn es, e ∈ es := by
  intro e he
  unfold seen at he
  dsimp only at he
  rw [← Array.foldl_toList] at he
  have := foldl_seen (fun s x y hy => ?_) _ _ e he
  · rcases this with h | h
    · simp at h
    · exact Array.mem_toList_iff.1 h
  · obtain ⟨q, kept⟩ := s
    dsimp only at hy
    split at hy
    · exact .inl hy
    · dsimp only at hy
      split at hy
      · exact .inl hy
      · rcases Array.mem_push.1 hy with h | h
        · exact .inl h
        · exact .inr h
def setD (arr : Array Value) (d : Option Nat) (v : Value) : Array Value := match d with | some d => arr.setIfInBounds d v | none => arr
def dstOk (n : Nat) : Option Nat → Bool
  | some d => Nat.blt d n
  | none => true
theorem Agree.seto {arr : Array Value} (h : Agree n arr t) {d : Option Nat} (hd : dstOk n d = true) (v : Value) : Agree n (setD arr d v) (updo t d v) := by
  cases d with
  | none => exact h
  | some d => exact h.set (by simp [dstOk, Nat.blt] at hd; omega) v
theorem finish_st {b : Frame} {arr : Array Value} {k : List Item} {ops : Array Oper} {i : Nat} {rest : List Nat} {o : Oper} {v : Value} (ho : ops[i]? = some o) :
    (b.st arr ds (.inRegion ops (i :: rest) :: k)).finish v = b.st (setD arr o.dst v) ds (.inRegion ops rest :: k) := by
  simp only [Frame.finish, Frame.st, ho, Option.bind_some]
  unfold setD
  cases o.dst <;> rfl
def OpH (P : Program) (m : Mode) (o : Oper) (ρ : Operand → Value) (S : Ents) (R : Value → Ents → Prop) : Prop :=
  SemH P m (execOp ρ o) S fun nx S' => ∃ v, (nx = .value v ∨ (nx = .skip ∧ v = undef)) ∧ R v S'
theorem ops_op {ops : Array Oper} {i : Nat} {rest : List Nat} {o : Oper} {Q : Tm → List Deferred → Ents → Prop} {R : Value → Ents → Prop} (ho : ops[i]? = some o) (hw : wantB ops t o = true) (hd : isDefer o.op = false) (hdst : dstOk n o.dst = true)
    (hr : OpH P E.m o (ev t) S R) (h : ∀ v S', R v S' → OpsW P E fn n ops rest Q (updo t o.dst v) ds S') : OpsW P E fn n ops (i :: rest) Q t ds S := by
  intro F b arr k cs w O Stop suf h1 h2 h3 h4 h5
  rw [List.cons_append]
  refine Run.step rfl fun w₁ hrel => ?_
  obtain ⟨nx, w', es, S', hrun, hb, hh, hes, v, hv, hR⟩ := hr F O w₁ w₁ #[] (Base.refl O w₁) (by rw [grow_self]; exact h4.rely hrel) (by simp)
  have hk : (b.kind == CallKind.early) = false := by simpa using h2.1
  have hrun' : Sem.runT P (execOp (ev t) o) w₁ #[] = (.ok nx w', es) := hrun
  have hstep : stepG P E.main (G (b.st arr ds (.inRegion ops (i :: (rest ++ suf)) :: k)) cs) w₁ = .go (G ((b.st arr ds (.inRegion ops (i :: (rest ++ suf)) :: k)).finish v) cs) w' (seen P b.fn es) := by
    rw [st_oper h3 ho hw hd]
    unfold stepG.apply
    simp only [if_true, hrun']
    rcases hv with rfl | ⟨rfl, rfl⟩ <;> simp [G, Frame.st, hk, GStep.after]
  refine ⟨_, w', seen P b.fn es, hstep, ⟨hb.tape, hb.os, hb.output, hb.size, hb.keep, fun e he => hes e (seen_sub e he)⟩, ?_⟩
  rw [finish_st ho]
  exact h v S' hR F b _ k cs w' _ Stop suf h1 h2 (h3.seto hdst v) hh h5
theorem ops_unwanted {ops : Array Oper} {i : Nat} {rest : List Nat} {o : Oper} {Q : Tm → List Deferred → Ents → Prop} (ho : ops[i]? = some o) (hw : wantB ops t o = false) (hdst : dstOk n o.dst = true)
    (h : OpsW P E fn n ops rest Q (updo t o.dst undef) ds S) : OpsW P E fn n ops (i :: rest) Q t ds S := by
  intro F b arr k cs w O Stop suf h1 h2 h3 h4 h5
  rw [List.cons_append]
  refine RunE.silent rfl (fun _ => st_unwanted h3 ho hw) fun w₁ hr => ?_
  rw [finish_st ho]
  exact h F b _ k cs w₁ O Stop suf h1 h2 (h3.seto hdst undef) (h4.rely hr) h5
def Enters (P : Program) (f : FuncId) : Prop := ∃ fr, P.funcs[f]? = some fr ∧ (fr.name == "runtime.NumGoroutine") = false ∧ fr.body.isSome = true
def CallW (P : Program) (E : Env) (f : FuncId) (args : Array Value) (S : Ents) (R : Value → Ents → Prop) : Prop :=
  Enters P f ∧ ∀ (F : Ents) (c : Frame) (cs : List Frame) (w : World) (O : Nat → Prop) (Stop : StopAt), Holds (S ++ F) w O E.m.ro →
    (∀ v S' w' O', R v S' → Holds (S' ++ F) w' O' E.m.ro → RunE P E Stop (G (c.finish v) cs) w' O') → RunE P E Stop (G (Frame.enter P f args .normal) (c :: cs)) w O
theorem CallW.mono {f : FuncId} {args : Array Value} {R R' : Value → Ents → Prop} (h : CallW P E f args S R) (hr : ∀ v S, R v S → R' v S) : CallW P E f args S R' :=
  ⟨h.1, fun F c cs w O Stop h1 h2 => h.2 F c cs w O Stop h1 fun v S' w' O' q => h2 v S' w' O' (hr _ _ q)⟩
theorem CallW.sub {f : FuncId} {args : Array Value} {R : Value → Ents → Prop} {S' : Ents} (h : CallW P E f args S' R) (hs : List.Sublist S' S) : CallW P E f args S R :=
  ⟨h.1, fun F c cs w O Stop h1 h2 => h.2 F c cs w O Stop (h1.sub (hs.append_right F)) h2⟩
theorem CallW.perm {f : FuncId} {args : Array Value} {R : Value → Ents → Prop} {S' : Ents} (h : CallW P E f args S' R) (hs : S.Perm S') : CallW P E f args S R :=
  ⟨h.1, fun F c cs w O Stop h1 h2 => h.2 F c cs w O Stop (h1.perm (hs.append_right F)) h2⟩
theorem CallW.frame {f : FuncId} {args : Array Value} {R : Value → Ents → Prop} {A : Ents} (h : CallW P E f args S fun v S' => R v (S' ++ A)) : CallW P E f args (S ++ A) R :=
  ⟨h.1, fun F c cs w O Stop h1 h2 => h.2 (A ++ F) c cs w O Stop (by rw [← List.append_assoc]; exact h1) fun v S' w' O' q hh => h2 v (S' ++ A) w' O' q (by rw [List.append_assoc]; exact hh)⟩
theorem run_callFunc {f : FuncId} (h : Enters P f) (args : Array Value) (w : World) (es : Array Event) : (callFunc f args).runT P w es = (.ok (.enter f args) w, es) := by
  obtain ⟨fr, h1, h2, h3⟩ := h
  have h4 : fr.body.isNone = false := by cases hb : fr.body <;> simp_all
  unfold callFunc
  show (Sem.bind program _).runT P w es = _
  simp only [program, Sem.bind, Sem.runT, h1, h2, h4, Bool.false_eq_true, if_false]
  rfl
def resultsT (rs : Array ResultVar) (t : Tm) : Sem Value := do
  let vs ← rs.mapM fun
    | .tmp r => pure (t r)
    | .cell a ty => do loadVar ty (← asAddr (t a))
  pure (if h : vs.size = 1 then vs[0] else .tuple vs)
theorem results_eq {fr : Func} {arr : Array Value} (h : Agree n arr t) : results fr arr = resultsT fr.results t := by
  unfold results resultsT
  simp only [h.get]
  rfl
def retQ (P : Program) (m : Mode) (rs : Array ResultVar) (R : Value → Ents → Prop) : Post
  | .ret, t, ds, S => ds = [] ∧ SemH P m (resultsT rs t) S R
  | .normal, t, ds, S => ds = [] ∧ SemH P m (resultsT rs t) S R
  | _, _, _, _ => False
theorem RunE.returns {fr : Func} {f : FuncId} {b c : Frame} {arr : Array Value} {cs : List Frame} {w : World} {O : Nat → Prop} {F : Ents} {R : Value → Ents → Prop} {k : List Item} (hf : P.funcs[f]? = some fr) (hb : b.fn = f) (hk : b.kind = .normal) (ha : Agree n arr t)
    (hs : SemH P E.m (resultsT fr.results t) S R) (hh : Holds (S ++ F) w O E.m.ro) (hc : ∀ v S' w' O', R v S' → Holds (S' ++ F) w' O' E.m.ro → RunE P E Stop (G (c.finish v) cs) w' O') :
    RunE P E Stop (G { b.st arr [] k with mode := .returning } (c :: cs)) w O := by
  refine Run.step rfl fun w₁ hrel => ?_
  obtain ⟨v, w', es, S', hrun, hb', hh', hes, hR⟩ := hs F O w₁ w₁ #[] (Base.refl O w₁) (by rw [grow_self]; exact hh.rely hrel) (by simp)
  have hrun' : Sem.runT P (results fr arr) w₁ #[] = (.ok v w', es) := by rw [results_eq ha]; exact hrun
  refine ⟨G (c.finish v) cs, w', seen P b.fn es, ?_, ⟨hb'.tape, hb'.os, hb'.output, hb'.size, hb'.keep, fun e he => hes e (seen_sub e he)⟩, hc v S' w' _ hR hh'⟩
  subst hb
  simp [G, stepG, unwind, doReturn, Frame.st, hf, hrun', hk, GStep.after, -Sem.runT_eq]
theorem enter_st {f : FuncId} {fr : Func} {c : Code} (args : Array Value) (hf : P.funcs[f]? = some fr) (hb : fr.body = some c) :
    Frame.enter P f args .normal = (base f).st (args ++ Array.replicate (fr.ntmps - args.size) undef) [] [.code c] := by
  simp [Frame.enter, Frame.st, base, hf, hb, default, instInhabitedFrame.default]
def enterT (args : Array Value) : Tm := fun i => args.getD i undef
theorem agree_enter {ntm : Nat} {args : Array Value} (h : args.size ≤ ntm) : Agree ntm (args ++ Array.replicate (ntm - args.size) undef) (enterT args) := by
  refine ⟨by simp; omega, fun i => ?_⟩
  unfold enterT
  simp only [Array.getD]
  by_cases h1 : i < args.size
  · simp [h1, Array.getElem_append, show i < args.size + (ntm - args.size) by omega]
  · by_cases h2 : i < args.size + (ntm - args.size)
    · simp [h1, h2, Array.getElem_append]
    · simp [h1, h2]
theorem callW_of {f : FuncId} {fr : Func} {c : Code} {args : Array Value} {R : Value → Ents → Prop} (hf : P.funcs[f]? = some fr) (hname : (fr.name == "runtime.NumGoroutine") = false) (hb : fr.body = some c) (hargs : args.size ≤ fr.ntmps)
    (h : WP P E f fr.ntmps c (retQ P E.m fr.results R) (enterT args) [] S) : CallW P E f args S R := by
  refine ⟨⟨fr, hf, hname, by rw [hb]; rfl⟩, fun F c' cs w O Stop hh hc => ?_⟩
  rw [enter_st args hf hb]
  refine h F (base f) _ [] (c' :: cs) w O Stop rfl ⟨by simp [base], fun _ => rfl⟩ (agree_enter hargs) hh fun e t' ds' S' arr' w' O' q ha hh' => ?_
  cases e with
  | normal =>
    obtain ⟨rfl, hs⟩ := q
    refine RunE.silent (g' := G { (base f).st arr' [] [] with mode := .returning } (c' :: cs)) rfl (fun _ => by simp [G, stepG, stepG.exec, Frame.st, base, default, instInhabitedFrame.default]) fun w₁ hr => RunE.returns hf rfl rfl ha hs (hh'.rely hr) hc
  | ret =>
    obtain ⟨rfl, hs⟩ := q
    intro k'
    refine RunE.silent (g' := G { (base f).st arr' [] (.code .ret :: k') with mode := .returning } (c' :: cs)) rfl (fun _ => by simp [G, stepG, stepG.exec, Frame.st, base, default, instInhabitedFrame.default]) fun w₁ hr => RunE.returns hf rfl rfl ha hs (hh'.rely hr) hc
  | exit id => exact q.elim
  | goto l => exact q.elim
  | panic c => exact q.elim
  | outgrown => exact q.elim
end
end Go.Proofs.YtpnnmklacialgaaGreat
namespace Go.Proofs.YtpnnmklacialgaaGreat
open Go.Conc
def isSel : Op → Bool
  | .select _ _ => true
  | _ => false
def RoundW (P : Program) (E : Env) (lp : Nat) (f : FuncId) (tmps : Array Value) (assign body : Code) (S : Ents) (R : Value → Ents → Prop) : Prop :=
  ∀ (F : Ents) (c : Frame) (cs : List Frame) (w : World) (O : Nat → Prop) (Stop : StopAt), Holds (S ++ F) w O E.m.ro →
    (∀ v S' w' O', R v S' → Holds (S' ++ F) w' O' E.m.ro → RunE P E Stop (G (c.finish v) cs) w' O') → RunE P E Stop (G (Frame.round lp f tmps assign body .normal) (c :: cs)) w O
theorem RoundW.mono {P : Program} {E : Env} {lp : Nat} {f : FuncId} {tmps : Array Value} {assign body : Code} {S : Ents} {R R' : Value → Ents → Prop} (h : RoundW P E lp f tmps assign body S R) (hr : ∀ v S, R v S → R' v S) : RoundW P E lp f tmps assign body S R' :=
  fun F c cs w O Stop h1 h2 => h F c cs w O Stop h1 fun v S' w' O' q => h2 v S' w' O' (hr _ _ q)
def Exec (P : Program) (E : Env) (n : Nat) (ops : Array Oper) (o : Oper) (t : Tm) (S : Ents) (R : Value → Ents → Prop) : Prop :=
  dstOk n o.dst = true ∧ ((wantB ops t o = false ∧ R undef S) ∨ (wantB ops t o = true ∧ isDefer o.op = false ∧ isSel o.op = false ∧
    (OpH P E.m o (ev t) S R ∨ (∃ f vs, (∀ w, (execOp (ev t) o).runT P w #[] = (.ok (.enter f vs) w, #[])) ∧ CallW P E f vs S R) ∨
      SemH P E.m (execOp (ev t) o) S fun nx S' => ∃ lp f tmps a b, nx = .round lp f tmps a b ∧ RoundW P E lp f tmps a b S' R)))
def VOp (P : Program) (E : Env) (n : Nat) (ops : Array Oper) (o : Oper) (t : Tm) (Z : Ents) (v : Value) : Prop :=
  ∀ S, List.Sublist Z S → Exec P E n ops o t S fun u S' => u = v ∧ S' = S
section
variable {P : Program} {E : Env} {fn n : Nat} {K : Tm → List Deferred → Ents → Prop} {t : Tm} {ds : List Deferred} {S Z : Ents} {ops : Array Oper} {o : Oper}
theorem Exec.mono {R R' : Value → Ents → Prop} (h : Exec P E n ops o t S R) (hr : ∀ v S, R v S → R' v S) : Exec P E n ops o t S R' := by
  refine ⟨h.1, h.2.imp (fun x => ⟨x.1, hr _ _ x.2⟩) fun ⟨a, b, c, d⟩ => ⟨a, b, c, d.imp (fun x => semH_mono x fun a S ⟨v, h1, h2⟩ => ⟨v, h1, hr _ _ h2⟩) fun y => y.imp (fun ⟨f, vs, h1, h2⟩ => ⟨f, vs, h1, h2.mono hr⟩) fun z => semH_mono z fun nx S' ⟨lp, f, tm, a, b, h1, h2⟩ => ⟨lp, f, tm, a, b, h1, h2.mono hr⟩⟩⟩
theorem ops_exec {i : Nat} {rest : List Nat} {R : Value → Ents → Prop} (ho : ops[i]? = some o) (hx : Exec P E n ops o t S R) (h : ∀ v S', R v S' → OpsW P E fn n ops rest K (updo t o.dst v) ds S') :
    OpsW P E fn n ops (i :: rest) K t ds S := by
  obtain ⟨hd, ⟨hw, hr⟩ | ⟨hw, hdf, hsel, hr | ⟨f, vs, hrun, hr⟩ | hr⟩⟩ := hx
  · exact ops_unwanted ho hw hd (h _ _ hr)
  · exact ops_op ho hw hdf hd hr h
  · intro F b arr k cs w O Stop suf h1 h2 h3 h4 h5
    rw [List.cons_append]
    refine RunE.silent (g' := G (Frame.enter P f vs .normal) (b.st arr ds (.inRegion ops (i :: (rest ++ suf)) :: k) :: cs)) rfl (fun w₁ => ?_) fun w₁ hrel => ?_
    · rw [st_oper h3 ho hw hdf]
      unfold stepG.apply
      have hk : (b.kind == CallKind.early) = false := by simpa using h2.1
      simp [hrun, -Sem.runT_eq, G, Frame.st, hk, GStep.after, seen_none]
    · refine hr.2 F _ cs w₁ O Stop (h4.rely hrel) fun v S' w' O' hR hh => ?_
      rw [finish_st ho]
      exact h v S' hR F b _ k cs w' O' Stop suf h1 h2 (h3.seto hd v) hh h5
  · intro F b arr k cs w O Stop suf h1 h2 h3 h4 h5
    rw [List.cons_append]
    refine Run.step rfl fun w₁ hrel => ?_
    obtain ⟨nx, w', es, S', hrun, hb, hh, hes, lp, f, tm, a, c, rfl, hR⟩ := hr F O w₁ w₁ #[] (Base.refl O w₁) (by rw [grow_self]; exact h4.rely hrel) (by simp)
    have hk : (b.kind == CallKind.early) = false := by simpa using h2.1
    have hrun' : Sem.runT P (execOp (ev t) o) w₁ #[] = (.ok (.round lp f tm a c) w', es) := hrun
    refine ⟨G (Frame.round lp f tm a c .normal) (b.st arr ds (.inRegion ops (i :: (rest ++ suf)) :: k) :: cs), w', seen P b.fn es, ?_, ⟨hb.tape, hb.os, hb.output, hb.size, hb.keep, fun e he => hes e (seen_sub e he)⟩, ?_⟩
    · rw [st_oper h3 ho hw hdf]
      unfold stepG.apply
      simp [hrun', -Sem.runT_eq, G, Frame.st, hk, GStep.after]
    · refine hR F _ cs w' _ Stop hh fun v S' w' O' hR hh => ?_
      rw [finish_st ho]
      exact h v S' hR F b _ k cs w' O' Stop suf h1 h2 (h3.seto hd v) hh h5
theorem ev_updo {d : Option Nat} {v : Value} {x : Operand} (h : ∀ k, d = some k → x ≠ .tmp k) : ev (updo t d v) x = ev t x := by
  cases d with
  | none => rfl
  | some k =>
    cases x with
    | tmp j =>
      have : j ≠ k := fun e => h k rfl (by rw [e])
      simp [ev, updo, upd, beq_ne this]
    | const c => rfl
    | global g => rfl
    | func f => rfl
theorem exec_eq {d : Option Nat} {v : Value} (hs : isSel o.op = false) (h : ∀ k, d = some k → k ∉ o.looksAt ops) : execOp (ev (updo t d v)) o = execOp (ev t) o :=
  execOp_congr o (fun cs b e => by rw [e] at hs; cases hs) fun x hx => ev_updo fun k hk hxk => h k hk (by
    subst hxk
    exact List.mem_append_left _ (List.mem_filterMap.2 ⟨.tmp k, by simpa using hx, rfl⟩))
theorem want_eq {d : Option Nat} {v : Value} (h : ∀ k, d = some k → k ∉ o.looksAt ops) : wantB ops (updo t d v) o = wantB ops t o := by
  cases d with
  | none => rfl
  | some k =>
    have h := h k rfl
    unfold wantB
    unfold Oper.looksAt at h
    cases hg : o.guard with
    | none => rfl
    | some p =>
      obtain ⟨j, w⟩ := p
      simp only [hg, List.mem_append, not_or] at h
      simp only
      cases hd : (ops[j]?).bind (·.dst) with
      | none => rfl
      | some e =>
        have : e ≠ k := fun x => h.2 (by simp [hd, x])
        simp only [updo, upd, beq_ne this, cond_false]
theorem Exec.apart {d : Option Nat} {v : Value} {R : Value → Ents → Prop} (h : ∀ k, d = some k → k ∉ o.looksAt ops) : Exec P E n ops o (updo t d v) S R ↔ Exec P E n ops o t S R := by
  unfold Exec OpH
  rw [want_eq h]
  constructor
  · rintro ⟨h1, h2 | ⟨h2, h3, h4, h5⟩⟩
    · exact ⟨h1, .inl h2⟩
    · rw [exec_eq h4 h] at h5
      exact ⟨h1, .inr ⟨h2, h3, h4, h5⟩⟩
  · rintro ⟨h1, h2 | ⟨h2, h3, h4, h5⟩⟩
    · exact ⟨h1, .inl h2⟩
    · rw [← exec_eq (v := v) h4 h] at h5
      exact ⟨h1, .inr ⟨h2, h3, h4, h5⟩⟩
theorem upd_comm {a b : Nat} {u v : Value} (h : a ≠ b) : upd (upd t a u) b v = upd (upd t b v) a u := by
  funext j
  unfold upd
  by_cases h1 : j = b
  · subst h1; simp [beq_ne (Ne.symm h)]
  · simp [beq_ne h1]
theorem updo_comm {x y : Option Nat} {u v : Value} (h : ∀ d, x = some d → y ≠ some d) : updo (updo t x u) y v = updo (updo t y v) x u := by
  cases x with
  | none => rfl
  | some a =>
    cases y with
    | none => rfl
    | some b => exact upd_comm fun e => h a rfl (by rw [e])
def bnd (e : Edge) : Bool := Region.binds .any e
def isAct : Op → Bool
  | .move _ | .assign _ | .pick _ _ _ | .unOp _ _ _ | .binOp _ _ _ _ _ | .extract _ _ | .makeFunc _ _ _ | .load _ _ | .fieldAddr _ _ _ | .indexAddr _ _ _ | .field _ _ _ | .index _ _ _ | .convert _ _ _ | .build _ _ | .nilCheck _ | .slice _ _ _ _ _ => false
  | .call c => match c.callee with
    | .builtin .len | .builtin .cap | .builtin .min | .builtin .max => false
    | _ => true
  | _ => true
def actAt (ops : Array Oper) (k : Nat) : Bool := match ops[k]? with | some o => isAct o.op | none => true
def Rdy (ops : Array Oper) (M : Nat → Prop) (j : Nat) : Prop := M j ∧ ∃ o, ops[j]? = some o ∧ ∀ e ∈ o.after, bnd e = true → ¬ M e.on
inductive Reach (ops : Array Oper) (M : Nat → Prop) (i : Nat) : Nat → Prop
  | edge {k : Nat} {o : Oper} {e : Edge} : M k → ops[k]? = some o → e ∈ o.after → bnd e = true → e.on = i → Reach ops M i k
  | step {m k : Nat} {o : Oper} {e : Edge} : Reach ops M i m → M k → ops[k]? = some o → e ∈ o.after → bnd e = true → e.on = m → Reach ops M i k
def without (M : Nat → Prop) (i : Nat) : Nat → Prop := fun x => M x ∧ x ≠ i
theorem Reach.mem {M : Nat → Prop} {i k : Nat} (h : Reach ops M i k) : M k := by cases h <;> assumption
theorem Reach.not_ready {M : Nat → Prop} {i k : Nat} (hi : M i) (h : Reach ops M i k) : ¬ Rdy ops M k := by
  rintro ⟨_, o', ho', hall⟩
  cases h with
  | edge h1 h2 h3 h4 h5 =>
    rw [ho'] at h2; cases h2
    exact hall _ h3 h4 (h5 ▸ hi)
  | step h0 h1 h2 h3 h4 h5 =>
    rw [ho'] at h2; cases h2
    exact hall _ h3 h4 (h5 ▸ h0.mem)
theorem Reach.without {M : Nat → Prop} {i j k : Nat} (hi : M i) (hj : Rdy ops M j) (h : Reach ops M i k) : Reach ops (without M j) i k := by
  induction h with
  | edge h1 h2 h3 h4 h5 => exact .edge ⟨h1, fun e => (Reach.edge h1 h2 h3 h4 h5 : Reach ops M i _).not_ready hi (e ▸ hj)⟩ h2 h3 h4 h5
  | step h0 h1 h2 h3 h4 h5 ih => exact .step ih ⟨h1, fun e => (Reach.step h0 h1 h2 h3 h4 h5 : Reach ops M i _).not_ready hi (e ▸ hj)⟩ h2 h3 h4 h5
theorem Rdy.without {M : Nat → Prop} {i j : Nat} (hj : Rdy ops M j) (h : j ≠ i) : Rdy ops (without M i) j := by
  obtain ⟨h1, o, ho, hall⟩ := hj
  exact ⟨⟨h1, h⟩, o, ho, fun e he hb hx => hall e he hb hx.1⟩
theorem without_comm (M : Nat → Prop) (i j : Nat) : without (without M i) j = without (without M j) i := by
  funext x
  exact propext ⟨fun h => ⟨⟨h.1.1, h.2⟩, h.1.2⟩, fun h => ⟨⟨h.1.1, h.2⟩, h.1.2⟩⟩
variable (P E n ops) in
inductive Any (B : Nat → Prop) (K : Tm → Ents → Prop) : Ents → (Nat → Prop) → Tm → Ents → Prop
  | done {Z : Ents} {M : Nat → Prop} {t : Tm} {S : Ents} : (∀ j, ¬ M j) → K t S → Any B K Z M t S
  | val {Z Zi : Ents} {M : Nat → Prop} {t : Tm} {S : Ents} {i : Nat} {o : Oper} {v : Value} : Rdy ops M i → ops[i]? = some o → isAct o.op = false → VOp P E n ops o t Zi v → List.Sublist Zi S →
      (∀ k ok, M k → k ≠ i → ops[k]? = some ok → Reach ops M i k ∨ (o.apart ops ok = true ∧ (isAct ok.op = true → ¬ B k ∧ List.Sublist Zi Z))) → Any B K Z (without M i) (updo t o.dst v) S → Any B K Z M t S
  | all0 {Z : Ents} {M : Nat → Prop} {t : Tm} {S : Ents} (o : Nat → Oper) (R : Nat → Value → Ents → Prop) (Z' : Nat → Value → Ents → Ents) : (∃ j, Rdy ops M j) →
      (∀ j, Rdy ops M j → ops[j]? = some (o j) ∧ isAct (o j).op = true ∧ Exec P E n ops (o j) t S (R j)) → (∀ j v S', Rdy ops M j → R j v S' → (¬ B j → List.Sublist Z (Z' j v S')) ∧ List.Sublist (Z' j v S') S') →
      (∀ j v S', Rdy ops M j → R j v S' → Any B K (Z' j v S') (without M j) (updo t (o j).dst v) S') → Any B K Z M t S
theorem Any.all {B : Nat → Prop} {K : Tm → Ents → Prop} {Z : Ents} {M : Nat → Prop} {t : Tm} {S : Ents} (h0 : ∃ j, Rdy ops M j)
    (h : ∀ j, Rdy ops M j → ∃ o, ops[j]? = some o ∧ isAct o.op = true ∧ ∃ R, Exec P E n ops o t S R ∧ ∀ v S', R v S' → ∃ Z', (¬ B j → List.Sublist Z Z') ∧ List.Sublist Z' S' ∧ Any P E n ops B K Z' (without M j) (updo t o.dst v) S') : Any P E n ops B K Z M t S := by
  classical
  refine .all0 (fun j => if hj : Rdy ops M j then (h j hj).choose else default) (fun j => if hj : Rdy ops M j then (h j hj).choose_spec.2.2.choose else fun _ _ => False)
    (fun j v S' => if hj : Rdy ops M j then (if hr : (h j hj).choose_spec.2.2.choose v S' then ((h j hj).choose_spec.2.2.choose_spec.2 v S' hr).choose else []) else []) h0 (fun j hj => ?_) (fun j v S' hj hr => ?_) fun j v S' hj hr => ?_
  · simp only [hj, dif_pos]
    exact ⟨(h j hj).choose_spec.1, (h j hj).choose_spec.2.1, (h j hj).choose_spec.2.2.choose_spec.1⟩
  · simp only [hj, dif_pos] at hr ⊢
    simp only [hr, dif_pos]
    exact ⟨((h j hj).choose_spec.2.2.choose_spec.2 v S' hr).choose_spec.1, ((h j hj).choose_spec.2.2.choose_spec.2 v S' hr).choose_spec.2.1⟩
  · simp only [hj, dif_pos] at hr ⊢
    simp only [hr, dif_pos]
    exact ((h j hj).choose_spec.2.2.choose_spec.2 v S' hr).choose_spec.2.2
theorem Any.move {B : Nat → Prop} {K : Tm → Ents → Prop} {Z : Ents} {M : Nat → Prop} {t : Tm} {S : Ents} (h : Any P E n ops B K Z M t S) : ∀ j, Rdy ops M j → ∃ o, ops[j]? = some o ∧
    ((isAct o.op = false ∧ ∃ v, Exec P E n ops o t S (fun u S' => u = v ∧ S' = S) ∧ Any P E n ops B K Z (without M j) (updo t o.dst v) S) ∨
     (isAct o.op = true ∧ ∃ R, Exec P E n ops o t S R ∧ ∀ v S', R v S' → ∃ Z', (¬ B j → List.Sublist Z Z') ∧ List.Sublist Z' S' ∧ Any P E n ops B K Z' (without M j) (updo t o.dst v) S')) := by
  induction h with
  | done hM _ => exact fun j hj => absurd hj.1 (hM j)
  | all0 o R Z' _ h1 h2 h3 ih =>
    intro j hj
    exact ⟨o j, (h1 j hj).1, .inr ⟨(h1 j hj).2.1, R j, (h1 j hj).2.2, fun v S' hr => ⟨Z' j v S', (h2 j v S' hj hr).1, (h2 j v S' hj hr).2, h3 j v S' hj hr⟩⟩⟩
  | @val Z Zi M t S i o v hr hi hact hv hsub hfree hrest ih =>
    intro j hj
    by_cases hji : j = i
    · subst hji
      exact ⟨o, hi, .inl ⟨hact, v, hv S hsub, hrest⟩⟩
    · obtain ⟨oj, hoj, hcase⟩ := ih j (hj.without hji)
      have hf := (hfree j oj hj.1 hji hoj).resolve_left fun hx => hx.not_ready hr.1 hj
      obtain ⟨ha1, ha2, ha3⟩ := Oper.apart_spec hf.1
      have hfree' : ∀ Z', List.Sublist Z Z' → ∀ k ok, without M j k → k ≠ i → ops[k]? = some ok → Reach ops (without M j) i k ∨ (o.apart ops ok = true ∧ (isAct ok.op = true → ¬ B k ∧ List.Sublist Zi Z')) := fun Z' hz k ok hk hki hok =>
        (hfree k ok hk.1 hki hok).imp (fun hx => hx.without hr.1 hj) fun hx => ⟨hx.1, fun hy => ⟨(hx.2 hy).1, (hx.2 hy).2.trans hz⟩⟩
      refine ⟨oj, hoj, ?_⟩
      rcases hcase with ⟨hc, u, hex, hany⟩ | ⟨hc, R, hex, hany⟩
      · refine .inl ⟨hc, u, (Exec.apart ha1).1 hex, ?_⟩
        refine .val (hr.without (Ne.symm hji)) hi hact (fun S' hS' => (Exec.apart ha3).2 (hv S' hS')) hsub (hfree' Z (List.Sublist.refl _)) ?_
        rw [without_comm, ← updo_comm ha2]
        exact hany
      · refine .inr ⟨hc, R, (Exec.apart ha1).1 hex, fun u S' hR => ?_⟩
        obtain ⟨Z', hz1, hz2, hany⟩ := hany u S' hR
        refine ⟨Z', hz1, hz2, ?_⟩
        have hz1 := hz1 (hf.2 hc).1
        refine .val (hr.without (Ne.symm hji)) hi hact (fun S' hS' => (Exec.apart ha3).2 (hv S' hS')) (((hf.2 hc).2.trans hz1).trans hz2) (hfree' Z' hz1) ?_
        rw [without_comm, ← updo_comm ha2]
        exact hany
theorem Any.ready {B : Nat → Prop} {K : Tm → Ents → Prop} {Z : Ents} {M : Nat → Prop} {t : Tm} {S : Ents} (h : Any P E n ops B K Z M t S) : ((∀ j, ¬ M j) ∧ K t S) ∨ ∃ j, Rdy ops M j := by
  cases h with
  | done h k => exact .inl ⟨h, k⟩
  | val h => exact .inr ⟨_, h⟩
  | all0 _ _ _ h => exact .inr h
def unl (ops : Array Oper) (listed : Array Bool) : Nat → Prop := fun j => j < ops.size ∧ listed.getD j true = false
theorem rdy_iff {listed : Array Bool} (hs : listed.size = ops.size) (hb : ∀ (j : Nat) (o : Oper), ops[j]? = some o → ∀ e ∈ o.after, bnd e = true → e.on < ops.size) {j : Nat} : j ∈ Region.ready .any ops listed ↔ Rdy ops (unl ops listed) j := by
  rw [mem_ready]
  constructor
  · rintro ⟨h1, o, ho, hall⟩
    refine ⟨⟨lt_of_some ho, h1⟩, o, ho, fun e he hbn hx => ?_⟩
    have := hall e he hbn
    have h2 := hx.2
    have h3 : e.on < listed.size := by rw [hs]; exact hx.1
    simp [h3] at this h2
    rw [h2] at this; cases this
  · rintro ⟨⟨h0, h1⟩, o, ho, hall⟩
    refine ⟨h1, o, ho, fun e he hbn => ?_⟩
    have h4 := hb j o ho e he hbn
    have h3 : e.on < listed.size := by rw [hs]; exact h4
    have := hall e he hbn
    unfold unl at this
    simp only [h4, true_and, Bool.not_eq_false] at this
    simpa [h3] using this
theorem unl_set {listed : Array Bool} (hs : listed.size = ops.size) {i : Nat} : unl ops (listed.setIfInBounds i true) = without (unl ops listed) i := by
  funext x
  unfold unl without
  by_cases h : i = x
  · subst h
    refine propext ⟨fun ⟨h1, h2⟩ => ?_, fun h => absurd rfl h.2⟩
    have h3 : i < listed.size := by omega
    simp [h3] at h2
  · rw [getD_set_ne true h]
    exact propext ⟨fun hx => ⟨hx, Ne.symm h⟩, fun hx => hx.1⟩
theorem any_ops {B : Nat → Prop} (hb : ∀ (j : Nat) (o : Oper), ops[j]? = some o → ∀ e ∈ o.after, bnd e = true → e.on < ops.size) {ds : List Deferred} : ∀ (fuel x : Nat) (listed : Array Bool) (Z : Ents) (t : Tm) (S : Ents), listed.size = ops.size → (List.range ops.size).countP (fun j => !listed.getD j true) ≤ fuel →
    Any P E n ops B (fun t S => K t ds S) Z (unl ops listed) t S → OpsW P E fn n ops (Region.linearise.go .any ops fuel x listed []) K t ds S := by
  intro fuel
  induction fuel with
  | zero =>
    intro x listed Z t S hs hc h
    rcases h.ready with ⟨_, hk⟩ | ⟨j, hj⟩
    · exact ops_nil hk
    · exfalso
      have h0 := Nat.le_zero.1 hc
      rw [List.countP_eq_zero] at h0
      exact h0 j (List.mem_range.2 hj.1.1) (by simp [hj.1.2])
  | succ fuel ih =>
    intro x listed Z t S hs hc h
    simp only [Region.linearise.go]
    change OpsW P E fn n ops (match (Region.ready .any ops listed)[x % (Region.ready .any ops listed).length]? with
      | some i => Region.linearise.go .any ops fuel (x / (Region.ready .any ops listed).length) (listed.setIfInBounds i true) [i]
      | none => [].reverse) K t ds S
    cases hi : (Region.ready .any ops listed)[x % (Region.ready .any ops listed).length]? with
    | none =>
      have hnil : Region.ready .any ops listed = [] := by
        cases hr : Region.ready .any ops listed with
        | nil => rfl
        | cons y ys =>
          rw [hr] at hi
          have hlt : x % (y :: ys).length < (y :: ys).length := Nat.mod_lt _ (by simp)
          simp at hi
          simp at hlt
          omega
      rcases h.ready with ⟨_, hk⟩ | ⟨j, hj⟩
      · exact ops_nil hk
      · have := (rdy_iff hs hb).2 hj
        rw [hnil] at this; cases this
    | some i =>
      have hmem := List.mem_of_getElem? hi
      have hrd := (rdy_iff hs hb).1 hmem
      simp only []
      rw [linearise_go_acc, List.reverse_singleton, List.singleton_append]
      have hcount : (List.range ops.size).countP (fun j => !(listed.setIfInBounds i true).getD j true) ≤ fuel := by
        have hlt : (List.range ops.size).countP (fun j => !(listed.setIfInBounds i true).getD j true) < (List.range ops.size).countP (fun j => !listed.getD j true) := by
          have hil : i < listed.size := by rw [hs]; exact hrd.1.1
          have : ∀ l : List Nat, i ∈ l → l.countP (fun j => !(listed.setIfInBounds i true).getD j true) < l.countP (fun j => !listed.getD j true) := by
            intro l
            induction l with
            | nil => intro h; cases h
            | cons a l ihl =>
              intro h
              have hle : l.countP (fun j => !(listed.setIfInBounds i true).getD j true) ≤ l.countP (fun j => !listed.getD j true) := by
                refine List.countP_mono_left fun y _ hy => ?_
                by_cases hyi : i = y
                · subst hyi; simp [hil] at hy
                · rwa [getD_set_ne true hyi] at hy
              by_cases hai : i = a
              · subst hai
                have hu := hrd.1.2
                rw [List.countP_cons_of_neg (by simp [hil]), List.countP_cons_of_pos (by simp [hu])]
                omega
              · have := ihl ((List.mem_cons.1 h).resolve_left hai)
                simp only [List.countP_cons, getD_set_ne true hai]
                omega
          exact this _ (List.mem_range.2 hrd.1.1)
        omega
      obtain ⟨o, ho, ⟨_, v, hx, hany⟩ | ⟨_, R, hx, hany⟩⟩ := h.move i hrd
      · refine ops_exec ho hx fun v' S' hv => ?_
        obtain ⟨rfl, rfl⟩ := hv
        exact ih _ _ Z _ _ (by simp [hs]) hcount (by rw [unl_set hs]; exact hany)
      · refine ops_exec ho hx fun v' S' hv => ?_
        obtain ⟨Z', _, _, hany⟩ := hany v' S' hv
        exact ih _ _ Z' _ _ (by simp [hs]) hcount (by rw [unl_set hs]; exact hany)
end
def mems : List (Nat × Bool) → Nat → Bool
  | [], _ => false
  | p :: l, i => Nat.beq p.1 i || mems l i
def memn : List Nat → Nat → Bool
  | [], _ => false
  | p :: l, i => Nat.beq p i || memn l i
def reach (ops : Array Oper) : List Nat → List (Nat × Bool) → List Nat
  | acc, [] => acc
  | acc, p :: l => match ops[p.1]? with
    | some o => bif o.after.any fun e => bnd e && memn acc e.on then reach ops (p.1 :: acc) l else reach ops acc l
    | none => reach ops acc l
def chk1 (ops : Array Oper) (i : Nat) (z : Bool) (rest : List (Nat × Bool)) : Bool :=
  match ops[i]? with
  | none => false
  | some o => !mems rest i && o.after.all (fun e => !bnd e || (!Nat.beq e.on i && !mems rest e.on)) &&
    (bif isAct o.op then rest.all fun p => match ops[p.1]? with
      | some ok => ok.after.any fun e => bnd e && (Nat.beq e.on i || mems rest e.on)
      | none => false
     else let r := reach ops [i] rest
      rest.all fun p => memn r p.1 || match ops[p.1]? with
        | some ok => o.apart ops ok && ((z && !p.2) || !isAct ok.op)
        | none => false)
def chk (ops : Array Oper) : List (Nat × Bool) → Bool
  | [] => true
  | p :: rest => chk1 ops p.1 p.2 rest && chk ops rest
theorem mems_iff {l : List (Nat × Bool)} {i : Nat} : mems l i = true ↔ ∃ p ∈ l, p.1 = i := by
  induction l with
  | nil => simp [mems]
  | cons p l ih => simp [mems, ih]
theorem memn_iff {l : List Nat} {i : Nat} : memn l i = true ↔ i ∈ l := by
  induction l with
  | nil => simp [memn]
  | cons p l ih =>
    have e : memn (p :: l) i = (Nat.beq p i || memn l i) := rfl
    rw [e, List.mem_cons, Bool.or_eq_true, ih]
    exact ⟨fun h => h.imp (fun h => (Nat.eq_of_beq_eq_true h).symm) id, fun h => h.imp (fun h => by rw [h]; simp) id⟩
def setOf (l : List (Nat × Bool)) : Nat → Prop := fun i => mems l i = true
section
variable {P : Program} {E : Env} {fn n : Nat} {K : Tm → List Deferred → Ents → Prop} {t : Tm} {ds : List Deferred} {S Z : Ents} {ops : Array Oper} {o : Oper} {i : Nat} {z : Bool} {rest l : List (Nat × Bool)}
theorem reach_spec (M : Nat → Prop) : ∀ (l : List (Nat × Bool)) (acc : List Nat), (∀ p ∈ l, M p.1) → (∀ k ∈ acc, k = i ∨ Reach ops M i k) → ∀ k ∈ reach ops acc l, k = i ∨ Reach ops M i k
  | [], acc, _, ha, k, hk => ha k hk
  | p :: l, acc, hl, ha, k, hk => by
    unfold reach at hk
    cases ho : ops[p.1]? with
    | none =>
      simp only [ho] at hk
      exact reach_spec M l acc (fun q hq => hl q (.tail _ hq)) ha k hk
    | some o =>
      simp only [ho] at hk
      cases hb : o.after.any fun e => bnd e && memn acc e.on with
      | false =>
        rw [hb] at hk
        exact reach_spec M l acc (fun q hq => hl q (.tail _ hq)) ha k hk
      | true =>
        rw [hb] at hk
        refine reach_spec M l (p.1 :: acc) (fun q hq => hl q (.tail _ hq)) (fun k hk => ?_) k hk
        rcases List.mem_cons.1 hk with rfl | hk
        · obtain ⟨e, he, hx⟩ := Array.any_eq_true'.1 hb
          simp only [Bool.and_eq_true] at hx
          rcases ha _ (memn_iff.1 hx.2) with h1 | h1
          · exact .inr (.edge (hl p (.head _)) ho he hx.1 h1)
          · exact .inr (.step h1 (hl p (.head _)) ho he hx.1 rfl)
        · exact ha k hk
def DrF (P : Program) (E : Env) (n : Nat) (ops : Array Oper) (l : List (Nat × Bool)) (K : Tm → List Deferred → Ents → Prop) (t : Tm) (ds : List Deferred) (Z S : Ents) : Prop :=
  ∀ B : Nat → Prop, (∀ p ∈ l, ∀ o, ops[p.1]? = some o → isAct o.op = true → (B p.1 ↔ p.2 = true)) → chk ops l = true → List.Sublist Z S → Any P E n ops B (fun t S => K t ds S) Z (setOf l) t S
def DrX (P : Program) (E : Env) (n : Nat) (ops : Array Oper) (i : Nat) (z : Bool) (rest : List (Nat × Bool)) (o : Oper) (K : Tm → List Deferred → Ents → Prop) (t : Tm) (ds : List Deferred) (Zi Z S : Ents) : Prop :=
  ops[i]? = some o → (Zi = bif z then Z else S) → DrF P E n ops ((i, z) :: rest) K t ds Z S
theorem y_end (h : K t ds S) : DrF P E n ops [] K t ds Z S := fun _ _ _ _ => .done (fun j hj => by simp [setOf, mems] at hj) h
theorem setOf_cons (hn : mems rest i = false) : without (setOf ((i, z) :: rest)) i = setOf rest := by
  funext x
  have e : ∀ x, mems ((i, z) :: rest) x = (Nat.beq i x || mems rest x) := fun _ => rfl
  unfold without setOf
  refine propext ⟨fun ⟨h1, h2⟩ => ?_, fun h => ⟨by rw [e, h]; simp, fun e => by subst e; rw [hn] at h; cases h⟩⟩
  rw [e] at h1
  simpa [Ne.symm h2] using h1
theorem chk1_spec (h : chk1 ops i z rest = true) (ho : ops[i]? = some o) : mems rest i = false ∧ Rdy ops (setOf ((i, z) :: rest)) i ∧
    (isAct o.op = true → ∀ j, Rdy ops (setOf ((i, z) :: rest)) j → j = i) ∧
    (isAct o.op = false → ∀ k ok, setOf ((i, z) :: rest) k → k ≠ i → ops[k]? = some ok → Reach ops (setOf ((i, z) :: rest)) i k ∨ (o.apart ops ok = true ∧ (isAct ok.op = true → z = true ∧ ∃ p ∈ rest, p.1 = k ∧ p.2 = false))) := by
  unfold chk1 at h
  simp only [ho, Bool.and_eq_true, Bool.not_eq_true', Array.all_eq_true_iff_forall_mem, Bool.or_eq_true] at h
  obtain ⟨⟨h1, h2⟩, h3⟩ := h
  refine ⟨h1, ⟨by simp [setOf, mems], o, ho, fun e he hb hx => ?_⟩, fun hact j hj => ?_, fun hact k ok hk hki hok => ?_⟩
  · rcases h2 e he with h | h
    · rw [hb] at h; cases h
    · simp only [setOf, mems, Bool.or_eq_true] at hx
      rcases hx with hx | hx
      · have := Nat.eq_of_beq_eq_true hx
        rw [this] at h; simp at h
      · rw [h.2] at hx; cases hx
  · simp only [hact, cond_true, List.all_eq_true] at h3
    obtain ⟨hj1, o', ho', hall⟩ := hj
    simp only [setOf, mems, Bool.or_eq_true] at hj1
    rcases hj1 with hj1 | hj1
    · exact (Nat.eq_of_beq_eq_true hj1).symm
    · exfalso
      obtain ⟨p, hp, hpj⟩ := mems_iff.1 hj1
      have := h3 p hp
      rw [hpj, ho'] at this
      simp only at this
      obtain ⟨e, he, hx⟩ := Array.any_eq_true'.1 this
      simp only [Bool.and_eq_true, Bool.or_eq_true] at hx
      refine hall e he hx.1 ?_
      simp only [setOf, mems, Bool.or_eq_true]
      exact hx.2.imp (fun h => by rw [Nat.eq_of_beq_eq_true h]; simp) id
  · simp only [hact, cond_false, List.all_eq_true, Bool.or_eq_true] at h3
    simp only [setOf, mems, Bool.or_eq_true] at hk
    rcases hk with hk | hk
    · exact absurd (Nat.eq_of_beq_eq_true hk).symm hki
    · obtain ⟨p, hp, hpj⟩ := mems_iff.1 hk
      rcases h3 p hp with h | h
      · rw [hpj] at h
        rcases reach_spec (setOf ((i, z) :: rest)) rest [i] (fun q hq => by simp only [setOf, mems, Bool.or_eq_true]; exact .inr (mems_iff.2 ⟨q, hq, rfl⟩)) (fun k hk => .inl (by simpa using hk)) k (memn_iff.1 h) with h | h
        · exact absurd h hki
        · exact .inl h
      · rw [hpj, hok] at h
        simp only [Bool.and_eq_true, Bool.or_eq_true, Bool.not_eq_true'] at h
        exact .inr ⟨h.1, fun hy => let h2 := h.2.resolve_right (by rw [hy]; simp); ⟨h2.1, p, hp, hpj, h2.2⟩⟩
theorem y_V {Zi : Ents} {v : Value} (hact : isAct o.op = false) (hv : VOp P E n ops o t Zi v) (h : DrF P E n ops rest K (updo t o.dst v) ds Z S) : DrX P E n ops i z rest o K t ds Zi Z S := by
  intro ho hz B hB hc hs
  simp only [chk, Bool.and_eq_true] at hc
  obtain ⟨h1, h2, _, h4⟩ := chk1_spec hc.1 ho
  have hzs : List.Sublist Zi S := by rw [hz]; cases z <;> simp [hs]
  refine .val h2 ho hact hv hzs (fun k ok hk hki hok => (h4 hact k ok hk hki hok).imp id fun hx => ⟨hx.1, fun hy => ?_⟩) ?_
  · obtain ⟨hz1, p, hp, hpk, hp2⟩ := hx.2 hy
    subst hpk
    exact ⟨fun hb => (by have := (hB p (.tail _ hp) ok hok hy).1 hb; rw [hp2] at this; cases this), by rw [hz, hz1]; exact List.Sublist.refl _⟩
  · rw [setOf_cons h1]
    exact h B (fun p hp => hB p (.tail _ hp)) hc.2 hs
theorem y_A {Zi : Ents} {R : Value → Ents → Prop} (hact : isAct o.op = true) (hx : Exec P E n ops o t S R) (h : ∀ v S', R v S' → ∃ Z', (z = false → List.Sublist Z Z') ∧ List.Sublist Z' S' ∧ DrF P E n ops rest K (updo t o.dst v) ds Z' S') : DrX P E n ops i z rest o K t ds Zi Z S := by
  intro ho hz B hB hc hs
  simp only [chk, Bool.and_eq_true] at hc
  obtain ⟨h1, h2, h3, _⟩ := chk1_spec hc.1 ho
  refine .all ⟨i, h2⟩ fun j hj => ?_
  obtain rfl := h3 hact j hj
  refine ⟨o, ho, hact, R, hx, fun v S' hR => ?_⟩
  obtain ⟨Z', z1, z2, hd⟩ := h v S' hR
  exact ⟨Z', fun hb => z1 (by
    cases hz2 : z with
    | false => rfl
    | true => exact absurd ((hB (j, z) (.head _) o ho hact).2 hz2) hb), z2, by rw [setOf_cons h1]; exact hd B (fun p hp => hB p (.tail _ hp)) hc.2 z2⟩
def full (ops : Array Oper) (l : List (Nat × Bool)) : Bool :=
  chk ops l && l.all (fun p => Nat.blt p.1 ops.size) && (List.range ops.size).all (mems l) && ops.all fun o => o.after.all fun e => !bnd e || Nat.blt e.on ops.size
theorem w_drawn0 {id : Nat} {Q : Post} (l : List (Nat × Bool)) (B : Nat → Prop) (hm : P.follows .mixedOrders = true) (f2 : ∀ p ∈ l, Nat.blt p.1 ops.size = true) (f3 : ∀ i ∈ List.range ops.size, mems l i = true) (f4 : (ops.all fun o => o.after.all fun e => !bnd e || Nat.blt e.on ops.size) = true) (h : Any P E n ops B (fun t S => Q .normal t ds S) Z (setOf l) t S) : WP P E fn n (.region id ops true) Q t ds S := by
  intro F b arr k cs w O Stop h1 h2 h3 h4 h5
  simp only [Array.all_eq_true_iff_forall_mem, Bool.or_eq_true, Bool.not_eq_true'] at f4
  have hb : ∀ (j : Nat) (o : Oper), ops[j]? = some o → ∀ e ∈ o.after, bnd e = true → e.on < ops.size := fun j o ho e he hbn => by
    rcases f4 o (Array.mem_of_getElem? ho) e he with h | h
    · rw [hbn] at h; cases h
    · simp [Nat.blt] at h; omega
  have hset : setOf l = unl ops (Array.replicate ops.size false) := by
    funext x
    unfold setOf unl
    refine propext ⟨fun hx => ?_, fun ⟨hx, _⟩ => f3 x (List.mem_range.2 hx)⟩
    obtain ⟨p, hp, rfl⟩ := mems_iff.1 hx
    have : p.1 < ops.size := by have := f2 p hp; simp [Nat.blt] at this; omega
    exact ⟨this, by simp [this]⟩
  have key0 : ∀ x, OpsW P E fn n ops (Region.schedule (P.follows .mixedOrders) ops x) (Q .normal) t ds S := fun x => by
    simp only [Region.schedule, hm, Bool.true_or, if_true]
    exact any_ops hb ops.size x _ Z t S (by simp) (by
      have := List.countP_le_length (l := List.range ops.size) (p := fun j => !(Array.replicate ops.size false).getD j true)
      simpa using this) (by rw [← hset]; exact h)
  have key : ∀ (x : Nat) (w : World), Holds (S ++ F) w O E.m.ro → RunE P E Stop (G (b.st arr ds (.inRegion ops (Region.schedule (P.follows .mixedOrders) ops x) :: k)) cs) w O := fun x w hh => by
    have := key0 x F b arr k cs w O Stop [] h1 h2 h3 hh fun t' ds' S' arr' w' O' q ha hh => RunE.silent rfl (fun _ => st_region_end) fun w₂ hr₂ => RunE.rely (h5 .normal t' ds' S' arr' w' O' q ha hh) hr₂
    rwa [List.append_nil] at this
  refine Run.step rfl fun w₁ hrel => ?_
  have hst : ∀ (x : Nat) (w₂ : World), (choose (.order b.fn id)).run P w₁ = .ok x w₂ → stepG P E.main (G (b.st arr ds (.code (.region id ops true) :: k)) cs) w₁ = .go (G (b.st arr ds (.inRegion ops (Region.schedule (P.follows .mixedOrders) ops x) :: k)) cs) w₂ := by
    intro x w₂ hx
    simp [G, stepG, stepG.exec, Frame.st, hx]
  by_cases hfo : (Question.order b.fn id).forced = true
  · refine ⟨_, w₁, #[], hst 0 w₁ (by simp [choose, Sem.run, hfo]), Guar.idle _ _ _, ?_⟩
    rw [grow_self]
    exact key 0 w₁ (h4.rely hrel)
  · have e : (choose (.order b.fn id)).run P w₁ = .ok ((Question.order b.fn id).cut (w₁.tape w₁.drawn (.order b.fn id))) { w₁ with drawn := w₁.drawn + 1 } := by simp [choose, Sem.run, hfo]
    refine ⟨_, { w₁ with drawn := w₁.drawn + 1 }, #[], hst _ _ e, ⟨rfl, rfl, rfl, Nat.le_refl _, fun _ _ _ => rfl, fun _ h => by simp at h⟩, ?_⟩
    have hh := h4.rely hrel
    have hg : grow O w₁ { w₁ with drawn := w₁.drawn + 1 } = O := grow_self O w₁
    rw [hg]
    exact key _ _ ⟨hh.each, hh.apart⟩
theorem w_drawn {id : Nat} {Q : Post} (l : List (Nat × Bool)) (Z : Ents) (hm : P.follows .mixedOrders = true) (hf : full ops l = true) (hz : List.Sublist Z S) (h : DrF P E n ops l (Q .normal) t ds Z S) : WP P E fn n (.region id ops true) Q t ds S := by
  intro F b arr k cs w O Stop h1 h2 h3 h4 h5
  simp only [full, Bool.and_eq_true, List.all_eq_true, Array.all_eq_true_iff_forall_mem, Bool.or_eq_true, Bool.not_eq_true'] at hf
  obtain ⟨⟨⟨f1, f2⟩, f3⟩, f4⟩ := hf
  have hb : ∀ (j : Nat) (o : Oper), ops[j]? = some o → ∀ e ∈ o.after, bnd e = true → e.on < ops.size := fun j o ho e he hbn => by
    rcases f4 o (Array.mem_of_getElem? ho) e he with h | h
    · rw [hbn] at h; cases h
    · simp [Nat.blt] at h; omega
  have hset : setOf l = unl ops (Array.replicate ops.size false) := by
    funext x
    unfold setOf unl
    refine propext ⟨fun hx => ?_, fun ⟨hx, _⟩ => f3 x (List.mem_range.2 hx)⟩
    obtain ⟨p, hp, rfl⟩ := mems_iff.1 hx
    have : p.1 < ops.size := by have := f2 p hp; simp [Nat.blt] at this; omega
    exact ⟨this, by simp [this]⟩
  have huniq : ∀ l : List (Nat × Bool), chk ops l = true → ∀ i a b, (i, a) ∈ l → (i, b) ∈ l → a = b := by
    intro l
    induction l with
    | nil => intro _ i a b h; cases h
    | cons q l ih =>
      intro hc i a b h1 h2
      simp only [chk, Bool.and_eq_true] at hc
      have hno : mems l q.1 = false := by
        have hq := hc.1
        unfold chk1 at hq
        cases ho : ops[q.1]? with
        | none => simp [ho] at hq
        | some o =>
          simp only [ho, Bool.and_eq_true, Bool.not_eq_true'] at hq
          exact hq.1.1
      have hn : ∀ c, (q.1, c) ∉ l := fun c hm => by
        have := mems_iff.2 ⟨_, hm, rfl⟩
        rw [hno] at this; cases this
      rcases List.mem_cons.1 h1 with rfl | h1' <;> rcases List.mem_cons.1 h2 with h2' | h2'
      · exact (Prod.mk.inj h2').2.symm
      · exact absurd h2' (hn b)
      · subst h2'; exact absurd h1' (hn a)
      · exact ih hc.2 i a b h1' h2'
  have key0 : ∀ x, OpsW P E fn n ops (Region.schedule (P.follows .mixedOrders) ops x) (Q .normal) t ds S := fun x => by
    simp only [Region.schedule, hm, Bool.true_or, if_true]
    exact any_ops hb ops.size x _ Z t S (by simp) (by
      have := List.countP_le_length (l := List.range ops.size) (p := fun j => !(Array.replicate ops.size false).getD j true)
      simpa using this) (by rw [← hset]; exact h (fun k => (k, true) ∈ l) (fun p hp o ho ha => ⟨fun hm => huniq l f1 p.1 p.2 true hp hm, fun hm => hm ▸ hp⟩) f1 hz)
  have key : ∀ (x : Nat) (w : World), Holds (S ++ F) w O E.m.ro → RunE P E Stop (G (b.st arr ds (.inRegion ops (Region.schedule (P.follows .mixedOrders) ops x) :: k)) cs) w O := fun x w hh => by
    have := key0 x F b arr k cs w O Stop [] h1 h2 h3 hh fun t' ds' S' arr' w' O' q ha hh => RunE.silent rfl (fun _ => st_region_end) fun w₂ hr₂ => RunE.rely (h5 .normal t' ds' S' arr' w' O' q ha hh) hr₂
    rwa [List.append_nil] at this
  refine Run.step rfl fun w₁ hrel => ?_
  have hst : ∀ (x : Nat) (w₂ : World), (choose (.order b.fn id)).run P w₁ = .ok x w₂ → stepG P E.main (G (b.st arr ds (.code (.region id ops true) :: k)) cs) w₁ = .go (G (b.st arr ds (.inRegion ops (Region.schedule (P.follows .mixedOrders) ops x) :: k)) cs) w₂ := by
    intro x w₂ hx
    simp [G, stepG, stepG.exec, Frame.st, hx]
  by_cases hfo : (Question.order b.fn id).forced = true
  · refine ⟨_, w₁, #[], hst 0 w₁ (by simp [choose, Sem.run, hfo]), Guar.idle _ _ _, ?_⟩
    rw [grow_self]
    exact key 0 w₁ (h4.rely hrel)
  · have e : (choose (.order b.fn id)).run P w₁ = .ok ((Question.order b.fn id).cut (w₁.tape w₁.drawn (.order b.fn id))) { w₁ with drawn := w₁.drawn + 1 } := by simp [choose, Sem.run, hfo]
    refine ⟨_, { w₁ with drawn := w₁.drawn + 1 }, #[], hst _ _ e, ⟨rfl, rfl, rfl, Nat.le_refl _, fun _ _ _ => rfl, fun _ h => by simp at h⟩, ?_⟩
    have hh := h4.rely hrel
    have hg : grow O w₁ { w₁ with drawn := w₁.drawn + 1 } = O := grow_self O w₁
    rw [hg]
    exact key _ _ ⟨hh.each, hh.apart⟩
end
end Go.Proofs.YtpnnmklacialgaaGreat
namespace Go.Proofs.YtpnnmklacialgaaGreat
open Go.Conc
def tyk (P : Program) (t : TypeId) : Option (Bool × Nat) :=
  match P.underlying t, P.info? t with
  | some d, some i => some ((match d with | .struct _ | .array _ _ => true | _ => false), i.size)
  | _, _ => none
def zeroOf (P : Program) (t : TypeId) : Option (Array Value) := ((P.info? t).bind (·.zero)).map (·.cells)
def foff (P : Program) (s f : Nat) : Option Nat :=
  match P.underlying s with
  | some (.struct fs) => match fs[f]? with
    | some x => match P.info? x.type with
      | some i => if i.size = 0 then none else some x.offset
      | none => none
    | none => none
  | _ => none
inductive Tl (S₀ : Ents) : Ents → Prop
  | refl : Tl S₀ S₀
  | cons {e : Ent} {S : Ents} : Tl S₀ S → Tl S₀ (e :: S)
theorem Tl.mem {S₀ S : Ents} (h : Tl S₀ S) {e : Ent} (he : e ∈ S₀) : e ∈ S := by
  induction h with
  | refl => exact he
  | cons _ ih => exact .tail _ ih
theorem Tl.sub {S₀ S : Ents} (h : Tl S₀ S) : List.Sublist S₀ S := by
  induction h with
  | refl => exact List.Sublist.refl _
  | cons _ ih => exact .cons _ ih
section
variable {P : Program} {m : Mode} {S : Ents} {ρ : Operand → Value} {o : Oper} {α : Type}
theorem semH_drop {s : Sem α} {S' : Ents} {R : α → Ents → Prop} (h : SemH P m s S' R) (hs : List.Sublist S' S) : SemH P m s S R :=
  fun F O w₀ w es hb hh he => h F O w₀ w es hb (hh.sub (hs.append_right F)) he
theorem semH_isAgg {t : TypeId} {k : Bool × Nat} {R : Bool → Ents → Prop} (hk : tyk P t = some k) (h : R k.1 S) : SemH P m (isAgg t) S R := by
  unfold tyk at hk
  cases hd : P.underlying t with
  | none => simp [hd] at hk
  | some d =>
    cases hi : P.info? t with
    | none => simp [hd, hi] at hk
    | some i =>
      simp only [hd, hi, Option.some.injEq] at hk
      subst hk
      unfold isAgg
      refine semH_bind (semH_underlying hd ?_)
      cases d <;> exact semH_pure h
theorem semH_sizeOf {t : TypeId} {k : Bool × Nat} {R : Nat → Ents → Prop} (hk : tyk P t = some k) (h : R k.2 S) : SemH P m (sizeOf t) S R := by
  unfold tyk at hk
  cases hd : P.underlying t with
  | none => simp [hd] at hk
  | some d =>
    cases hi : P.info? t with
    | none => simp [hd, hi] at hk
    | some i =>
      simp only [hd, hi, Option.some.injEq] at hk
      subst hk
      unfold sizeOf
      exact semH_bind (semH_typeInfo hi (semH_pure h))
theorem semH_zero {t : TypeId} {cs : Array Value} {R : Value → Ents → Prop} (hz : zeroOf P t = some cs) (h : ∀ v, v.cells = cs → R v S) : SemH P m (zeroValue t) S R := by
  unfold zeroOf at hz
  cases hi : P.info? t with
  | none => simp [hi] at hz
  | some i =>
    cases hv : i.zero with
    | none => simp [hi, hv] at hz
    | some v =>
      simp only [hi, hv, Option.bind_some, Option.map_some, Option.some.injEq] at hz
      unfold zeroValue
      refine semH_bind (semH_typeInfo hi ?_)
      rw [hv]
      exact semH_pure (h v hz)
theorem add_mk (b off : Nat) (n : Nat) : (⟨b, off, none⟩ : Addr).add n = ⟨b, off + n, none⟩ := by
  unfold Addr.add
  split
  · subst_vars; rfl
  · rfl
theorem semH_loadCells {b off : Nat} {mn : Bool} {c : Array Value} {ty : TypeId} {fz : Nat × Nat} (he : ⟨b, mn, .cells c ty fz⟩ ∈ S) :
    ∀ (n i : Nat) (acc : Array Value) {R : Array Value → Ents → Prop}, off + i + n ≤ c.size → R (acc ++ c.extract (off + i) (off + i + n)) S → SemH P m (loadCellsFrom ⟨b, off, none⟩ i n acc) S R
  | 0, i, acc, R, hl, h => by
    refine semH_pure ?_
    have : c.extract (off + i) (off + i + 0) = #[] := by apply Array.ext <;> simp <;> omega
    rw [this] at h
    simpa using h
  | n + 1, i, acc, R, hl, h => by
    have hlt : off + i < c.size := by omega
    unfold loadCellsFrom
    refine semH_bind (semH_load (v := c[off + i]) he ?_ ?_ rfl ?_ ?_)
    · rw [add_mk]
    · rw [add_mk]
    · rw [add_mk]; simp [hlt]
    · refine semH_loadCells he n (i + 1) _ (by omega) ?_
      have e : acc.push c[off + i] ++ c.extract (off + (i + 1)) (off + (i + 1) + n) = acc ++ c.extract (off + i) (off + i + (n + 1)) := by
        apply Array.ext
        · simp; omega
        · intro j h1 h2
          simp only [Array.getElem_append, Array.getElem_push, Array.getElem_extract, Array.size_push]
          split <;> split <;> (try split) <;> first | rfl | omega | (congr 1; omega)
      rw [e]; exact h
theorem op_load1 {d : Option Tmp} {ty s : TypeId} {pos : String} {t' : TypeId} {af : Array Edge} {g : Option (Nat × Bool)} {x : Operand} {b off : Nat} {mn : Bool} {c : Array Value} {ty' : TypeId} {fz : Nat × Nat} {v : Value} {R : Value → Ents → Prop}
    (hk : tyk P ty = some (false, s)) (ha : ρ x = .pointer (some ⟨b, off, none⟩)) (he : ⟨b, mn, .cells c ty' fz⟩ ∈ S) (hv : c[off]? = some v) (h : R v S) : OpH P m ⟨d, .load ty x, t', pos, af, g⟩ ρ S R := by
  refine semH_bind (?_ : SemH P m (Instr.loadAt ty (ρ x)) S _)
  rw [ha]
  unfold Instr.loadAt
  refine semH_bind (semH_pure ?_)
  unfold loadVar
  refine semH_bind (semH_isAgg hk ?_)
  exact semH_load he rfl rfl rfl hv (semH_pure ⟨v, .inl rfl, h⟩)
theorem op_loadA {d : Option Tmp} {ty s : TypeId} {pos : String} {t' : TypeId} {af : Array Edge} {g : Option (Nat × Bool)} {x : Operand} {b off : Nat} {mn : Bool} {c vs : Array Value} {ty' : TypeId} {fz : Nat × Nat} {R : Value → Ents → Prop}
    (hk : tyk P ty = some (true, s)) (ha : ρ x = .pointer (some ⟨b, off, none⟩)) (he : ⟨b, mn, .cells c ty' fz⟩ ∈ S) (hl : off + s ≤ c.size) (hv : c.extract off (off + s) = vs) (h : R (.agg vs) S) : OpH P m ⟨d, .load ty x, t', pos, af, g⟩ ρ S R := by
  refine semH_bind (?_ : SemH P m (Instr.loadAt ty (ρ x)) S _)
  rw [ha]
  unfold Instr.loadAt
  refine semH_bind (semH_pure ?_)
  unfold loadVar
  refine semH_bind (semH_isAgg hk ?_)
  refine semH_bind (semH_sizeOf hk ?_)
  refine semH_bind (semH_loadCells (off := off) he s 0 #[] (by omega) (semH_pure (semH_pure ⟨_, .inl rfl, ?_⟩)))
  simpa [hv] using h
theorem op_loadW {d : Option Tmp} {ty s : TypeId} {pos : String} {t' : TypeId} {af : Array Edge} {g : Option (Nat × Bool)} {x : Operand} {b : Nat} {mn : Bool} {c : Array Value} {ty' : TypeId} {fz : Nat × Nat} {R : Value → Ents → Prop}
    (hk : tyk P ty = some (true, s)) (ha : ρ x = .pointer (some ⟨b, 0, none⟩)) (he : ⟨b, mn, .cells c ty' fz⟩ ∈ S) (hl : c.size = s) (h : R (.agg c) S) : OpH P m ⟨d, .load ty x, t', pos, af, g⟩ ρ S R :=
  op_loadA hk ha he (by omega) (by rw [← hl]; simp) h
def setCells (c : Array Value) (off : Nat) : List Value → Array Value
  | [] => c
  | v :: vs => setCells (c.setIfInBounds off v) (off + 1) vs
theorem Upd.idle {S S' : Ents} {b : Nat} {o o' : Obj} (hu : Upd S b o o' S') (e : o = o') : S' = S := by
  induction hu with
  | here => rw [e]
  | there _ ih => rw [ih e]
theorem Upd.set {S S' : Ents} {b : Nat} {o o' : Obj} (h : Upd S b o o' S') (o₁ : Obj) : ∃ S₁, Upd S b o o₁ S₁ ∧ Upd S₁ b o₁ o' S' := by
  induction h with
  | here => exact ⟨_, .here, .here⟩
  | there _ ih => obtain ⟨S₁, h1, h2⟩ := ih; exact ⟨_, .there h1, .there h2⟩
theorem semH_storeCells {b off : Nat} {ty : TypeId} : ∀ (vs : List Value) (i : Nat) {c : Array Value} {S S' : Ents} {R : Unit → Ents → Prop}, (vs.all (·.oneCell')) = true → off + i + vs.length ≤ c.size →
    Upd S b (.cells c ty (0, 0)) (.cells (setCells c (off + i) vs) ty (0, 0)) S' → R () S' → SemH P m (storeCells ⟨b, off, none⟩ vs i) S R
  | [], i, c, S, S', R, ho, hl, hu, h => by
    have e : S' = S := hu.idle rfl
    subst e
    exact semH_pure h
  | v :: vs, i, c, S, S', R, ho, hl, hu, h => by
    simp only [List.all_cons, Bool.and_eq_true] at ho
    simp only [List.length_cons] at hl
    unfold storeCells
    obtain ⟨S₁, h1, h2⟩ := hu.set (.cells (c.setIfInBounds (off + i) v) ty (0, 0))
    have e : (⟨b, off, none⟩ : Addr).add i = ⟨b, off + i, none⟩ := add_mk _ _ _
    rw [e]
    refine semH_bind (semH_store (c := c) (ty := ty) (S' := S₁) ho.1 rfl (by show off + i < c.size; omega) h1 ?_)
    exact semH_storeCells vs (i + 1) (c := c.setIfInBounds (off + i) v) ho.2 (by simp; omega) (by simpa [setCells, Nat.add_assoc] using h2) h
theorem op_store {d : Option Tmp} {ty : TypeId} {k : Bool × Nat} {pos : String} {t' : TypeId} {af : Array Edge} {g : Option (Nat × Bool)} {x y : Operand} {b off : Nat} {c cs : Array Value} {ty' : TypeId} {S' : Ents} {R : Value → Ents → Prop}
    (hk : tyk P ty = some k) (ha : ρ x = .pointer (some ⟨b, off, none⟩)) (hc : (ρ y).cells = cs) (hsz : cs.size = k.2) (hone : (cs.toList.all (·.oneCell')) = true) (hl : off + k.2 ≤ c.size)
    (hu : Upd S b (.cells c ty' (0, 0)) (.cells (setCells c off cs.toList) ty' (0, 0)) S') (h : R undef S') : OpH P m ⟨d, .store ty x y, t', pos, af, g⟩ ρ S R := by
  refine semH_bind (?_ : SemH P m (Instr.storeAt ty (ρ x) (ρ y)) S _)
  rw [ha]
  unfold Instr.storeAt
  refine semH_bind (semH_pure ?_)
  unfold storeVar
  refine semH_bind (semH_sizeOf hk ?_)
  rw [hc, if_neg (by omega)]
  refine semH_bind (semH_pure (semH_storeCells (off := off) (c := c) cs.toList 0 hone (by simp; omega) (by simpa using hu) (semH_pure ⟨undef, .inr ⟨rfl, rfl⟩, h⟩)))
theorem setCells_size (off : Nat) : ∀ (vs : List Value) (c : Array Value) (off : Nat), (setCells c off vs).size = c.size
  | [], c, off => rfl
  | v :: vs, c, off => by unfold setCells; rw [setCells_size off vs]; simp
theorem setCells_get : ∀ (vs : List Value) (c : Array Value) (off j : Nat), (setCells c off vs)[j]? = if off ≤ j ∧ j < off + vs.length ∧ j < c.size then vs[j - off]? else c[j]?
  | [], c, off, j => by unfold setCells; rw [if_neg (by simp only [List.length_nil]; omega)]
  | v :: vs, c, off, j => by
    unfold setCells
    rw [setCells_get vs]
    simp only [Array.size_setIfInBounds, List.length_cons, Array.getElem?_setIfInBounds]
    by_cases h1 : off + 1 ≤ j ∧ j < off + 1 + vs.length ∧ j < c.size
    · rw [if_pos h1, if_pos (by omega)]
      obtain ⟨j', rfl⟩ : ∃ j', j = off + 1 + j' := ⟨j - (off + 1), by omega⟩
      rw [show off + 1 + j' - (off + 1) = j' by omega, show off + 1 + j' - off = j' + 1 by omega]
      rfl
    · rw [if_neg h1]
      by_cases h2 : off = j
      · subst h2
        by_cases h3 : off < c.size
        · rw [if_pos rfl, if_pos h3, if_pos (by omega)]; simp
        · rw [if_pos rfl, if_neg h3, if_neg (by omega)]; simp [h3]
      · rw [if_neg h2, if_neg (by omega)]
theorem setCells_whole {c cs : Array Value} (h : cs.size = c.size) : setCells c 0 cs.toList = cs := by
  apply Array.ext_getElem?
  intro i
  rw [setCells_get]
  by_cases hi : i < c.size
  · rw [if_pos (by simp; omega)]; simp
  · rw [if_neg (by omega)]
    simp [hi, show ¬ i < cs.size by omega]
theorem op_storeW {d : Option Tmp} {ty : TypeId} {k : Bool × Nat} {pos : String} {t' : TypeId} {af : Array Edge} {g : Option (Nat × Bool)} {x y : Operand} {b : Nat} {c cs : Array Value} {ty' : TypeId} {S' : Ents} {R : Value → Ents → Prop}
    (hk : tyk P ty = some k) (ha : ρ x = .pointer (some ⟨b, 0, none⟩)) (hc : (ρ y).cells = cs) (hsz : cs.size = k.2) (hone : (cs.toList.all (·.oneCell')) = true) (hl : c.size = k.2)
    (hu : Upd S b (.cells c ty' (0, 0)) (.cells cs ty' (0, 0)) S') (h : R undef S') : OpH P m ⟨d, .store ty x y, t', pos, af, g⟩ ρ S R :=
  op_store (c := c) hk ha hc hsz hone (by omega) (by rw [setCells_whole (by omega)]; exact hu) h
theorem op_alloc {d : Option Tmp} {ty : TypeId} {pos : String} {t' : TypeId} {af : Array Edge} {g : Option (Nat × Bool)} {cs : Array Value} {R : Value → Ents → Prop}
    (hz : zeroOf P ty = some cs) (h : ∀ b, R (.pointer (some ⟨b, 0, none⟩)) (⟨b, true, .cells cs ty (0, 0)⟩ :: S)) : OpH P m ⟨d, .alloc ty, t', pos, af, g⟩ ρ S R := by
  refine semH_bind (?_ : SemH P m (Instr.alloc ty true (.tuple #[])) S _)
  unfold Instr.alloc
  refine semH_bind (semH_zero hz fun v hv => ?_)
  refine semH_bind ?_
  unfold newVar newRow
  refine semH_bind (semH_new fun b => semH_pure (semH_pure (semH_pure ⟨_, .inl rfl, ?_⟩)))
  rw [hv]
  exact h b
theorem op_box {d : Option Tmp} {ty : TypeId} {pos : String} {t' : TypeId} {af : Array Edge} {g : Option (Nat × Bool)} {x : Operand} {cs : Array Value} {R : Value → Ents → Prop}
    (hx : (ρ x).cells = cs) (h : ∀ b, R (.pointer (some ⟨b, 0, none⟩)) (⟨b, true, .cells cs ty (0, 0)⟩ :: S)) : OpH P m ⟨d, .box ty x, t', pos, af, g⟩ ρ S R := by
  refine semH_bind (?_ : SemH P m (Instr.box ty (ρ x)) S _)
  unfold Instr.box newVar newRow
  refine semH_bind (semH_bind (semH_new fun b => semH_pure (semH_pure (semH_pure ⟨_, .inl rfl, ?_⟩))))
  rw [hx]
  exact h b
theorem op_field {d : Option Tmp} {s f k : Nat} {pos : String} {t' : TypeId} {af : Array Edge} {g : Option (Nat × Bool)} {x : Operand} {b off : Nat} {R : Value → Ents → Prop}
    (hf : foff P s f = some k) (ha : ρ x = .pointer (some ⟨b, off, none⟩)) (h : R (.pointer (some ⟨b, off + k, none⟩)) S) : OpH P m ⟨d, .fieldAddr s x f, t', pos, af, g⟩ ρ S R := by
  refine semH_bind (?_ : SemH P m (Instr.fieldAt s (ρ x) f) S _)
  unfold foff at hf
  cases hd : P.underlying s with
  | none => simp [hd] at hf
  | some D =>
    cases D <;> simp only [hd] at hf <;> try (cases hf; done)
    rename_i fs
    cases hx : fs[f]? with
    | none => simp [hx] at hf
    | some y =>
      cases hi : P.info? y.type with
      | none => simp [hx, hi] at hf
      | some i =>
        simp only [hx, hi] at hf
        by_cases h0 : i.size = 0
        · simp [h0] at hf
        · rw [if_neg h0] at hf
          cases hf
          unfold Instr.fieldAt
          refine semH_bind (semH_underlying hd ?_)
          simp only [hx]
          rw [ha]
          refine semH_bind (semH_pure (semH_bind ?_))
          unfold fieldPlace sizeOf
          refine semH_bind (semH_bind (semH_typeInfo hi (semH_pure ?_)))
          rw [if_neg h0, add_mk]
          exact semH_pure (semH_pure (semH_pure ⟨_, .inl rfl, h⟩))
theorem op_index {d : Option Tmp} {ty e : TypeId} {sz : Bool × Nat} {pos : String} {t' : TypeId} {af : Array Edge} {g : Option (Nat × Bool)} {x y : Operand} {b off len cap i : Nat} {k : IntKind} {R : Value → Ents → Prop}
    (hd : P.underlying ty = some (.slice e)) (hk : tyk P e = some sz) (hx : ρ x = .slice (some ⟨b, off, none⟩) len cap) (hy : ρ y = .int k (i : Int)) (hi : i < len) (h : R (.pointer (some ⟨b, off + i * sz.2, none⟩)) S) :
    OpH P m ⟨d, .indexAddr ty x y, t', pos, af, g⟩ ρ S R := by
  refine semH_bind (?_ : SemH P m (Instr.indexAt ty (ρ x) (ρ y)) S _)
  rw [hx, hy]
  unfold Instr.indexAt
  refine semH_bind (semH_pure ?_)
  refine semH_bind (semH_underlying hd ?_)
  refine semH_bind (semH_pure ?_)
  refine semH_bind (semH_underlying hd ?_)
  simp only
  rw [if_pos (by omega)]
  refine semH_bind (semH_sizeOf hk ?_)
  refine semH_pure (semH_pure ⟨_, .inl rfl, ?_⟩)
  rw [add_mk, Int.toNat_natCast]
  exact h
def pureVal (ρ : Operand → Value) : Op → Option Value
  | .move x | .assign x => some (ρ x)
  | .pick c a b => match ρ c with
    | .bool v => some (bif v then ρ a else ρ b)
    | _ => none
  | .unOp .not _ x => match ρ x with
    | .bool v => some (.bool (!v))
    | _ => none
  | .extract x i => match ρ x with
    | .tuple vs => vs[i]?
    | _ => none
  | .makeFunc fn first captured => some (.func fn (first.map ρ) (captured.map ρ))
  | _ => none
theorem op_pure {v : Value} {R : Value → Ents → Prop} (hv : pureVal ρ o.op = some v) (h : R v S) : OpH P m o ρ S R := by
  unfold OpH execOp
  revert hv
  cases o.op <;> intro hv <;> simp only [pureVal] at hv <;> try (cases hv; done)
  · cases hv; exact semH_pure ⟨_, .inl rfl, h⟩
  · cases hv; exact semH_pure ⟨_, .inl rfl, h⟩
  · rename_i c a b
    cases hc : ρ c <;> simp only [hc] at hv <;> try (cases hv; done)
    rename_i bv
    refine semH_bind (?_ : SemH P m (asBool (ρ c)) S _)
    rw [hc]
    refine semH_pure (semH_pure ⟨_, .inl rfl, ?_⟩)
    cases hv
    cases bv <;> exact h
  · rename_i op ty x
    cases op <;> simp only at hv <;> try (cases hv; done)
    cases hc : ρ x <;> simp only [hc] at hv <;> try (cases hv; done)
    cases hv
    refine semH_bind (?_ : SemH P m (Op.unary _ (ρ x)) S _)
    rw [hc]
    exact semH_pure (semH_pure ⟨_, .inl rfl, h⟩)
  · rename_i fn first captured
    cases hv
    refine semH_bind (?_ : SemH P m (Instr.makeFunc _ _ _) S _)
    exact semH_pure (semH_pure ⟨_, .inl rfl, h⟩)
  · rename_i x i
    cases hc : ρ x <;> simp only [hc] at hv <;> try (cases hv; done)
    refine semH_bind (?_ : SemH P m (Instr.extract (ρ x) i) S _)
    simp only [hc, Instr.extract, hv]
    exact semH_pure (semH_pure ⟨_, .inl rfl, h⟩)
theorem op_len {d : Option Tmp} {ty e : TypeId} {pos : String} {t' : TypeId} {af : Array Edge} {g : Option (Nat × Bool)} {x : Operand} {a : Option Addr} {len cap : Nat} {R : Value → Ents → Prop}
    (hd : P.underlying ty = some (.slice e)) (hx : ρ x = .slice a len cap) (h : R (goInt len) S) : OpH P m ⟨d, .call { callee := .builtin .len, args := #[x], argTypes := #[ty] }, t', pos, af, g⟩ ρ S R := by
  unfold OpH execOp
  simp only [resolve]
  refine semH_bind (semH_pure ?_)
  simp only [invoke, builtin]
  refine semH_bind ?_
  unfold Builtin.len_
  simp only [List.map_toArray, List.map_cons, List.map_nil, hx, List.getElem?_toArray, List.getElem?_cons_zero]
  refine semH_bind (semH_underlying hd ?_)
  exact semH_pure (semH_pure ⟨_, .inl rfl, h⟩)
def intVal (op : BinOp) (k : IntKind) (a b : Int) : Option Value :=
  match op with
  | .add => some (.int k (k.wrap (a + b)))
  | .sub => some (.int k (k.wrap (a - b)))
  | .mul => some (.int k (k.wrap (a * b)))
  | .eql => some (.bool (a == b))
  | .neq => some (.bool (a != b))
  | .lss => some (.bool (decide (a < b)))
  | .leq => some (.bool (decide (a ≤ b)))
  | .gtr => some (.bool (decide (a > b)))
  | .geq => some (.bool (decide (a ≥ b)))
  | _ => none
theorem op_int {d : Option Tmp} {op : BinOp} {ty ty' : TypeId} {pos : String} {t' : TypeId} {af : Array Edge} {g : Option (Nat × Bool)} {x y : Operand} {k : IntKind} {a b : Int} {v : Value} {R : Value → Ents → Prop}
    (hx : ρ x = .int k a) (hy : ρ y = .int k b) (hv : intVal op k a b = some v) (h : R v S) : OpH P m ⟨d, .binOp op ty x y ty', t', pos, af, g⟩ ρ S R := by
  refine semH_bind (?_ : SemH P m (do eqGuard op ty x y (ρ x) (ρ y); binOp op ty (ρ x) (ρ y)) S _)
  rw [hx, hy]
  have hg : ∀ R' : Unit → Ents → Prop, R' () S → SemH P m (eqGuard op ty x y (.int k a) (.int k b)) S R' := fun R' hR => by
    unfold eqGuard
    cases op <;> exact semH_pure hR
  refine semH_bind (hg _ ?_)
  cases op <;> simp only [intVal] at hv <;> try (cases hv; done)
  all_goals
    cases hv
    simp only [binOp, ne_eq, not_true_eq_false, if_false, Op.intArith, Op.intCmp]
    exact semH_pure (semH_pure ⟨_, .inl rfl, h⟩)
end
end Go.Proofs.YtpnnmklacialgaaGreat
namespace Go.Proofs.YtpnnmklacialgaaGreat
open Go.Conc
abbrev TL := List (Nat × Value)
def den : TL → Tm → Tm
  | [], t => t
  | (k, v) :: l, t => upd (den l t) k v
def lk : TL → Tm → Nat → Option Value
  | [], t, j => some (t j)
  | (k, v) :: l, t, j => bif Nat.beq j k then some v else lk l t j
def evL (l : TL) (t : Tm) : Operand → Option Value
  | .tmp k => lk l t k
  | .const v => some v
  | .global g => some (.pointer (some ⟨g, 0, none⟩))
  | .func f => some (.func (.func f) #[] #[])
theorem lk_eq {l : TL} {t : Tm} {j : Nat} {v : Value} (h : lk l t j = some v) : den l t j = v := by
  induction l with
  | nil => exact Option.some.inj h
  | cons p l ih =>
    obtain ⟨k, u⟩ := p
    simp only [lk] at h
    simp only [den, upd]
    cases hb : Nat.beq j k <;> simp only [hb, cond_true, cond_false] at h ⊢
    · exact ih h
    · exact Option.some.inj h
theorem evL_eq {l : TL} {t : Tm} {x : Operand} {v : Value} (h : evL l t x = some v) : ev (den l t) x = v := by
  cases x with
  | tmp k => exact lk_eq h
  | const c => exact Option.some.inj h
  | global g => exact Option.some.inj h
  | func f => exact Option.some.inj h
def evLs (l : TL) (t : Tm) : List Operand → Option (List Value)
  | [] => some []
  | x :: xs => match evL l t x, evLs l t xs with
    | some v, some vs => some (v :: vs)
    | _, _ => none
theorem evLs_eq {l : TL} {t : Tm} : ∀ {xs : List Operand} {vs : List Value}, evLs l t xs = some vs → xs.map (ev (den l t)) = vs
  | [], vs, h => Option.some.inj h
  | x :: xs, vs, h => by
    simp only [evLs] at h
    cases h1 : evL l t x with
    | none => simp [h1] at h
    | some v =>
      cases h2 : evLs l t xs with
      | none => simp [h1, h2] at h
      | some ws =>
        simp only [h1, h2, Option.some.injEq] at h
        subst h
        simp [evL_eq h1, evLs_eq h2]
class InS (b : Nat) (S : Ents) (mn : outParam Bool) (o : outParam Obj) : Prop where
  h : (⟨b, mn, o⟩ : Ent) ∈ S
instance inS_head {b : Nat} {mn : Bool} {o : Obj} {S : Ents} : InS b (⟨b, mn, o⟩ :: S) mn o := ⟨.head _⟩
instance (priority := low) inS_tail {b : Nat} {mn : Bool} {o : Obj} {S : Ents} {e : Ent} [i : InS b S mn o] : InS b (e :: S) mn o := ⟨.tail _ i.h⟩
class OwnS (b : Nat) (S : Ents) (o : outParam Obj) (re : outParam (Obj → Ents)) : Prop where
  h : ∀ o', Upd S b o o' (re o')
instance ownS_head {b : Nat} {o : Obj} {S : Ents} : OwnS b (⟨b, true, o⟩ :: S) o fun o' => ⟨b, true, o'⟩ :: S := ⟨fun _ => .here⟩
instance (priority := low) ownS_tail {b : Nat} {o : Obj} {S : Ents} {e : Ent} {re : Obj → Ents} [i : OwnS b S o re] : OwnS b (e :: S) o fun o' => e :: re o' := ⟨fun o' => .there (i.h o')⟩
class TlS (S₀ S : Ents) : Prop where
  h : Tl S₀ S
instance tlS_refl {S : Ents} : TlS S S := ⟨.refl⟩
instance (priority := low) tlS_cons {S₀ S : Ents} {e : Ent} [i : TlS S₀ S] : TlS S₀ (e :: S) := ⟨.cons i.h⟩
def OpsF (P : Program) (E : Env) (fn n : Nat) (ops : Array Oper) (i : Nat) (Q : Tm → List Deferred → Ents → Prop) (t : Tm) (ds : List Deferred) (S : Ents) : Prop :=
  OpsW P E fn n ops (List.range' i (ops.size - i)) Q t ds S
def OpsX (P : Program) (E : Env) (fn n : Nat) (ops : Array Oper) (i : Nat) (o : Oper) (Q : Tm → List Deferred → Ents → Prop) (t : Tm) (ds : List Deferred) (S : Ents) : Prop :=
  ops[i]? = some o → OpsF P E fn n ops i Q t ds S
section
variable {P : Program} {E : Env} {fn n : Nat} {Q : Post} {K : Tm → List Deferred → Ents → Prop} {l : TL} {t : Tm} {ds : List Deferred} {S : Ents} {ops : Array Oper} {i : Nat} {o : Oper} {d : Option Nat} {ty ty' : TypeId} {pos : String} {af : Array Edge} {g : Option (Nat × Bool)}
theorem t_split {M : Tm → Prop} (d : Nat) {b : Bool} (hb : lk l t d = some (.bool b)) (h1 : b = true → M (den ((d, .bool true) :: l) t)) (h2 : b = false → M (den ((d, .bool false) :: l) t)) : M (den l t) := by
  have e := lk_eq hb
  cases b with
  | true =>
    have h := h1 rfl
    rwa [show den ((d, .bool true) :: l) t = den l t from upd_same e] at h
  | false =>
    have h := h2 rfl
    rwa [show den ((d, .bool false) :: l) t = den l t from upd_same e] at h
theorem w_cond {c : Operand} {x y : Code} {b : Bool} (hc : evL l t c = some (.bool b)) (h1 : b = true → WP P E fn n x Q (den l t) ds S) (h2 : b = false → WP P E fn n y Q (den l t) ds S) : WP P E fn n (.cond c x y) Q (den l t) ds S := wp_cond (evL_eq hc) h1 h2
def dens : List Value → Nat → TL
  | [], _ => []
  | v :: vs, i => (i, v) :: dens vs (i + 1)
theorem den_dens (vs : List Value) : ∀ (i j : Nat), den (dens vs i) (fun _ => undef) j = if i ≤ j then vs.getD (j - i) undef else undef := by
  induction vs with
  | nil => intro i j; simp [dens, den]
  | cons v vs ih =>
    intro i j
    simp only [dens, den, upd]
    by_cases e : j = i
    · subst e; simp
    · rw [beq_ne e, cond_false, ih]
      by_cases h : i ≤ j
      · rw [if_pos (by omega), if_pos h]
        obtain ⟨k, rfl⟩ : ∃ k, j = i + 1 + k := ⟨j - (i + 1), by omega⟩
        rw [show i + 1 + k - (i + 1) = k by omega, show i + 1 + k - i = k + 1 by omega]
        rfl
      · rw [if_neg (by omega), if_neg h]
theorem call_in {f : FuncId} {fr : Func} {c : Code} {args : List Value} {R : Value → Ents → Prop} (hf : P.funcs[f]? = some fr) (hname : (fr.name == "runtime.NumGoroutine") = false) (hb : fr.body = some c) (hargs : Nat.ble args.length fr.ntmps = true)
    (h : WP P E f fr.ntmps c (retQ P E.m fr.results R) (den (dens args 0) fun _ => undef) [] S) : CallW P E f args.toArray S R := by
  refine callW_of hf hname hb (by simpa using Nat.le_of_ble_eq_true hargs) ?_
  have e : enterT args.toArray = den (dens args 0) fun _ => undef := by
    funext j
    rw [den_dens]
    simp [enterT, Array.getD, List.getD]
    split <;> simp_all
  rw [e]
  exact h
end
def lkAll (l : TL) (t : Tm) : TL → Prop
  | [] => True
  | (k, v) :: K => lk l t k = some v ∧ lkAll l t K
theorem keep {l : TL} {t : Tm} : ∀ {K : TL}, lkAll l t K → den l t = den K (den l t)
  | [], _ => rfl
  | (k, v) :: K, h => by
    have h1 := keep h.2
    simp only [den]
    rw [← h1]
    exact (upd_same (lk_eq h.1)).symm
theorem wrap_in {a : Int} (h1 : -9223372036854775808 ≤ a) (h2 : a ≤ 9223372036854775807) : IntKind.i64.wrap a = a := IntWalk.i64_in a ⟨h1, h2⟩
def Row (S : Ents) (b off sz n : Nat) (f : Nat → Array Value) : Prop :=
  ∃ mn c ty fz, (⟨b, mn, .cells c ty fz⟩ : Ent) ∈ S ∧ ∀ i, i < n → off + i * sz + sz ≤ c.size ∧ c.extract (off + i * sz) (off + i * sz + sz) = f i
section
variable {P : Program} {E : Env} {fn n : Nat} {K : Tm → List Deferred → Ents → Prop} {l : TL} {t : Tm} {ds : List Deferred} {S S₀ : Ents} {ops : Array Oper} {i : Nat} {ty : TypeId} {pos : String} {af : Array Edge} {g : Option (Nat × Bool)}
end
end Go.Proofs.YtpnnmklacialgaaGreat
namespace Go.Proofs.YtpnnmklacialgaaGreat
class Tyk (t : Nat) (k : outParam (Bool × Nat)) : Prop where h : tyk Tryz.prog t = some k
class Zo (t : Nat) (cs : outParam (Array Value)) : Prop where h : zeroOf Tryz.prog t = some cs
class Fo (s f : Nat) (k : outParam Nat) : Prop where h : foff Tryz.prog s f = some k
class Sl (t : Nat) (e : outParam Nat) : Prop where h : Tryz.prog.underlying t = some (.slice e)
instance : Tyk 3 (false, 1) := ⟨by kernel_rfl⟩
instance : Tyk 4 (false, 1) := ⟨by kernel_rfl⟩
instance : Tyk 22 (false, 1) := ⟨by kernel_rfl⟩
instance : Tyk 23 (false, 1) := ⟨by kernel_rfl⟩
instance : Tyk 24 (false, 1) := ⟨by kernel_rfl⟩
instance : Tyk 25 (false, 1) := ⟨by kernel_rfl⟩
instance : Tyk 26 (false, 1) := ⟨by kernel_rfl⟩
instance : Tyk 28 (true, 5) := ⟨by kernel_rfl⟩
instance : Tyk 30 (true, 2) := ⟨by kernel_rfl⟩
instance : Tyk 32 (true, 3) := ⟨by kernel_rfl⟩
instance : Tyk 33 (false, 1) := ⟨by kernel_rfl⟩
instance : Tyk 34 (false, 1) := ⟨by kernel_rfl⟩
instance : Tyk 47 (true, 2) := ⟨by kernel_rfl⟩
instance : Tyk 66 (true, 5) := ⟨by kernel_rfl⟩
instance : Tyk 70 (true, 2) := ⟨by kernel_rfl⟩
instance : Tyk 72 (true, 4) := ⟨by kernel_rfl⟩
instance : Tyk 74 (true, 9) := ⟨by kernel_rfl⟩
instance : Tyk 76 (true, 7) := ⟨by kernel_rfl⟩
instance : Tyk 78 (true, 6) := ⟨by kernel_rfl⟩
instance : Tyk 82 (true, 3) := ⟨by kernel_rfl⟩
instance : Tyk 84 (true, 5) := ⟨by kernel_rfl⟩
instance : Tyk 98 (true, 4) := ⟨by kernel_rfl⟩
instance : Tyk 104 (true, 3) := ⟨by kernel_rfl⟩
instance : Tyk 111 (true, 29) := ⟨by kernel_rfl⟩
instance : Tyk 115 (false, 1) := ⟨by kernel_rfl⟩
instance : Tyk 116 (false, 1) := ⟨by kernel_rfl⟩
instance : Tyk 117 (false, 1) := ⟨by kernel_rfl⟩
instance : Tyk 118 (false, 1) := ⟨by kernel_rfl⟩
instance : Tyk 119 (false, 1) := ⟨by kernel_rfl⟩
instance : Tyk 128 (false, 1) := ⟨by kernel_rfl⟩
instance : Tyk 130 (true, 5) := ⟨by kernel_rfl⟩
instance : Tyk 133 (false, 1) := ⟨by kernel_rfl⟩
instance : Tyk 137 (false, 1) := ⟨by kernel_rfl⟩
instance : Tyk 138 (true, 24) := ⟨by kernel_rfl⟩
instance : Tyk 140 (true, 78) := ⟨by kernel_rfl⟩
instance : Tyk 144 (false, 1) := ⟨by kernel_rfl⟩
instance : Tyk 159 (true, 7) := ⟨by kernel_rfl⟩
instance : Tyk 160 (false, 1) := ⟨by kernel_rfl⟩
instance : Tyk 163 (false, 1) := ⟨by kernel_rfl⟩
instance : Tyk 166 (false, 1) := ⟨by kernel_rfl⟩
instance : Tyk 178 (false, 1) := ⟨by kernel_rfl⟩
instance : Tyk 183 (true, 9) := ⟨by kernel_rfl⟩
instance : Tyk 186 (true, 6) := ⟨by kernel_rfl⟩
instance : Tyk 193 (false, 1) := ⟨by kernel_rfl⟩
instance : Tyk 197 (false, 1) := ⟨by kernel_rfl⟩
instance : Tyk 207 (false, 1) := ⟨by kernel_rfl⟩
instance : Tyk 255 (false, 1) := ⟨by kernel_rfl⟩
instance : Zo 3 #[.int .i64 0] := ⟨by kernel_rfl⟩
instance : Zo 28 #[.slice none 0 0, .slice none 0 0, .slice none 0 0, .slice none 0 0, .slice none 0 0] := ⟨by kernel_rfl⟩
instance : Zo 30 #[.int .i64 0, .int .i64 0] := ⟨by kernel_rfl⟩
instance : Zo 33 #[.slice none 0 0] := ⟨by kernel_rfl⟩
instance : Zo 34 #[.int .i64 0] := ⟨by kernel_rfl⟩
instance : Zo 47 #[.int .i64 0, .int .i64 0] := ⟨by kernel_rfl⟩
instance : Zo 66 #[.int .i64 0, .int .i64 0, .int .i64 0, .int .i64 0, .int .i64 0] := ⟨by kernel_rfl⟩
instance : Zo 70 #[.int .i64 0, .int .i64 0] := ⟨by kernel_rfl⟩
instance : Zo 72 #[.int .i64 0, .int .i64 0, .int .i64 0, .int .i64 0] := ⟨by kernel_rfl⟩
instance : Zo 74 #[.int .i64 0, .int .i64 0, .int .i64 0, .int .i64 0, .int .i64 0, .int .i64 0, .int .i64 0, .int .i64 0, .int .i64 0] := ⟨by kernel_rfl⟩
instance : Zo 76 #[.int .i64 0, .int .i64 0, .int .i64 0, .int .i64 0, .int .i64 0, .int .i64 0, .int .i64 0] := ⟨by kernel_rfl⟩
instance : Zo 78 #[.int .i64 0, .int .i64 0, .int .i64 0, .int .i64 0, .int .i64 0, .int .i64 0] := ⟨by kernel_rfl⟩
instance : Zo 82 #[.slice none 0 0, .slice none 0 0, .slice none 0 0] := ⟨by kernel_rfl⟩
instance : Zo 104 #[.int .i64 0, .int .i64 0, .int .i64 0] := ⟨by kernel_rfl⟩
instance : Zo 128 #[.slice none 0 0] := ⟨by kernel_rfl⟩
instance : Zo 130 #[.slice none 0 0, .slice none 0 0, .slice none 0 0, .slice none 0 0, .bool false] := ⟨by kernel_rfl⟩
instance : Zo 133 #[.pointer none] := ⟨by kernel_rfl⟩
instance : Zo 144 #[.slice none 0 0] := ⟨by kernel_rfl⟩
instance : Zo 159 #[.int .i64 0, .int .i64 0, .int .i64 0, .int .i64 0, .int .i64 0, .int .i64 0, .int .i64 0] := ⟨by kernel_rfl⟩
instance : Zo 183 #[.int .i64 0, .int .i64 0, .int .i64 0, .int .i64 0, .int .i64 0, .int .i64 0, .int .i64 0, .int .i64 0, .int .i64 0] := ⟨by kernel_rfl⟩
instance : Zo 186 #[.int .i64 0, .int .i64 0, .int .i64 0, .int .i64 0, .int .i64 0, .int .i64 0] := ⟨by kernel_rfl⟩
instance : Zo 207 #[.chan none] := ⟨by kernel_rfl⟩
instance : Zo 255 #[.int .u64 0] := ⟨by kernel_rfl⟩
instance : Fo 28 0 0 := ⟨by kernel_rfl⟩
instance : Fo 28 1 1 := ⟨by kernel_rfl⟩
instance : Fo 28 2 2 := ⟨by kernel_rfl⟩
instance : Fo 28 3 3 := ⟨by kernel_rfl⟩
instance : Fo 28 4 4 := ⟨by kernel_rfl⟩
instance : Fo 30 0 0 := ⟨by kernel_rfl⟩
instance : Fo 30 1 1 := ⟨by kernel_rfl⟩
instance : Fo 32 0 0 := ⟨by kernel_rfl⟩
instance : Fo 32 1 1 := ⟨by kernel_rfl⟩
instance : Fo 47 0 0 := ⟨by kernel_rfl⟩
instance : Fo 47 1 1 := ⟨by kernel_rfl⟩
instance : Fo 66 0 0 := ⟨by kernel_rfl⟩
instance : Fo 66 1 1 := ⟨by kernel_rfl⟩
instance : Fo 66 2 2 := ⟨by kernel_rfl⟩
instance : Fo 66 3 3 := ⟨by kernel_rfl⟩
instance : Fo 66 4 4 := ⟨by kernel_rfl⟩
instance : Fo 70 0 0 := ⟨by kernel_rfl⟩
instance : Fo 70 1 1 := ⟨by kernel_rfl⟩
instance : Fo 72 0 0 := ⟨by kernel_rfl⟩
instance : Fo 72 1 1 := ⟨by kernel_rfl⟩
instance : Fo 72 2 2 := ⟨by kernel_rfl⟩
instance : Fo 74 0 0 := ⟨by kernel_rfl⟩
instance : Fo 74 1 1 := ⟨by kernel_rfl⟩
instance : Fo 74 2 2 := ⟨by kernel_rfl⟩
instance : Fo 74 3 3 := ⟨by kernel_rfl⟩
instance : Fo 74 4 5 := ⟨by kernel_rfl⟩
instance : Fo 74 5 7 := ⟨by kernel_rfl⟩
instance : Fo 74 6 8 := ⟨by kernel_rfl⟩
instance : Fo 76 0 0 := ⟨by kernel_rfl⟩
instance : Fo 76 1 1 := ⟨by kernel_rfl⟩
instance : Fo 76 2 2 := ⟨by kernel_rfl⟩
instance : Fo 76 3 3 := ⟨by kernel_rfl⟩
instance : Fo 76 4 5 := ⟨by kernel_rfl⟩
instance : Fo 76 5 6 := ⟨by kernel_rfl⟩
instance : Fo 78 0 0 := ⟨by kernel_rfl⟩
instance : Fo 78 1 1 := ⟨by kernel_rfl⟩
instance : Fo 78 2 2 := ⟨by kernel_rfl⟩
instance : Fo 78 3 3 := ⟨by kernel_rfl⟩
instance : Fo 78 4 4 := ⟨by kernel_rfl⟩
instance : Fo 78 5 5 := ⟨by kernel_rfl⟩
instance : Fo 82 0 0 := ⟨by kernel_rfl⟩
instance : Fo 82 1 1 := ⟨by kernel_rfl⟩
instance : Fo 82 2 2 := ⟨by kernel_rfl⟩
instance : Fo 84 0 0 := ⟨by kernel_rfl⟩
instance : Fo 84 1 2 := ⟨by kernel_rfl⟩
instance : Fo 98 0 0 := ⟨by kernel_rfl⟩
instance : Fo 98 1 1 := ⟨by kernel_rfl⟩
instance : Fo 98 2 2 := ⟨by kernel_rfl⟩
instance : Fo 98 3 3 := ⟨by kernel_rfl⟩
instance : Fo 104 0 0 := ⟨by kernel_rfl⟩
instance : Fo 104 1 1 := ⟨by kernel_rfl⟩
instance : Fo 104 2 2 := ⟨by kernel_rfl⟩
instance : Fo 111 0 0 := ⟨by kernel_rfl⟩
instance : Fo 111 1 4 := ⟨by kernel_rfl⟩
instance : Fo 111 2 13 := ⟨by kernel_rfl⟩
instance : Fo 111 3 20 := ⟨by kernel_rfl⟩
instance : Fo 111 4 26 := ⟨by kernel_rfl⟩
instance : Fo 130 0 0 := ⟨by kernel_rfl⟩
instance : Fo 130 1 1 := ⟨by kernel_rfl⟩
instance : Fo 130 2 2 := ⟨by kernel_rfl⟩
instance : Fo 130 3 3 := ⟨by kernel_rfl⟩
instance : Fo 130 4 4 := ⟨by kernel_rfl⟩
instance : Fo 140 0 0 := ⟨by kernel_rfl⟩
instance : Fo 140 1 5 := ⟨by kernel_rfl⟩
instance : Fo 140 2 29 := ⟨by kernel_rfl⟩
instance : Fo 140 3 53 := ⟨by kernel_rfl⟩
instance : Fo 140 4 77 := ⟨by kernel_rfl⟩
instance : Fo 159 0 0 := ⟨by kernel_rfl⟩
instance : Fo 159 1 1 := ⟨by kernel_rfl⟩
instance : Fo 159 2 2 := ⟨by kernel_rfl⟩
instance : Fo 159 3 3 := ⟨by kernel_rfl⟩
instance : Fo 159 4 5 := ⟨by kernel_rfl⟩
instance : Fo 159 5 6 := ⟨by kernel_rfl⟩
instance : Fo 183 0 0 := ⟨by kernel_rfl⟩
instance : Fo 183 1 1 := ⟨by kernel_rfl⟩
instance : Fo 183 2 2 := ⟨by kernel_rfl⟩
instance : Fo 183 5 7 := ⟨by kernel_rfl⟩
instance : Fo 183 6 8 := ⟨by kernel_rfl⟩
instance : Fo 186 0 0 := ⟨by kernel_rfl⟩
instance : Fo 186 1 1 := ⟨by kernel_rfl⟩
instance : Fo 186 2 2 := ⟨by kernel_rfl⟩
instance : Fo 186 3 3 := ⟨by kernel_rfl⟩
instance : Fo 186 4 4 := ⟨by kernel_rfl⟩
instance : Fo 186 5 5 := ⟨by kernel_rfl⟩
instance : Sl 22 72 := ⟨by kernel_rfl⟩
instance : Sl 23 74 := ⟨by kernel_rfl⟩
instance : Sl 24 76 := ⟨by kernel_rfl⟩
instance : Sl 25 78 := ⟨by kernel_rfl⟩
instance : Sl 26 104 := ⟨by kernel_rfl⟩
instance : Sl 33 3 := ⟨by kernel_rfl⟩
instance : Sl 45 66 := ⟨by kernel_rfl⟩
instance : Sl 128 70 := ⟨by kernel_rfl⟩
instance : Sl 144 47 := ⟨by kernel_rfl⟩
instance : Sl 160 159 := ⟨by kernel_rfl⟩
instance : Sl 193 183 := ⟨by kernel_rfl⟩
instance : Sl 197 186 := ⟨by kernel_rfl⟩
instance : Sl 209 144 := ⟨by kernel_rfl⟩
instance : Sl 219 33 := ⟨by kernel_rfl⟩
end Go.Proofs.YtpnnmklacialgaaGreat
namespace Go.Proofs.YtpnnmklacialgaaGreat
def lk2 : List (Nat × Nat × Nat) → Nat → Nat → Option Nat
  | [], _, _ => none
  | (a, b, c) :: l, x, y => bif Nat.beq a x && Nat.beq b y then some c else lk2 l x y
def lk1 {α : Type} : List (Nat × α) → Nat → Option α
  | [], _ => none
  | (a, c) :: l, x => bif Nat.beq a x then some c else lk1 l x
def lk3 : List (Nat × Nat × Bool × Nat × Nat) → Nat → Nat → Option (Bool × Nat × Nat)
  | [], _, _ => none
  | (a, b, c) :: l, x, y => bif Nat.beq a x && Nat.beq b y then some c else lk3 l x y
theorem lk1_mem {α : Type} {l : List (Nat × α)} {x : Nat} {c : α} (h : lk1 l x = some c) : (x, c) ∈ l := by
  induction l with
  | nil => cases h
  | cons p l ih =>
    obtain ⟨a, c'⟩ := p
    simp only [lk1] at h
    cases hb : Nat.beq a x with
    | true => rw [hb] at h; cases h; rw [Nat.eq_of_beq_eq_true hb]; exact .head _
    | false => rw [hb] at h; exact .tail _ (ih h)
theorem lk2_mem {l : List (Nat × Nat × Nat)} {x y c : Nat} (h : lk2 l x y = some c) : (x, y, c) ∈ l := by
  induction l with
  | nil => cases h
  | cons p l ih =>
    obtain ⟨a, b, c'⟩ := p
    simp only [lk2] at h
    cases hb : (Nat.beq a x && Nat.beq b y) with
    | true =>
      rw [hb] at h; cases h
      simp only [Bool.and_eq_true] at hb
      rw [Nat.eq_of_beq_eq_true hb.1, Nat.eq_of_beq_eq_true hb.2]; exact .head _
    | false => rw [hb] at h; exact .tail _ (ih h)
theorem lk3_mem {l : List (Nat × Nat × Bool × Nat × Nat)} {x y : Nat} {c : Bool × Nat × Nat} (h : lk3 l x y = some c) : (x, y, c) ∈ l := by
  induction l with
  | nil => cases h
  | cons p l ih =>
    obtain ⟨a, b, c'⟩ := p
    simp only [lk3] at h
    cases hb : (Nat.beq a x && Nat.beq b y) with
    | true =>
      rw [hb] at h; cases h
      simp only [Bool.and_eq_true] at hb
      rw [Nat.eq_of_beq_eq_true hb.1, Nat.eq_of_beq_eq_true hb.2]; exact .head _
    | false => rw [hb] at h; exact .tail _ (ih h)
theorem all_lk1 {α : Type} {l : List (Nat × α)} {p : Nat × α → Bool} (h1 : l.all p = true) {x : Nat} {c : α} (h : lk1 l x = some c) : p (x, c) = true := List.all_eq_true.1 h1 _ (lk1_mem h)
theorem all_lk2 {l : List (Nat × Nat × Nat)} {p : Nat × Nat × Nat → Bool} (h1 : l.all p = true) {x y c : Nat} (h : lk2 l x y = some c) : p (x, y, c) = true := List.all_eq_true.1 h1 _ (lk2_mem h)
theorem all_lk3 {l : List (Nat × Nat × Bool × Nat × Nat)} {p : Nat × Nat × Bool × Nat × Nat → Bool} (h1 : l.all p = true) {x y : Nat} {c : Bool × Nat × Nat} (h : lk3 l x y = some c) : p (x, y, c) = true := List.all_eq_true.1 h1 _ (lk3_mem h)
def fpart (P : Program) (t f : Nat) : Option (Bool × Nat × Nat) :=
  match P.underlying t with
  | some (.struct fs) => match fs[f]? with
    | some x => (tyk P x.type).map fun k => (k.1, x.offset, k.2)
    | none => none
  | _ => none
def slel (P : Program) (t : Nat) : Option Nat := match P.underlying t with | some (.slice e) => some e | _ => none
def arel (P : Program) (t : Nat) : Option (Nat × Nat) := match P.underlying t with | some (.array n e) => some (n, e) | _ => none
def inkd (P : Program) (t : Nat) : Option IntKind := match P.underlying t with | some (.int k) => some k | _ => none
def stplaces (P : Program) (t : Nat) : Option (List (Nat × Nat)) := match P.underlying t with
  | some (.struct fs) => fs.toList.mapM fun f => (tyk P f.type).map fun k => (f.offset, k.2)
  | some (.array n e) => (tyk P e).map fun k => (List.range n).map fun i => (i * k.2, k.2)
  | _ => none
def foT : List (Nat × Nat × Nat) := [(28, 0, 0), (28, 1, 1), (28, 2, 2), (28, 3, 3), (28, 4, 4), (30, 0, 0), (30, 1, 1), (32, 0, 0), (32, 1, 1), (47, 0, 0), (47, 1, 1), (66, 0, 0), (66, 1, 1), (66, 2, 2), (66, 3, 3), (66, 4, 4), (70, 0, 0), (70, 1, 1), (72, 0, 0), (72, 1, 1), (72, 2, 2), (74, 0, 0), (74, 1, 1), (74, 2, 2), (74, 3, 3), (74, 4, 5), (74, 5, 7), (74, 6, 8), (76, 0, 0), (76, 1, 1), (76, 2, 2), (76, 3, 3), (76, 4, 5), (76, 5, 6), (78, 0, 0), (78, 1, 1), (78, 2, 2), (78, 3, 3), (78, 4, 4), (78, 5, 5), (82, 0, 0), (82, 1, 1), (82, 2, 2), (84, 0, 0), (84, 1, 2), (98, 0, 0), (98, 1, 1), (98, 2, 2), (98, 3, 3), (104, 0, 0), (104, 1, 1), (104, 2, 2), (111, 0, 0), (111, 1, 4), (111, 2, 13), (111, 3, 20), (111, 4, 26), (130, 0, 0), (130, 1, 1), (130, 2, 2), (130, 3, 3), (130, 4, 4), (140, 0, 0), (140, 1, 5), (140, 2, 29), (140, 3, 53), (140, 4, 77), (159, 0, 0), (159, 1, 1), (159, 2, 2), (159, 3, 3), (159, 4, 5), (159, 5, 6), (183, 0, 0), (183, 1, 1), (183, 2, 2), (183, 5, 7), (183, 6, 8), (186, 0, 0), (186, 1, 1), (186, 2, 2), (186, 3, 3), (186, 4, 4), (186, 5, 5)]
theorem foT_ok {s f k : Nat} (h : lk2 foT s f = some k) : foff Tryz.prog s f = some k := by
  have h1 : (foT.all fun e => foff Tryz.prog e.1 e.2.1 == some e.2.2) = true := by kernel_rfl
  exact eq_of_beq (all_lk2 h1 h)
def fpT : List (Nat × Nat × Bool × Nat × Nat) := [(70, 0, false, 0, 1), (70, 1, false, 1, 1), (130, 4, false, 4, 1)]
theorem fpT_ok {s f : Nat} {k : Bool × Nat × Nat} (h : lk3 fpT s f = some k) : fpart Tryz.prog s f = some k := by
  have h1 : (fpT.all fun e => fpart Tryz.prog e.1 e.2.1 == some e.2.2) = true := by kernel_rfl
  exact eq_of_beq (all_lk3 h1 h)
def slT : List (Nat × Nat) := [(22, 72), (23, 74), (24, 76), (25, 78), (26, 104), (33, 3), (45, 66), (128, 70), (144, 47), (160, 159), (193, 183), (197, 186), (209, 144), (219, 33)]
theorem slT_ok {t e : Nat} (h : lk1 slT t = some e) : Tryz.prog.underlying t = some (.slice e) := by
  have h1 : (slT.all fun e => slel Tryz.prog e.1 == some e.2) = true := by kernel_rfl
  have h2 := eq_of_beq (all_lk1 h1 h)
  simp only [slel] at h2
  split at h2
  · simp_all
  · cases h2
def arT : List (Nat × Nat × Nat) := [(138, 12, 70), (185, 3, 3)]
theorem arel_ok {P : Program} {t : Nat} {e : Nat × Nat} (h : arel P t = some e) : P.underlying t = some (.array e.1 e.2) := by
  unfold arel at h
  split at h
  · cases h; assumption
  · cases h
theorem arT_ok {t : Nat} {e : Nat × Nat} (h : lk1 arT t = some e) : Tryz.prog.underlying t = some (.array e.1 e.2) := by
  have h1 : (arT.all fun e => arel Tryz.prog e.1 == some e.2) = true := by kernel_rfl
  exact arel_ok (eq_of_beq (all_lk1 h1 h))
def itT : List (Nat × IntKind) := [(3, .i64), (5, .u8), (216, .u64), (252, .u32), (254, .u64), (255, .u64)]
theorem itT_ok {t : Nat} {k : IntKind} (h : lk1 itT t = some k) : Tryz.prog.underlying t = some (.int k) := by
  have h1 : (itT.all fun e => inkd Tryz.prog e.1 == some e.2) = true := by kernel_rfl
  have h2 := eq_of_beq (all_lk1 h1 h)
  simp only [inkd] at h2
  split at h2
  · simp_all
  · cases h2
def stT : List (Nat × List (Nat × Nat)) := [(28, [(0, 1), (1, 1), (2, 1), (3, 1), (4, 1)]), (30, [(0, 1), (1, 1)]), (47, [(0, 1), (1, 1)]), (66, [(0, 1), (1, 1), (2, 1), (3, 1), (4, 1)]), (70, [(0, 1), (1, 1)]), (72, [(0, 1), (1, 1), (2, 2)]), (74, [(0, 1), (1, 1), (2, 1), (3, 2), (5, 2), (7, 1), (8, 1)]), (76, [(0, 1), (1, 1), (2, 1), (3, 2), (5, 1), (6, 1)]), (78, [(0, 1), (1, 1), (2, 1), (3, 1), (4, 1), (5, 1)]), (82, [(0, 1), (1, 1), (2, 1)]), (104, [(0, 1), (1, 1), (2, 1)]), (130, [(0, 1), (1, 1), (2, 1), (3, 1), (4, 1)]), (140, [(0, 5), (5, 24), (29, 24), (53, 24), (77, 1)]), (185, [(0, 1), (1, 1), (2, 1)])]
theorem stT_ok {t : Nat} {k : List (Nat × Nat)} (h : lk1 stT t = some k) : stplaces Tryz.prog t = some k := by
  have h1 : (stT.all fun e => stplaces Tryz.prog e.1 == some e.2) = true := by kernel_rfl
  exact eq_of_beq (all_lk1 h1 h)
end Go.Proofs.YtpnnmklacialgaaGreat
