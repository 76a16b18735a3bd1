/-
The logic and the walks, part 1. No condition.
-/
import Derived.WalkKit
import Derived.Lib.LaidTab
import Derived.Lib.ItoaNum
import Derived.Laws.IdiomStrings
/-
A logic for the functions of the program over plain data: values by what they hold, not by where they lie. No condition.
-/
namespace Go.Bee
set_option linter.unusedVariables false

/-- Plain data: what a value holds, slices to the bottom. -/
inductive PD where
  | bool (b : Bool)
  | int (k : IntKind) (n : Int)
  | str (l : List UInt8)
  | sl (sz : Nat) (l : List PD)
  | agg (cells : List PD)
  deriving Inhabited

def PD.scalar : PD → Bool
  | .agg _ => false
  | _ => true
def PD.cells : PD → List PD
  | .agg cs => cs
  | x => [x]
def flat (l : List PD) : List PD := l.flatMap PD.cells

theorem flat_nil : flat [] = [] := rfl
theorem flat_append (a b : List PD) : flat (a ++ b) = flat a ++ flat b := by simp [flat]
theorem flat_cons (x : PD) (l : List PD) : flat (x :: l) = x.cells ++ flat l := by simp [flat]
theorem flat_length {sz : Nat} {l : List PD} (h : ∀ e ∈ l, e.cells.length = sz) : (flat l).length = l.length * sz := by
  induction l with
  | nil => simp [flat]
  | cons x l ih =>
    rw [flat_cons, List.length_append, ih (fun e he => h e (List.mem_cons_of_mem _ he)), h x (List.mem_cons_self ..), List.length_cons, Nat.add_mul]
    omega
theorem flat_take {sz : Nat} : ∀ {l : List PD} (h : ∀ e ∈ l, e.cells.length = sz) (n : Nat), (flat l).take (n * sz) = flat (l.take n)
  | [], _, n => by simp [flat]
  | x :: l, h, 0 => by simp [flat]
  | x :: l, h, n + 1 => by
    have hx := h x (List.mem_cons_self ..)
    rw [flat_cons, List.take_succ_cons, flat_cons, ← flat_take (fun e he => h e (List.mem_cons_of_mem _ he)) n, List.take_append, hx,
      List.take_of_length_le (by rw [hx, Nat.add_mul]; omega)]
    congr 2
    rw [Nat.add_mul]; omega
theorem flat_drop {sz : Nat} : ∀ {l : List PD} (h : ∀ e ∈ l, e.cells.length = sz) (n : Nat), (flat l).drop (n * sz) = flat (l.drop n)
  | [], _, n => by simp [flat]
  | x :: l, h, 0 => by simp [flat]
  | x :: l, h, n + 1 => by
    have hx := h x (List.mem_cons_self ..)
    rw [flat_cons, List.drop_succ_cons, ← flat_drop (fun e he => h e (List.mem_cons_of_mem _ he)) n, List.drop_append, hx,
      List.drop_of_length_le (by rw [hx, Nat.add_mul]; omega), List.nil_append]
    congr 1
    rw [Nat.add_mul]; omega
theorem flat_elem {sz : Nat} {l : List PD} (h : ∀ e ∈ l, e.cells.length = sz) {i : Nat} {x : PD} (hx : l[i]? = some x) :
    ((flat l).drop (i * sz)).take sz = x.cells := by
  rw [flat_drop h]
  obtain ⟨hi, rfl⟩ := List.getElem?_eq_some_iff.1 hx
  rw [List.drop_eq_getElem_cons hi, flat_cons]
  have := h l[i] (List.getElem_mem hi)
  rw [List.take_append, List.take_of_length_le (by omega), this]
  simp

/-- 'v' holds the data x; all cells that it takes lie in S. -/
inductive RepD (S : Nat → Nat → Prop) (w : World) : PD → Value → Prop
  | bool (b : Bool) : RepD S w (.bool b) (.bool b)
  | int (k : IntKind) (n : Int) : RepD S w (.int k n) (.int k n)
  | str (l : List UInt8) (hb : l.length ≤ 140737488355328) : RepD S w (.str l) (.string ⟨l.toArray⟩)
  | nil (sz : Nat) : RepD S w (.sl sz []) (.slice none 0 0)
  | sl (sz : Nat) (l : List PD) (g o c : Nat) (vs : List Value) (hb : l.length ≤ 140737488355328) (hc : l.length ≤ c) (hu : ∀ e ∈ l, e.cells.length = sz) (hs : ∀ x ∈ flat l, x.scalar = true)
      (hl : vs.length = (flat l).length) (hv : ∀ (i : Nat) v, vs[i]? = some v → S g (o + i) ∧ w.cell? ⟨g, o + i, none⟩ = some v)
      (hr : ∀ (i : Nat) x v, (flat l)[i]? = some x → vs[i]? = some v → RepD S w x v) : RepD S w (.sl sz l) (.slice (some ⟨g, o, none⟩) l.length c)
  | emp (sz : Nat) (a : Addr) (c : Nat) : RepD S w (.sl sz []) (.slice (some a) 0 c)
  | agg (cs : List PD) (vs : Array Value) (hl : vs.size = cs.length) (hs : ∀ x ∈ cs, x.scalar = true)
      (hr : ∀ (i : Nat) x v, cs[i]? = some x → vs[i]? = some v → RepD S w x v) : RepD S w (.agg cs) (.agg vs)

/-- Each cell of S is in S' and reads as it did. -/
def Keep (S : Nat → Nat → Prop) (w : World) (S' : Nat → Nat → Prop) (w' : World) : Prop :=
  ∀ b o, S b o → S' b o ∧ w'.cell? ⟨b, o, none⟩ = w.cell? ⟨b, o, none⟩
theorem Keep.refl (S : Nat → Nat → Prop) (w : World) : Keep S w S w := fun _ _ h => ⟨h, rfl⟩
theorem Keep.trans {S S' S'' : Nat → Nat → Prop} {w w' w'' : World} (h : Keep S w S' w') (k : Keep S' w' S'' w'') : Keep S w S'' w'' :=
  fun b o hb => ⟨(k b o (h b o hb).1).1, (k b o (h b o hb).1).2.trans (h b o hb).2⟩
theorem RepD.keep {S S' : Nat → Nat → Prop} {w w' : World} (hk : Keep S w S' w') {x : PD} {v : Value} (h : RepD S w x v) : RepD S' w' x v := by
  induction h with
  | bool b => exact .bool b
  | int k n => exact .int k n
  | str l hb => exact .str l hb
  | nil sz => exact .nil sz
  | sl sz l g o c vs hb hc hu hs hl hv hr ih =>
    exact .sl sz l g o c vs hb hc hu hs hl (fun i v hi => ⟨(hk _ _ (hv i v hi).1).1, (hk _ _ (hv i v hi).1).2.trans (hv i v hi).2⟩) ih
  | emp sz a c => exact .emp sz a c
  | agg cs vs hl hs hr ih => exact .agg cs vs hl hs ih
theorem RepD.oneCell {S : Nat → Nat → Prop} {w : World} {x : PD} {v : Value} (h : RepD S w x v) (hs : x.scalar = true) : v.oneCell' = true := by
  cases h <;> first | rfl | simp [PD.scalar] at hs

/-- A run of cells. -/
def RepRun (S : Nat → Nat → Prop) (w : World) (g o : Nat) (cells : List PD) : Prop :=
  ∃ vs : List Value, vs.length = cells.length ∧ (∀ x ∈ cells, x.scalar = true) ∧ (∀ (i : Nat) v, vs[i]? = some v → S g (o + i) ∧ w.cell? ⟨g, o + i, none⟩ = some v) ∧
    ∀ (i : Nat) x v, cells[i]? = some x → vs[i]? = some v → RepD S w x v
theorem RepRun.keep {S S' : Nat → Nat → Prop} {w w' : World} (hk : Keep S w S' w') {g o : Nat} {cells : List PD} (h : RepRun S w g o cells) : RepRun S' w' g o cells := by
  obtain ⟨vs, hl, hs, hv, hr⟩ := h
  exact ⟨vs, hl, hs, fun i v hi => ⟨(hk _ _ (hv i v hi).1).1, (hk _ _ (hv i v hi).1).2.trans (hv i v hi).2⟩, fun i x v hx hy => (hr i x v hx hy).keep hk⟩
theorem RepRun.drop {S : Nat → Nat → Prop} {w : World} {g o : Nat} {cells : List PD} (h : RepRun S w g o cells) (n : Nat) : RepRun S w g (o + n) (cells.drop n) := by
  obtain ⟨vs, hl, hs, hv, hr⟩ := h
  refine ⟨vs.drop n, by simp [hl], fun x hx => hs x (List.mem_of_mem_drop hx), fun i v hi => ?_, fun i x v hx hy => ?_⟩
  · rw [List.getElem?_drop] at hi
    have := hv _ _ hi
    rwa [← Nat.add_assoc] at this
  · rw [List.getElem?_drop] at hx hy
    exact hr _ _ _ hx hy
theorem RepRun.take {S : Nat → Nat → Prop} {w : World} {g o : Nat} {cells : List PD} (h : RepRun S w g o cells) (n : Nat) : RepRun S w g o (cells.take n) := by
  obtain ⟨vs, hl, hs, hv, hr⟩ := h
  refine ⟨vs.take n, by simp [hl], fun x hx => hs x (List.mem_of_mem_take hx), fun i v hi => ?_, fun i x v hx hy => ?_⟩
  · rw [List.getElem?_take] at hi
    split at hi
    · exact hv _ _ hi
    · cases hi
  · rw [List.getElem?_take] at hx hy
    split at hx
    · rename_i hlt; rw [if_pos hlt] at hy; exact hr _ _ _ hx hy
    · cases hx
theorem RepD.run {S : Nat → Nat → Prop} {w : World} {sz : Nat} {l : List PD} {g o n c : Nat} (h : RepD S w (.sl sz l) (.slice (some ⟨g, o, none⟩) n c)) :
    n = l.length ∧ (l ≠ [] → n ≤ c) ∧ (∀ e ∈ l, e.cells.length = sz) ∧ RepRun S w g o (flat l) := by
  cases h with
  | sl _ _ _ _ _ vs hb hc hu hs hl hv hr => exact ⟨rfl, fun _ => hc, hu, vs, hl, hs, hv, hr⟩
  | emp => exact ⟨rfl, fun h => absurd rfl h, by simp, [], by simp [flat_nil], by simp [flat_nil], by simp, by simp [flat_nil]⟩
theorem RepD.sl_shape {S : Nat → Nat → Prop} {w : World} {sz : Nat} {l : List PD} {v : Value} (h : RepD S w (.sl sz l) v) :
    (l = [] ∧ v = .slice none 0 0) ∨ (∃ g o c, v = .slice (some ⟨g, o, none⟩) l.length c ∧ l.length ≤ c ∧ (∀ e ∈ l, e.cells.length = sz) ∧ RepRun S w g o (flat l)) ∨ (l = [] ∧ ∃ a c, v = .slice (some a) 0 c) := by
  cases h with
  | nil => exact .inl ⟨rfl, rfl⟩
  | sl _ _ g o c vs hb hc hu hs hl hv hr => exact .inr (.inl ⟨g, o, c, rfl, hc, hu, vs, hl, hs, hv, hr⟩)
  | emp sz a c => exact .inr (.inr ⟨rfl, a, c, rfl⟩)
theorem RepD.of_run {S : Nat → Nat → Prop} {w : World} {sz : Nat} {l : List PD} {g o c : Nat} (hb : l.length ≤ 140737488355328) (hc : l.length ≤ c) (hu : ∀ e ∈ l, e.cells.length = sz) (h : RepRun S w g o (flat l)) :
    RepD S w (.sl sz l) (.slice (some ⟨g, o, none⟩) l.length c) := by
  obtain ⟨vs, hl, hs, hv, hr⟩ := h
  exact .sl sz l g o c vs hb hc hu hs hl hv hr
theorem RepD.len {S : Nat → Nat → Prop} {w : World} {sz : Nat} {l : List PD} {v : Value} (h : RepD S w (.sl sz l) v) : l.length ≤ 140737488355328 := by
  cases h with
  | nil => simp
  | emp => simp
  | sl _ _ _ _ _ vs hb => exact hb
theorem RepD.slen {S : Nat → Nat → Prop} {w : World} {l : List UInt8} {v : Value} (h : RepD S w (.str l) v) : l.length ≤ 140737488355328 := by
  cases h with
  | str _ hb => exact hb

/-- A block that holds a variable: a temporary of the function that made it (.t), or one that was handed in (.a). -/
inductive BN where
  | t (n : Nat)
  | a (n : Nat)
  deriving DecidableEq, Inhabited
inductive Loc where
  | t (n : Nat)
  | b (n : BN)
  | res
  | q
  deriving DecidableEq, Inhabited

/-- What a slot holds, as the logic sees it. -/
inductive PV where
  | d (x : PD)
  | nilS
  | nn (sz : Nat) (l : List PD)
  | own (e sz : Nat) (l : List PD)
  | ptr (b : BN) (o : Nat)
  | rsl (b : BN) (e sz n : Nat)
  | eptr (cells : List PD)
  | efn (K : List PD → Option PD)
  | dp (x : PD)
  | rsv (b : BN) (sz n : Nat)
  | q (x : PD)
  | zs (x : PD)
  | zp (cells : List PD)
  | one
  | clo (f : Nat) (caps : List PV)
  | fn (K : List PD → Option PD)
  | junk
  | und
  | agg (l : List PV)
  | tup (l : List PV)
  deriving Inhabited

abbrev PV.int (n : Int) : PV := .d (.int .i64 n)
abbrev PV.bool (b : Bool) : PV := .d (.bool b)
abbrev PV.str (l : List UInt8) : PV := .d (.str l)

/-- Memory behind a run: the cells of S are as they were; of the old blocks only those of Wr may have turned; S' has beside S only new cells, or cells of Wr. -/
structure Ext (S : Nat → Nat → Prop) (w : World) (S' : Nat → Nat → Prop) (w' : World) (Wr : Nat → Prop) : Prop where
  os : w'.os = w.os
  tape : w'.tape = w.tape
  output : w'.output = w.output
  size : w.heap.size ≤ w'.heap.size
  old : ∀ b, b < w.heap.size → ¬ Wr b → w'.heap[b]? = w.heap[b]?
  keep : Keep S w S' w'
  new : ∀ b o, S' b o → S b o ∨ w.heap.size ≤ b ∨ Wr b
theorem Ext.refl (S : Nat → Nat → Prop) (w : World) (Wr : Nat → Prop) : Ext S w S w Wr :=
  ⟨rfl, rfl, rfl, Nat.le_refl _, fun _ _ _ => rfl, Keep.refl S w, fun _ _ h => .inl h⟩
theorem Ext.trans {S S' S'' : Nat → Nat → Prop} {w w' w'' : World} {Wr Wr' : Nat → Prop} (h : Ext S w S' w' Wr) (k : Ext S' w' S'' w'' Wr')
    (hw : ∀ b, Wr' b → w.heap.size ≤ b ∨ Wr b) : Ext S w S'' w'' Wr := by
  refine ⟨k.os.trans h.os, k.tape.trans h.tape, k.output.trans h.output, Nat.le_trans h.size k.size, fun b hb hn => ?_, h.keep.trans k.keep, fun b o hb => ?_⟩
  · rw [k.old b (Nat.lt_of_lt_of_le hb h.size) (fun hw' => (hw b hw').elim (fun h => by omega) hn)]
    exact h.old b hb hn
  · rcases k.new b o hb with h1 | h1 | h1
    · exact h.new b o h1
    · have := h.size; exact .inr (.inl (by omega))
    · exact .inr (hw b h1)

/-- Data without a slice in it. -/
def PD.plain : PD → Bool
  | .bool _ => true
  | .int _ _ => true
  | .str _ => true
  | .sl _ _ => false
  | .agg cs => cs.all fun x => match x with | .bool _ => true | .int _ _ => true | .str _ => true | _ => false

/-- A function with a text that is entered when it is called. -/
def isFn (P : Program) (f : Nat) : Bool :=
  match P.funcs[f]? with
  | some fn => fn.name != "runtime.NumGoroutine" && fn.body.isSome
  | none => false
/-- A function value that computes K of plain data, wherever S is kept and the blocks of fz are as they were. -/
def FnOk (P : Program) (S : Nat → Nat → Prop) (fz : Nat → Prop) (w : World) (K : List PD → Option PD) (v : Value) : Prop :=
  ∃ (f : Nat) (caps : Array Value), v = .func (.func f) #[] caps ∧ isFn P f = true ∧
    ∀ xs r, K xs = some r → r.plain = true ∧ ∀ S1 w1, Keep S w S1 w1 → (∀ g, fz g → w1.heap[g]? = w.heap[g]?) → w.heap.size ≤ w1.heap.size → (∀ b o, S1 b o → b < w1.heap.size) → ∀ vs : Array Value, vs.size = xs.length →
      (∀ (i : Nat) x u, xs[i]? = some x → vs[i]? = some u → RepD S1 w1 x u) →
      Calls P f (vs ++ caps) w1 fun e w2 => ∃ u, e = .returned u ∧ Ext S1 w1 S1 w2 (fun _ => False) ∧ RepD S1 w2 r u
theorem FnOk.keep {P : Program} {S S' : Nat → Nat → Prop} {fz : Nat → Prop} {w w' : World} (hk : Keep S w S' w') (hz : ∀ g, fz g → w'.heap[g]? = w.heap[g]?) (hs : w.heap.size ≤ w'.heap.size)
    {K : List PD → Option PD} {v : Value} (h : FnOk P S fz w K v) : FnOk P S' fz w' K v := by
  obtain ⟨f, caps, hv, hf, h⟩ := h
  exact ⟨f, caps, hv, hf, fun xs r hK => ⟨(h xs r hK).1, fun S1 w1 hk1 hz1 hs1 => (h xs r hK).2 S1 w1 (hk.trans hk1) (fun g hg => (hz1 g hg).trans (hz g hg)) (Nat.le_trans hs hs1)⟩⟩

/-- What the logic does not show: where the blocks lie, which cells stay as they are, whose a slice's spare room is. -/
structure Gh where
  im : Nat → Nat → Prop
  β : BN → Nat
  live : BN → Prop
  own : Nat → Option (Loc × Nat × Nat)
  fz : Nat → Prop

def RepAt (G : Gh) (w : World) : PV → Value → Prop
  | .d x, v => RepD G.im w x v ∧ x.scalar = true
  | .nilS, v => v = .slice none 0 0
  | .und, v => v = undef
  | .nn sz l, v => RepD G.im w (.sl sz l) v ∧ ∀ n c, v ≠ .slice none n c
  | .ptr b o, v => v = .pointer (some ⟨G.β b, o, none⟩) ∧ G.live b
  | .eptr cells, v => ∃ g o, v = .pointer (some ⟨g, o, none⟩) ∧ RepRun G.im w g o cells
  | _, _ => False
/-- A slice with no room behind its end. -/
def Full (n : Nat) (v : Value) : Prop := v = .slice none n n ∨ ∃ g, v = .slice (some ⟨g, 0, none⟩) n n
theorem Full.ex {n : Nat} {v : Value} (h : Full n v) : ∃ b, v = .slice b n n := h.elim (fun h => ⟨_, h⟩) fun ⟨_, h⟩ => ⟨_, h⟩
/-- A slice of one's own: nobody else's slice reaches behind its end (or there is no room behind it). -/
def OwnAt (G : Gh) (w : World) (p : Loc × Nat × Nat) (e sz : Nat) (l : List PD) (v : Value) : Prop :=
  RepD G.im w (.sl sz l) v ∧ ((Full l.length v ∧ (l ≠ [] → ∀ g, v.ownBlock = some g → G.own g = some p ∧ ∃ cs e', w.heap[g]? = some (.cells cs e' (0, 0)))) ∨ ∃ vs, w.ownsRow 0 e sz v l.length vs ∧ (l ≠ [] ∧ ∀ x ∈ l, x.cells.length = sz) ∧
    ∀ g, v.ownBlock = some g → G.own g = some p ∧ (∀ i, i < vs.length → G.im g i) ∧ ∀ i, vs.length ≤ i → ¬ G.im g i)
/-- The cells of blocks that are one's own, at position p. -/
def Mine (G : Gh) (w : World) (p : Loc × Nat × Nat) : Nat → Nat → Prop := fun b o => G.im b o ∧ G.own b = some p ∧ ∃ cs e, w.heap[b]? = some (.cells cs e (0, 0))
/-- A block that is nobody's. -/
def FreeO (G : Gh) (w : World) (o : Option (Loc × Nat × Nat)) (g : Nat) : Prop := (∃ cs e, w.heap[g]? = some (.cells cs e (0, 0))) ∧ G.own g = o ∧ (∀ b, G.live b → G.β b ≠ g) ∧ (∀ o, ¬ G.im g o) ∧ ¬ G.fz g
abbrev FreeB (G : Gh) (w : World) (g : Nat) : Prop := FreeO G w none g
/-- Whose the blocks are that nobody writes. -/
def qpos : Loc × Nat × Nat := (.q, 0, 0)
abbrev FreeQ (G : Gh) (w : World) (g : Nat) : Prop := FreeO G w (some qpos) g
def PD.isSl : PD → Bool
  | .sl _ _ => true
  | _ => false
def isSlV : Value → Bool
  | .slice _ _ _ => true
  | _ => false
/-- The shape of data alone: what is no slice may be anything; all cells lie in blocks of S. -/
inductive ZD (S : Nat → Prop) (w : World) : PD → Value → Prop
  | sc (x : PD) (v : Value) (hx : x.isSl = false) (h1 : v.oneCell' = true) (h2 : isSlV v = false) : ZD S w x v
  | nil (sz : Nat) : ZD S w (.sl sz []) (.slice none 0 0)
  | sl (sz : Nat) (l : List PD) (g o c : Nat) (vs : List Value) (hb : l.length ≤ 140737488355328) (hc : l.length ≤ c) (hu : ∀ e ∈ l, e.cells.length = sz) (hs : ∀ x ∈ flat l, x.scalar = true)
      (hl : vs.length = (flat l).length) (hv : ∀ (i : Nat) v, vs[i]? = some v → S g ∧ w.cell? ⟨g, o + i, none⟩ = some v)
      (hr : ∀ (i : Nat) x v, (flat l)[i]? = some x → vs[i]? = some v → ZD S w x v) : ZD S w (.sl sz l) (.slice (some ⟨g, o, none⟩) l.length c)
  | emp (sz : Nat) (a : Addr) (c : Nat) : ZD S w (.sl sz []) (.slice (some a) 0 c)
theorem ZD.keep {S S' : Nat → Prop} {w w' : World} (hk : ∀ g, S g → S' g ∧ ∀ o, w'.cell? ⟨g, o, none⟩ = w.cell? ⟨g, o, none⟩) {x : PD} {v : Value} (h : ZD S w x v) : ZD S' w' x v := by
  induction h with
  | sc x v hx h1 h2 => exact .sc x v hx h1 h2
  | nil sz => exact .nil sz
  | sl sz l g o c vs hb hc hu hs hl hv hr ih => exact .sl sz l g o c vs hb hc hu hs hl (fun i v hi => ⟨(hk _ (hv i v hi).1).1, ((hk _ (hv i v hi).1).2 _).trans (hv i v hi).2⟩) ih
  | emp sz a c => exact .emp sz a c
theorem RepD.zd {S : Nat → Nat → Prop} {S' : Nat → Prop} {w : World} (hS : ∀ b o, S b o → S' b) {x : PD} {v : Value} (h : RepD S w x v) : x.scalar = true → ZD S' w x v := by
  induction h with
  | bool b => exact fun _ => .sc _ _ rfl rfl rfl
  | int k n => exact fun _ => .sc _ _ rfl rfl rfl
  | str l hb => exact fun _ => .sc _ _ rfl rfl rfl
  | nil sz => exact fun _ => .nil sz
  | sl sz l g o c vs hb hc hu hs hl hv hr ih =>
    exact fun _ => .sl sz l g o c vs hb hc hu hs hl (fun i v hi => ⟨hS _ _ (hv i v hi).1, (hv i v hi).2⟩) (fun i x v hx hv => ih i x v hx hv (hs x (List.mem_of_getElem? hx)))
  | emp sz a c => exact fun _ => .emp sz a c
  | agg cs vs hl hs hr ih => exact fun h => by cases h
/-- A run of cells of which the shape alone is known. -/
def ZRun (S : Nat → Prop) (w : World) (g o : Nat) (cells : List PD) : Prop :=
  ∃ vs : List Value, vs.length = cells.length ∧ (∀ x ∈ cells, x.scalar = true) ∧ (∀ (i : Nat) v, vs[i]? = some v → S g ∧ w.cell? ⟨g, o + i, none⟩ = some v) ∧
    ∀ (i : Nat) x v, cells[i]? = some x → vs[i]? = some v → ZD S w x v
theorem ZRun.keep {S S' : Nat → Prop} {w w' : World} (hk : ∀ g, S g → S' g ∧ ∀ o, w'.cell? ⟨g, o, none⟩ = w.cell? ⟨g, o, none⟩) {g o : Nat} {cells : List PD} (h : ZRun S w g o cells) : ZRun S' w' g o cells := by
  obtain ⟨vs, hl, hs, hv, hr⟩ := h
  exact ⟨vs, hl, hs, fun i v hi => ⟨(hk _ (hv i v hi).1).1, ((hk _ (hv i v hi).1).2 _).trans (hv i v hi).2⟩, fun i x v hx hy => (hr i x v hx hy).keep hk⟩
/-- Slices stand as they stood; what is no slice is none. -/
def KindSame (w w' : World) (g : Nat) : Prop := ∀ o u, w.cell? ⟨g, o, none⟩ = some u → u.oneCell' = true → if isSlV u = true then w'.cell? ⟨g, o, none⟩ = some u else ∃ u', w'.cell? ⟨g, o, none⟩ = some u' ∧ isSlV u' = false ∧ u'.oneCell' = true
theorem KindSame.refl (w : World) (g : Nat) : KindSame w w g := fun o u h h1 => by
  split
  · exact h
  · rename_i hn; exact ⟨u, h, by simpa using hn, h1⟩
theorem KindSame.trans {w w' w'' : World} {g : Nat} (h : KindSame w w' g) (k : KindSame w' w'' g) : KindSame w w'' g := fun o u hu h1 => by
  have h2 := h o u hu h1
  split at h2
  · rename_i hs
    have h3 := k o u h2 h1
    rw [if_pos hs] at h3 ⊢; exact h3
  · rename_i hs
    obtain ⟨u', h4, h5, h6⟩ := h2
    have h3 := k o u' h4 h6
    rw [if_neg (by simp [h5])] at h3
    rw [if_neg hs]; exact h3
theorem KindSame.of_heap {w w' : World} {g : Nat} (h : w'.heap[g]? = w.heap[g]?) : KindSame w w' g := fun o u hu h1 => by
  have e := World.cell?_of_block (w := w) (w' := w') (a := ⟨g, o, none⟩) h
  exact (by rw [e]; exact KindSame.refl w g o u hu h1)
theorem ZD.kind {S S' : Nat → Prop} {w w' : World} (hk : ∀ g, S g → S' g ∧ KindSame w w' g) {x : PD} {v : Value} (h : ZD S w x v) : ZD S' w' x v := by
  induction h with
  | sc x v hx h1 h2 => exact .sc x v hx h1 h2
  | nil sz => exact .nil sz
  | emp sz a c => exact .emp sz a c
  | sl sz l g o c vs hb hc hu hs hl hv hr ih =>
    have one : ∀ (i : Nat) x v, (flat l)[i]? = some x → vs[i]? = some v → ∃ v', (S' g ∧ w'.cell? ⟨g, o + i, none⟩ = some v') ∧ ZD S' w' x v' := by
      intro i x v hx hvi
      have hz := hr i x v hx hvi
      have h1 : v.oneCell' = true := by cases hz <;> first | assumption | rfl
      have hc := (hk g (hv i v hvi).1).2 (o + i) v (hv i v hvi).2 h1
      split at hc
      · exact ⟨v, ⟨(hk g (hv i v hvi).1).1, hc⟩, ih i x v hx hvi⟩
      · rename_i hn
        obtain ⟨u, h3, h4, h5⟩ := hc
        refine ⟨u, ⟨(hk g (hv i v hvi).1).1, h3⟩, .sc x u ?_ h5 h4⟩
        cases hz <;> first | assumption | exact absurd rfl hn
    have ex : ∃ vs' : List Value, vs'.length = vs.length ∧ ∀ (i : Nat) x v, (flat l)[i]? = some x → vs'[i]? = some v → (S' g ∧ w'.cell? ⟨g, o + i, none⟩ = some v) ∧ ZD S' w' x v := by
      refine ⟨(List.range vs.length).map fun i => (w'.cell? ⟨g, o + i, none⟩).getD undef, by simp, fun i x v hx hv' => ?_⟩
      have hi : i < vs.length := by rw [hl]; exact (List.getElem?_eq_some_iff.1 hx).1
      rw [List.getElem?_map, List.getElem?_range hi] at hv'
      obtain ⟨v', h1, h2⟩ := one i x vs[i] hx (List.getElem?_eq_getElem hi)
      simp only [Option.map_some, h1.2, Option.getD_some, Option.some.injEq] at hv'
      subst hv'
      exact ⟨h1, h2⟩
    obtain ⟨vs', e1, e2⟩ := ex
    refine .sl sz l g o c vs' hb hc hu hs (e1.trans hl) (fun i v hi => ?_) (fun i x v hx hi => (e2 i x v hx hi).2)
    have hi' : i < (flat l).length := by rw [← hl, ← e1]; exact (List.getElem?_eq_some_iff.1 hi).1
    exact (e2 i _ v (List.getElem?_eq_getElem hi') hi).1
theorem ZD.oneCell {S : Nat → Prop} {w : World} {x : PD} {v : Value} (h : ZD S w x v) : v.oneCell' = true := by cases h <;> first | assumption | rfl
theorem ZRun.kind {S S' : Nat → Prop} {w w' : World} (hk : ∀ g, S g → S' g ∧ KindSame w w' g) {g o : Nat} {cells : List PD} (h : ZRun S w g o cells) : ZRun S' w' g o cells := by
  obtain ⟨vs, hl, hs, hv, hr⟩ := h
  have one : ∀ (i : Nat) x v, cells[i]? = some x → vs[i]? = some v → ∃ v', (S' g ∧ w'.cell? ⟨g, o + i, none⟩ = some v') ∧ ZD S' w' x v' := by
    intro i x v hx hvi
    have hz := hr i x v hx hvi
    have h1 : v.oneCell' = true := hz.oneCell
    have hc := (hk g (hv i v hvi).1).2 (o + i) v (hv i v hvi).2 h1
    split at hc
    · exact ⟨v, ⟨(hk g (hv i v hvi).1).1, hc⟩, hz.kind hk⟩
    · rename_i hn
      obtain ⟨u, h3, h4, h5⟩ := hc
      refine ⟨u, ⟨(hk g (hv i v hvi).1).1, h3⟩, .sc x u ?_ h5 h4⟩
      cases hz <;> first | assumption | exact absurd rfl hn
  refine ⟨(List.range vs.length).map fun i => (w'.cell? ⟨g, o + i, none⟩).getD undef, by simp [hl], hs, fun i v hi => ?_, fun i x v hx hv' => ?_⟩
  · have hi2 : i < vs.length := by simpa using (List.getElem?_eq_some_iff.1 hi).1
    rw [List.getElem?_map, List.getElem?_range hi2] at hi
    obtain ⟨v', h1, h2⟩ := one i cells[i] vs[i] (List.getElem?_eq_getElem (by omega)) (List.getElem?_eq_getElem hi2)
    simp only [Option.map_some, h1.2, Option.getD_some, Option.some.injEq] at hi
    subst hi
    exact h1
  · have hi : i < vs.length := by rw [hl]; exact (List.getElem?_eq_some_iff.1 hx).1
    rw [List.getElem?_map, List.getElem?_range hi] at hv'
    obtain ⟨v', h1, h2⟩ := one i x vs[i] hx (List.getElem?_eq_getElem hi)
    simp only [Option.map_some, h1.2, Option.getD_some, Option.some.injEq] at hv'
    subst hv'
    exact h2
/-- How a block that is nobody's goes on. -/
inductive SameO (w w' : World) (g : Nat) : Option (Loc × Nat × Nat) → Prop
  | heap {o : Option (Loc × Nat × Nat)} (h : w'.heap[g]? = w.heap[g]?) : SameO w w' g o
  | kind (h : KindSame w w' g) : SameO w w' g none
theorem SameO.kindN {w w' : World} {g : Nat} (h : SameO w w' g none) : KindSame w w' g := by
  cases h with
  | heap h => exact .of_heap h
  | kind h => exact h
theorem SameO.heapQ {w w' : World} {g : Nat} {p : Loc × Nat × Nat} (h : SameO w w' g (some p)) : w'.heap[g]? = w.heap[g]? := by
  cases h with
  | heap h => exact h
def RepC (P : Program) (G : Gh) (w : World) (p : Loc × Nat × Nat) : PV → Value → Prop
  | .own e sz l, v => OwnAt G w p e sz l v
  | .clo f caps, v => ∃ vs : Array Value, v = .func (.func f) #[] vs ∧ vs.size = caps.length ∧ ∀ (i : Nat) x u, caps[i]? = some x → vs[i]? = some u → RepAt G w x u
  | .fn K, v => FnOk P G.im G.fz w K v
  | .efn K, v => ∃ g o u, v = .pointer (some ⟨g, o, none⟩) ∧ G.im g o ∧ w.cell? ⟨g, o, none⟩ = some u ∧ FnOk P G.im G.fz w K u
  | .dp x, v => RepD (Mine G w p) w x v ∧ x.scalar = true
  | .rsv b _ n, v => ∃ c, n ≤ c ∧ v = .slice (some ⟨G.β b, 0, none⟩) n c ∧ G.live b ∧ n ≤ 140737488355328
  | .q x, v => RepD (fun b _ => FreeQ G w b) w x v ∧ x.scalar = true
  | .zs x, v => ZD (FreeB G w) w x v ∧ x.scalar = true
  | .zp cells, v => ∃ g o, v = .pointer (some ⟨g, o, none⟩) ∧ ZRun (FreeB G w) w g o cells
  | .one, v => v.oneCell' = true
  | .junk, _ => True
  | .rsl b e sz n, v => v = .slice (some ⟨G.β b, 0, none⟩) n n ∧ G.live b ∧ n ≤ 140737488355328
  | .agg _, _ => False
  | .tup _, _ => False
  | .d x, v => RepAt G w (.d x) v
  | .nilS, v => RepAt G w .nilS v
  | .und, v => RepAt G w .und v
  | .nn sz l, v => RepAt G w (.nn sz l) v
  | .ptr b o, v => RepAt G w (.ptr b o) v
  | .eptr cs, v => RepAt G w (.eptr cs) v
def RepV (P : Program) (G : Gh) (w : World) (loc : Loc) (i : Nat) : PV → Value → Prop
  | .agg l, v => ∃ cs : Array Value, v = .agg cs ∧ cs.size = l.length ∧ (∀ u ∈ cs, u.oneCell' = true) ∧ ∀ (j : Nat) x u, l[j]? = some x → cs[j]? = some u → RepC P G w (loc, i, j) x u
  | x, v => RepC P G w (loc, i, 0) x v
def RepT (P : Program) (G : Gh) (w : World) (loc : Loc) : PV → Value → Prop
  | .tup l, v => ∃ vs : Array Value, v = .tuple vs ∧ vs.size = l.length ∧ ∀ (i : Nat) x u, l[i]? = some x → vs[i]? = some u → RepV P G w loc i x u
  | x, v => RepV P G w loc 0 x v
def BoxAt (P : Program) (G : Gh) (w : World) (b : BN) (cells : List PV) : Prop :=
  ∃ (cs : Array Value) (e : TypeId), w.heap[G.β b]? = some (.cells cs e (0, 0)) ∧ cells.length ≤ cs.size ∧ (∀ (j : Nat) u, j < cells.length → cs[j]? = some u → u.oneCell' = true) ∧
    ∀ (j : Nat) x u, cells[j]? = some x → cs[j]? = some u → RepC P G w (.b b, 0, j) x u

/-- The state of a function that runs: its temporaries, the variables that lie in memory. -/
structure St where
  tm : Nat → PV
  bx : BN → Option (List PV)

/-- What is true of memory, whatever the temporaries hold. -/
structure Hp (P : Program) (G : Gh) (w : World) (B : BN → Option (List PV)) : Prop where
  bx : ∀ b cells, B b = some cells → BoxAt P G w b cells
  live : ∀ b, G.live b ↔ (B b).isSome = true
  inj : ∀ b b', G.live b → G.live b' → G.β b = G.β b' → b = b'
  imlt : ∀ g o, G.im g o → g < w.heap.size
  ownlt : ∀ g p, G.own g = some p → g < w.heap.size
  boxim : ∀ b, G.live b → ∀ o, ¬ G.im (G.β b) o
  boxown : ∀ b, G.live b → G.own (G.β b) = none

/-- How the run began. -/
structure Fr where
  nt : Nat
  S0 : Nat → Nat → Prop
  w0 : World
  Wr : Nat → Prop
  βa : Nat → Nat
  Z : Nat → Prop
/-- What is true since the run began. -/
structure Since (F : Fr) (G : Gh) (w : World) : Prop where
  ext : Ext F.S0 F.w0 G.im w F.Wr
  own : ∀ g p, G.own g = some p → F.w0.heap.size ≤ g ∨ F.Wr g
  box : ∀ b, G.live b → F.w0.heap.size ≤ G.β b ∨ F.Wr (G.β b)
  βa : ∀ k, G.β (.a k) = F.βa k
  fz : ∀ g, G.fz g → g < F.w0.heap.size ∧ ¬ F.Wr g
  fzm : ∀ g, g < F.w0.heap.size → ¬ F.Wr g → G.fz g

/-! Tables of the program's packages: they stay as they are. -/
def tabs : List (String × IntKind × List Int) := [("internal/strconv.uint64pow10", .u64, Lib.pow10Tab)]
def isTab (P : Program) (g : Nat) : Prop := ∃ x ∈ tabs, P.globalNamed x.1 = some g
def TabOk (P : Program) (fz : Nat → Prop) (w : World) : Prop := ∀ x ∈ tabs, ∀ g, P.globalNamed x.1 = some g → fz g ∧ Lib.TabIs P w x.1 x.2.1 x.2.2
theorem TabIs.lt {P : Program} {w : World} {name : String} {k : IntKind} {zs : List Int} {g : Nat} (h : Lib.TabIs P w name k zs) (hg : P.globalNamed name = some g) : g < w.heap.size := by
  unfold Lib.TabIs World.var? at h
  rw [hg] at h
  simp only [Option.bind_some] at h
  split at h
  · rename_i cs _ _ hc; exact (Array.getElem?_eq_some_iff.1 hc).1
  · cases h
theorem TabIs.same {P : Program} {w w' : World} {name : String} {k : IntKind} {zs : List Int} {g : Nat} (h : Lib.TabIs P w name k zs) (hg : P.globalNamed name = some g) (hw : w'.heap[g]? = w.heap[g]?) : Lib.TabIs P w' name k zs := by
  unfold Lib.TabIs World.var? at h ⊢
  rw [hg] at h ⊢
  simp only [Option.bind_some] at h ⊢
  rw [hw]; exact h
theorem TabOk.mono {P : Program} {fz fz' : Nat → Prop} {w w' : World} (h : TabOk P fz w) (hz : ∀ g, fz g → w'.heap[g]? = w.heap[g]?) (hfz : ∀ g, fz g → g < w.heap.size → fz' g) : TabOk P fz' w' := fun x hx g hg =>
  ⟨hfz g (h x hx g hg).1 (TabIs.lt (h x hx g hg).2 hg), TabIs.same (h x hx g hg).2 hg (hz g (h x hx g hg).1)⟩
theorem TabOk.none {P : Program} (hP : ∀ x ∈ tabs, P.globalNamed x.1 = Option.none) (fz : Nat → Prop) (w : World) : TabOk P fz w := fun x hx g hg => by rw [hP x hx] at hg; cases hg
structure Rel (P : Program) (F : Fr) (G : Gh) (st : St) (a : Act) (w : World) : Prop where
  tm : ∀ t, RepT P G w (.t t) (st.tm t) (a.tmps.getD t undef)
  hp : Hp P G w st.bx
  sn : Since F G w
  nt : a.tmps.size = F.nt
  defers : a.defers = []
  z : ∀ g, F.Z g → FreeB G w g ∧ KindSame F.w0 w g
  tab : TabOk P G.fz w

abbrev Pos := Loc × Nat × Nat
/-- A copy that is nobody's own. -/
def PV.bC : PV → PV
  | .own _ sz l => .d (.sl sz l)
  | .dp x => .d x
  | x => x
def PV.bV : PV → PV
  | .agg l => .agg (l.map PV.bC)
  | x => x.bC
def PV.bT : PV → PV
  | .tup l => .tup (l.map PV.bV)
  | x => x.bV
def Gh.relabel (G : Gh) (f : Pos → Pos) : Gh := { G with own := fun g => (G.own g).map f }

/-- From one ghost and world to the next: what was said of slots at the positions of kp stays true. -/
structure GStep (G : Gh) (w : World) (G' : Gh) (w' : World) (kp : Pos → Pos → Prop) : Prop where
  keep : Keep G.im w G'.im w'
  β : ∀ b, G.live b → G'.live b ∧ G'.β b = G.β b
  fz : G'.fz = G.fz
  hz : ∀ g, G.fz g → w'.heap[g]? = w.heap[g]?
  size : w.heap.size ≤ w'.heap.size
  own : ∀ g p q, G.own g = some p → kp p q → G'.own g = some q ∧ w'.heap[g]? = w.heap[g]? ∧ ∀ o, G'.im g o → G.im g o
  free : ∀ o g, (o = none ∨ o = some qpos) → FreeO G w o g → FreeO G' w' o g ∧ SameO w w' g o
theorem cell_of_heap {w w' : World} {g : Nat} (h : w'.heap[g]? = w.heap[g]?) (o : Nat) : w'.cell? ⟨g, o, none⟩ = w.cell? ⟨g, o, none⟩ := World.cell?_of_block (w := w) (w' := w') (a := ⟨g, o, none⟩) h
theorem GStep.freeK {G G' : Gh} {w w' : World} {kp : Pos → Pos → Prop} (h : GStep G w G' w' kp) : ∀ g, FreeB G w g → FreeB G' w' g ∧ KindSame w w' g :=
  fun g hg => ⟨(h.free _ g (.inl rfl) hg).1, (h.free _ g (.inl rfl) hg).2.kindN⟩
theorem GStep.freeQ {G G' : Gh} {w w' : World} {kp : Pos → Pos → Prop} (h : GStep G w G' w' kp) : Keep (fun b _ => FreeQ G w b) w (fun b _ => FreeQ G' w' b) w' := fun b o hb => ⟨(h.free _ b (.inr rfl) hb).1, cell_of_heap (h.free _ b (.inr rfl) hb).2.heapQ o⟩

theorem RepAt.step {G G' : Gh} {w w' : World} {kp : Pos → Pos → Prop} (h : GStep G w G' w' kp) {x : PV} {v : Value} (hx : RepAt G w x v) : RepAt G' w' x v := by
  cases x <;> simp only [RepAt] at hx ⊢
  case d x => exact ⟨hx.1.keep h.keep, hx.2⟩
  case nilS => exact hx
  case und => exact hx
  case nn sz l => exact ⟨hx.1.keep h.keep, hx.2⟩
  case ptr b o => exact ⟨by rw [(h.β b hx.2).2]; exact hx.1, (h.β b hx.2).1⟩
  case eptr cs => obtain ⟨g, o, hv, hr⟩ := hx; exact ⟨g, o, hv, hr.keep h.keep⟩
theorem OwnAt.step {G G' : Gh} {w w' : World} {kp : Pos → Pos → Prop} (h : GStep G w G' w' kp) {p q : Pos} (hp : kp p q) {e sz : Nat} {l : List PD} {v : Value}
    (hx : OwnAt G w p e sz l v) : OwnAt G' w' q e sz l v := by
  refine ⟨hx.1.keep h.keep, hx.2.imp (fun ⟨h1, h2⟩ => ⟨h1, fun hl g hg => ⟨(h.own g p q (h2 hl g hg).1 hp).1, by rw [(h.own g p q (h2 hl g hg).1 hp).2.1]; exact (h2 hl g hg).2⟩⟩) fun ⟨vs, ho, hu, hg⟩ => ⟨vs, ⟨ho.1, ?_⟩, hu, fun g hvg => ?_⟩⟩
  · rcases ho.2 with hn | ⟨g, cap, cur, rfl, hb, hgg, rest⟩
    · exact .inl hn
    · exact .inr ⟨g, cap, cur, rfl, hb, by rw [(h.own g p q (hg g rfl).1 hp).2.1]; exact hgg, rest⟩
  · obtain ⟨h1, h2, h3⟩ := hg g hvg
    obtain ⟨k1, k2, k3⟩ := h.own g p q h1 hp
    exact ⟨k1, fun i hi => (h.keep g i (h2 i hi)).1, fun i hi hc => h3 i hi (k3 i hc)⟩
theorem Mine.step {G G' : Gh} {w w' : World} {kp : Pos → Pos → Prop} (h : GStep G w G' w' kp) {p q : Pos} (hp : kp p q) : Keep (Mine G w p) w (Mine G' w' q) w' := fun b o ⟨h1, h2, cs, e, h3⟩ =>
  ⟨⟨(h.keep b o h1).1, (h.own b p q h2 hp).1, cs, e, by rw [(h.own b p q h2 hp).2.1]; exact h3⟩, (h.keep b o h1).2⟩
theorem Mine.im (G : Gh) (w : World) (p : Pos) : Keep (Mine G w p) w G.im w := fun b o h => ⟨h.1, rfl⟩
theorem RepC.step {P : Program} {G G' : Gh} {w w' : World} {kp : Pos → Pos → Prop} (h : GStep G w G' w' kp) {p q : Pos} (hp : kp p q) {x : PV} {v : Value}
    (hx : RepC P G w p x v) : RepC P G' w' q x v := by
  cases x <;> simp only [RepC] at hx ⊢
  case own e sz l => exact hx.step h hp
  case clo f caps => obtain ⟨vs, hv, hl, hr⟩ := hx; exact ⟨vs, hv, hl, fun i x u h1 h2 => (hr i x u h1 h2).step h⟩
  case fn K => rw [h.fz]; exact hx.keep h.keep h.hz h.size
  case efn K => obtain ⟨g, o, u, h1, h2, h3, h4⟩ := hx; exact ⟨g, o, u, h1, (h.keep g o h2).1, (h.keep g o h2).2.trans h3, by rw [h.fz]; exact h4.keep h.keep h.hz h.size⟩
  case dp x => exact ⟨hx.1.keep (Mine.step h hp), hx.2⟩
  case one => exact hx
  case rsl b e sz n => exact ⟨by rw [(h.β b hx.2.1).2]; exact hx.1, (h.β b hx.2.1).1, hx.2.2⟩
  case rsv b sz n => obtain ⟨c, h1, h2, h3, h4⟩ := hx; exact ⟨c, h1, by rw [(h.β b h3).2]; exact h2, (h.β b h3).1, h4⟩
  case q x => exact ⟨hx.1.keep h.freeQ, hx.2⟩
  case zs x => exact ⟨hx.1.kind h.freeK, hx.2⟩
  case zp cs => obtain ⟨g, o, h1, h2⟩ := hx; exact ⟨g, o, h1, h2.kind h.freeK⟩
  all_goals exact hx.step h
theorem RepV.step {P : Program} {G G' : Gh} {w w' : World} {kp : Pos → Pos → Prop} (h : GStep G w G' w' kp) {loc loc' : Loc} {i i' : Nat} (hp : ∀ j, kp (loc, i, j) (loc', i', j)) {x : PV} {v : Value}
    (hx : RepV P G w loc i x v) : RepV P G' w' loc' i' x v := by
  cases x <;> simp only [RepV] at hx ⊢
  case agg l => obtain ⟨cs, hv, hl, h1, hr⟩ := hx; exact ⟨cs, hv, hl, h1, fun j x u h1 h2 => (hr j x u h1 h2).step h (hp j)⟩
  all_goals exact RepC.step h (hp 0) hx
theorem RepT.step {P : Program} {G G' : Gh} {w w' : World} {kp : Pos → Pos → Prop} (h : GStep G w G' w' kp) {loc loc' : Loc} (hp : ∀ i j, kp (loc, i, j) (loc', i, j)) {x : PV} {v : Value}
    (hx : RepT P G w loc x v) : RepT P G' w' loc' x v := by
  cases x <;> simp only [RepT] at hx ⊢
  case tup l => obtain ⟨vs, hv, hl, hr⟩ := hx; exact ⟨vs, hv, hl, fun i x u h1 h2 => (hr i x u h1 h2).step h (hp i)⟩
  all_goals exact RepV.step h (hp 0) hx
theorem BoxAt.step {P : Program} {G G' : Gh} {w w' : World} {kp : Pos → Pos → Prop} (h : GStep G w G' w' kp) {b : BN} (hl : G.live b) (hp : ∀ j, kp (.b b, 0, j) (.b b, 0, j)) (hw : w'.heap[G.β b]? = w.heap[G.β b]?)
    {cells : List PV} (hx : BoxAt P G w b cells) : BoxAt P G' w' b cells := by
  obtain ⟨cs, e, h1, h2, h3, h4⟩ := hx
  exact ⟨cs, e, by rw [(h.β b hl).2, hw]; exact h1, h2, h3, fun j x u hx hu => (h4 j x u hx hu).step h (hp j)⟩

/-- What is empty and one's own is so at every place. -/
theorem OwnAt.full0 {G : Gh} {w : World} {p : Pos} {e sz : Nat} {v : Value} (h : OwnAt G w p e sz [] v) : Full 0 v := by
  rcases h.2 with ⟨h1, -⟩ | ⟨vs, -, h2, -⟩
  · exact h1
  · exact absurd rfl h2.1
theorem OwnAt.any0 {G : Gh} {w : World} {p : Pos} {e sz : Nat} {v : Value} (h : OwnAt G w p e sz [] v) (q : Pos) : OwnAt G w q e sz [] v := ⟨h.1, .inl ⟨h.full0, fun h => absurd rfl h⟩⟩
theorem OwnAt.data {G : Gh} {w : World} {p : Pos} {e sz : Nat} {l : List PD} {v : Value} (h : OwnAt G w p e sz l v) : RepD G.im w (.sl sz l) v := h.1
theorem RepC.bC {P : Program} {G : Gh} {w : World} {p : Pos} (q : Pos) {x : PV} {v : Value} (h : RepC P G w p x v) : RepC P G w q x.bC v := by
  cases x <;> first | exact h | exact ⟨OwnAt.data h, rfl⟩ | exact ⟨h.1.keep (Mine.im G w p), h.2⟩
theorem RepV.bV {P : Program} {G : Gh} {w : World} {loc : Loc} {i : Nat} (loc' : Loc) (i' : Nat) {x : PV} {v : Value} (h : RepV P G w loc i x v) : RepV P G w loc' i' x.bV v := by
  cases x
  case agg l =>
    obtain ⟨cs, hv, hl, h1, hr⟩ := h
    refine ⟨cs, hv, by simpa using hl, h1, fun j x u hx hu => ?_⟩
    rw [List.getElem?_map] at hx
    obtain ⟨y, hy, rfl⟩ := Option.map_eq_some_iff.1 hx
    exact (hr j y u hy hu).bC _
  case dp y => exact RepC.bC (P := P) (p := (loc, i, 0)) (loc', i', 0) (x := .dp y) h
  all_goals first | exact h | exact ⟨OwnAt.data h, rfl⟩
theorem RepT.bT {P : Program} {G : Gh} {w : World} {loc : Loc} (loc' : Loc) {x : PV} {v : Value} (h : RepT P G w loc x v) : RepT P G w loc' x.bT v := by
  cases x
  case tup l =>
    obtain ⟨vs, hv, hl, hr⟩ := h
    refine ⟨vs, hv, by simpa using hl, fun j x u hx hu => ?_⟩
    rw [List.getElem?_map] at hx
    obtain ⟨y, hy, rfl⟩ := Option.map_eq_some_iff.1 hx
    exact (hr j y u hy hu).bV _ _
  case agg l => exact RepV.bV loc' 0 (x := .agg l) h
  case dp y => exact RepV.bV (P := P) (loc := loc) (i := 0) loc' 0 (x := .dp y) h
  all_goals first | exact h | exact ⟨OwnAt.data h, rfl⟩

end Go.Bee

/-
The logic's steps: what one operation does to the state, and to memory. No condition.
-/
namespace Go.Bee
set_option linter.unusedVariables false

def St.upd (st : St) (ts : List Nat) (d : Option Nat) (x : PV) (bx : BN → Option (List PV)) : St :=
  ⟨fun t => if some t = d then x else if t ∈ ts then (st.tm t).bT else st.tm t, bx⟩

theorem RepC.stepB {P : Program} {G G' : Gh} {w w' : World} {kp : Pos → Pos → Prop} (h : GStep G w G' w' kp) {p : Pos} (q : Pos) {x : PV} {v : Value} (hx : RepC P G w p x v) : RepC P G' w' q x.bC v := by
  cases x
  case own e sz l => exact ⟨(OwnAt.data hx).keep h.keep, rfl⟩
  case clo f caps => obtain ⟨vs, hv, hl, hr⟩ := hx; exact ⟨vs, hv, hl, fun i x u h1 h2 => (hr i x u h1 h2).step h⟩
  case fn K => simp only [RepC, PV.bC] at hx ⊢; rw [h.fz]; exact hx.keep h.keep h.hz h.size
  case efn K => obtain ⟨g, o, u, h1, h2, h3, h4⟩ := hx; exact ⟨g, o, u, h1, (h.keep g o h2).1, (h.keep g o h2).2.trans h3, by rw [h.fz]; exact h4.keep h.keep h.hz h.size⟩
  case dp x => exact ⟨hx.1.keep ((Mine.im G w p).trans h.keep), hx.2⟩
  case one => exact hx
  case junk => exact hx
  case agg l => exact hx
  case tup l => exact hx
  case rsl b e sz n => exact ⟨by rw [(h.β b hx.2.1).2]; exact hx.1, (h.β b hx.2.1).1, hx.2.2⟩
  case rsv b sz n => obtain ⟨c, h1, h2, h3, h4⟩ := hx; exact ⟨c, h1, by rw [(h.β b h3).2]; exact h2, (h.β b h3).1, h4⟩
  case q x => exact ⟨hx.1.keep h.freeQ, hx.2⟩
  case zs x => exact ⟨hx.1.kind h.freeK, hx.2⟩
  case zp cs => obtain ⟨g, o, h1, h2⟩ := hx; exact ⟨g, o, h1, h2.kind h.freeK⟩
  all_goals (simp only [RepC, PV.bC] at hx ⊢; exact RepAt.step h hx)
theorem RepV.stepB {P : Program} {G G' : Gh} {w w' : World} {kp : Pos → Pos → Prop} (h : GStep G w G' w' kp) {loc : Loc} {i : Nat} (loc' : Loc) (i' : Nat) {x : PV} {v : Value} (hx : RepV P G w loc i x v) : RepV P G' w' loc' i' x.bV v := by
  cases x
  case agg l =>
    obtain ⟨cs, hv, hl, h1, hr⟩ := hx
    refine ⟨cs, hv, by simpa using hl, h1, fun j x u hx hu => ?_⟩
    rw [List.getElem?_map] at hx
    obtain ⟨y, hy, rfl⟩ := Option.map_eq_some_iff.1 hx
    exact (hr j y u hy hu).stepB h _
  case own e sz l => exact RepC.stepB (P := P) (p := (loc, i, 0)) (x := .own e sz l) h (loc', i', 0) hx
  case clo f caps => exact RepC.stepB (P := P) (p := (loc, i, 0)) (x := .clo f caps) h (loc', i', 0) hx
  case fn K => exact RepC.stepB (P := P) (p := (loc, i, 0)) (x := .fn K) h (loc', i', 0) hx
  case efn K => exact RepC.stepB (P := P) (p := (loc, i, 0)) (x := .efn K) h (loc', i', 0) hx
  case dp y => exact RepC.stepB (P := P) (p := (loc, i, 0)) (x := .dp y) h (loc', i', 0) hx
  case one => exact hx
  case junk => exact hx
  case tup l => exact hx
  case d y => exact RepC.stepB (P := P) (p := (loc, i, 0)) (x := .d y) h (loc', i', 0) hx
  case nilS => exact RepC.stepB (P := P) (p := (loc, i, 0)) (x := .nilS) h (loc', i', 0) hx
  case und => exact RepC.stepB (P := P) (p := (loc, i, 0)) (x := .und) h (loc', i', 0) hx
  case nn sz l => exact RepC.stepB (P := P) (p := (loc, i, 0)) (x := .nn sz l) h (loc', i', 0) hx
  case rsl b e sz n => exact RepC.stepB (P := P) (p := (loc, i, 0)) (x := .rsl b e sz n) h (loc', i', 0) hx
  case rsv b sz n => exact RepC.stepB (P := P) (p := (loc, i, 0)) (x := .rsv b sz n) h (loc', i', 0) hx
  case q y => exact RepC.stepB (P := P) (p := (loc, i, 0)) (x := .q y) h (loc', i', 0) hx
  case zs y => exact RepC.stepB (P := P) (p := (loc, i, 0)) (x := .zs y) h (loc', i', 0) hx
  case zp y => exact RepC.stepB (P := P) (p := (loc, i, 0)) (x := .zp y) h (loc', i', 0) hx
  case ptr b o => exact RepC.stepB (P := P) (p := (loc, i, 0)) (x := .ptr b o) h (loc', i', 0) hx
  case eptr cs => exact RepC.stepB (P := P) (p := (loc, i, 0)) (x := .eptr cs) h (loc', i', 0) hx
theorem RepT.stepB {P : Program} {G G' : Gh} {w w' : World} {kp : Pos → Pos → Prop} (h : GStep G w G' w' kp) {loc : Loc} (loc' : Loc) {x : PV} {v : Value} (hx : RepT P G w loc x v) : RepT P G' w' loc' x.bT v := by
  cases x
  case tup l =>
    obtain ⟨vs, hv, hl, hr⟩ := hx
    refine ⟨vs, hv, by simpa using hl, fun j x u hx hu => ?_⟩
    rw [List.getElem?_map] at hx
    obtain ⟨y, hy, rfl⟩ := Option.map_eq_some_iff.1 hx
    exact (hr j y u hy hu).stepB h _ _
  case own e sz l => exact RepV.stepB (P := P) (loc := loc) (i := 0) (x := .own e sz l) h loc' 0 hx
  case clo f caps => exact RepV.stepB (P := P) (loc := loc) (i := 0) (x := .clo f caps) h loc' 0 hx
  case fn K => exact RepV.stepB (P := P) (loc := loc) (i := 0) (x := .fn K) h loc' 0 hx
  case efn K => exact RepV.stepB (P := P) (loc := loc) (i := 0) (x := .efn K) h loc' 0 hx
  case dp y => exact RepV.stepB (P := P) (loc := loc) (i := 0) (x := .dp y) h loc' 0 hx
  case one => exact hx
  case junk => exact hx
  case agg l => exact RepV.stepB (P := P) (loc := loc) (i := 0) (x := .agg l) h loc' 0 hx
  case d y => exact RepV.stepB (P := P) (loc := loc) (i := 0) (x := .d y) h loc' 0 hx
  case nilS => exact RepV.stepB (P := P) (loc := loc) (i := 0) (x := .nilS) h loc' 0 hx
  case und => exact RepV.stepB (P := P) (loc := loc) (i := 0) (x := .und) h loc' 0 hx
  case nn sz l => exact RepV.stepB (P := P) (loc := loc) (i := 0) (x := .nn sz l) h loc' 0 hx
  case rsl b e sz n => exact RepV.stepB (P := P) (loc := loc) (i := 0) (x := .rsl b e sz n) h loc' 0 hx
  case rsv b sz n => exact RepV.stepB (P := P) (loc := loc) (i := 0) (x := .rsv b sz n) h loc' 0 hx
  case q y => exact RepV.stepB (P := P) (loc := loc) (i := 0) (x := .q y) h loc' 0 hx
  case zs y => exact RepV.stepB (P := P) (loc := loc) (i := 0) (x := .zs y) h loc' 0 hx
  case zp y => exact RepV.stepB (P := P) (loc := loc) (i := 0) (x := .zp y) h loc' 0 hx
  case ptr b o => exact RepV.stepB (P := P) (loc := loc) (i := 0) (x := .ptr b o) h loc' 0 hx
  case eptr cs => exact RepV.stepB (P := P) (loc := loc) (i := 0) (x := .eptr cs) h loc' 0 hx
theorem RepC.stepC {P : Program} {G G' : Gh} {w w' : World} {kp : Pos → Pos → Prop} (h : GStep G w G' w' kp) {p : Pos} (q : Pos) {x : PV} {v : Value} (hx : RepC P G w p x v) (hb : x.bC = x) : RepC P G' w' q x v := by
  rw [← hb]; exact hx.stepB h q

theorem GStep.refl (G : Gh) (w : World) : GStep G w G w (fun p q => p = q) :=
  ⟨Keep.refl _ _, fun _ h => ⟨h, rfl⟩, rfl, fun _ _ => rfl, Nat.le_refl _, fun g p q h e => ⟨by rw [h, e], rfl, fun _ h => h⟩, fun o g _ h => ⟨h, .heap rfl⟩⟩
theorem FreeO.relabel {G : Gh} {w : World} {o : Option Pos} {g : Nat} (h : FreeO G w o g) {f : Pos → Pos} (hf : f qpos = qpos) (ho : o = none ∨ o = some qpos) : FreeO (G.relabel f) w o g :=
  ⟨h.1, by rcases ho with rfl | rfl <;> simp [Gh.relabel, h.2.1, hf], h.2.2⟩
theorem GStep.relabel (G : Gh) (w : World) (f : Pos → Pos) (hf : f qpos = qpos) : GStep G w (G.relabel f) w (fun p q => q = f p) :=
  ⟨Keep.refl _ _, fun _ h => ⟨h, rfl⟩, rfl, fun _ _ => rfl, Nat.le_refl _, fun g p q h e => ⟨by simp [Gh.relabel, h, e], rfl, fun _ h => h⟩, fun o g ho h => ⟨h.relabel hf ho, .heap rfl⟩⟩

theorem Rel.next {P : Program} {F : Fr} {G : Gh} {st : St} {a : Act} {w : World} (h : Rel P F G st a w) {G' : Gh} {w' : World} {kp : Pos → Pos → Prop} (hg : GStep G w G' w' kp)
    {ts : List Nat} {d : Option Nat} {x : PV} {v : Value} {bx : BN → Option (List PV)}
    (hk : ∀ t, t ∉ ts → some t ≠ d → ∀ i j, kp (.t t, i, j) (.t t, i, j)) (hx : ∀ d', d = some d' → RepT P G' w' (.t d') x v) (hd : ∀ d', d = some d' → d' < F.nt)
    (hp : Hp P G' w' bx) (sn : Since F G' w') : Rel P F G' (st.upd ts d x bx) (a.put d v) w' := by
  have hsz : (a.put d v).tmps.size = a.tmps.size := by cases d <;> simp [Act.put]
  refine ⟨fun t => ?_, hp, sn, hsz.trans h.nt, by cases d <;> simpa [Act.put] using h.defers, fun g hz => ⟨(hg.free _ g (.inl rfl) (h.z g hz).1).1, (h.z g hz).2.trans (hg.free _ g (.inl rfl) (h.z g hz).1).2.kindN⟩, h.tab.mono hg.hz (fun g h1 _ => by rw [hg.fz]; exact h1)⟩
  have hother : some t ≠ d → (a.put d v).tmps.getD t undef = a.tmps.getD t undef := by
    intro hne
    cases d with
    | none => rfl
    | some d' =>
      have : d' ≠ t := fun e => hne (by rw [e])
      simp [Act.put, Array.getD_eq_getD_getElem?, this]
  simp only [St.upd]
  by_cases htd : some t = d
  · rw [if_pos htd]
    obtain rfl := htd.symm
    have hlt := hd t rfl
    have : (a.put (some t) v).tmps.getD t undef = v := by
      simp [Act.put, Array.getD_eq_getD_getElem?, h.nt, hlt]
    rw [this]
    exact hx t rfl
  · rw [if_neg htd, hother htd]
    by_cases hts : t ∈ ts
    · rw [if_pos hts]; exact (h.tm t).stepB hg _
    · rw [if_neg hts]; exact (h.tm t).step hg (hk t hts htd)

/-- A value that is nobody's own, put into a slot. -/
theorem Rel.put0 {P : Program} {F : Fr} {G : Gh} {st : St} {a : Act} {w : World} (h : Rel P F G st a w) {d : Nat} {x : PV} {v : Value} (hd : d < F.nt)
    (hx : RepT P G w (.t d) x v) : Rel P F G (st.upd [] (some d) x st.bx) (a.put (some d) v) w :=
  h.next (GStep.refl G w) (fun t _ _ i j => rfl) (fun d' e => by cases e; exact hx) (fun d' e => by cases e; exact hd) h.hp h.sn

theorem Hp.relabel {P : Program} {G : Gh} {w : World} {B : BN → Option (List PV)} (h : Hp P G w B) (f : Pos → Pos) (hf : ∀ b j, f (.b b, 0, j) = (.b b, 0, j)) (hq : f qpos = qpos) : Hp P (G.relabel f) w B := by
  refine ⟨fun b cells hb => (h.bx b cells hb).step (GStep.relabel G w f hq) ((h.live b).2 (by simp [hb])) (fun j => (hf b j).symm) rfl, h.live, h.inj, h.imlt, fun g p hg => ?_, h.boxim, fun b hb => ?_⟩
  · simp only [Gh.relabel, Option.map_eq_some_iff] at hg
    obtain ⟨q, hq, _⟩ := hg
    exact h.ownlt g q hq
  · simp [Gh.relabel, h.boxown b hb]
theorem Since.relabel {F : Fr} {G : Gh} {w : World} (h : Since F G w) (f : Pos → Pos) : Since F (G.relabel f) w := by
  refine ⟨h.ext, fun g p hg => ?_, h.box, h.βa, h.fz, h.fzm⟩
  simp only [Gh.relabel, Option.map_eq_some_iff] at hg
  obtain ⟨q, hq, _⟩ := hg
  exact h.own g q hq

/-- From slot s to slot d. -/
def mvT (s d : Nat) (p : Pos) : Pos := if p.1 = .t s then (.t d, p.2) else p
theorem Rel.moveT {P : Program} {F : Fr} {G : Gh} {st : St} {a : Act} {w : World} (h : Rel P F G st a w) {s d : Nat} (hd : d < F.nt) :
    ∃ G', Rel P F G' (st.upd [s] (some d) (st.tm s) st.bx) (a.put (some d) (a.tmps.getD s undef)) w := by
  refine ⟨G.relabel (mvT s d), h.next (GStep.relabel G w (mvT s d) rfl) (fun t ht _ i j => ?_) (fun d' e => ?_) (fun d' e => by cases e; exact hd) (h.hp.relabel _ ?_ rfl) (h.sn.relabel _)⟩
  · have : t ≠ s := by simpa using ht
    simp [mvT, this]
  · cases e
    exact (h.tm s).step (GStep.relabel G w (mvT s d) rfl) (fun i j => by simp [mvT])
  · intro b j; simp [mvT]

end Go.Bee

/-
The logic's operations: what each yields. No condition.
-/
namespace Go.Bee
set_option linter.unusedVariables false

def PV.isJunk : PV → Bool
  | .junk => true
  | _ => false
def cpc : Value → PV
  | .bool b => .d (.bool b)
  | .int k n => .d (.int k n)
  | .string s => if s.data.toList.length ≤ 140737488355328 then .d (.str s.data.toList) else .junk
  | .slice none n c => if n = 0 ∧ c = 0 then .nilS else .junk
  | .func (.func f) first caps => if first.toList = [] ∧ caps.toList = [] then .clo f [] else .junk
  | .nilFunc => .one
  | .pointer none => .one
  | .nilIface => .one
  | _ => .junk
def cpv : Value → PV
  | .agg _ => .junk
  | .tuple _ => .junk
  | v => cpc v
theorem cpc_rep {P : Program} {G : Gh} {w : World} (p : Pos) (v : Value) : RepC P G w p (cpc v) v := by
  unfold cpc
  split
  · exact ⟨.bool _, rfl⟩
  · exact ⟨.int _ _, rfl⟩
  · rename_i s
    split
    · rename_i hb
      refine ⟨?_, rfl⟩
      have := RepD.str (S := G.im) (w := w) s.data.toList hb
      simpa using this
    · trivial
  · split
    · rename_i h; obtain ⟨rfl, rfl⟩ := h; exact rfl
    · trivial
  · split
    · rename_i f a b h
      obtain ⟨h1, h2⟩ := h
      obtain rfl : a = #[] := by simpa using h1
      obtain rfl : b = #[] := by simpa using h2
      exact ⟨#[], rfl, rfl, by intro i x u h; simp at h⟩
    · trivial
  · rfl
  · rfl
  · rfl
  · trivial
theorem cpc_cell {v : Value} (h : (cpc v).isJunk = false) : v.oneCell' = true := by
  unfold cpc at h
  split at h <;> first | rfl | (simp [PV.isJunk] at h; done)
theorem cpv_rep {P : Program} {G : Gh} {w : World} (loc : Loc) (v : Value) : RepT P G w loc (cpv v) v := by
  have key : RepT P G w loc (cpc v) v := by
    have h := cpc_rep (P := P) (G := G) (w := w) (loc, 0, 0) v
    generalize hx : cpc v = x at h
    cases x <;> first | exact h | (simp only [RepC] at h)
  unfold cpv
  split
  · trivial
  · trivial
  · exact key

def St.ev (st : St) : Operand → PV
  | .tmp t => st.tm t
  | .const v => cpv v
  | .global _ => .junk
  | .func f => .clo f []
def opLoc : Operand → Loc
  | .tmp t => .t t
  | _ => .res
theorem Rel.ev {P : Program} {F : Fr} {G : Gh} {st : St} {a : Act} {w : World} (h : Rel P F G st a w) (x : Operand) : RepT P G w (opLoc x) (st.ev x) (a.eval x) := by
  cases x with
  | tmp t => exact h.tm t
  | const v => exact cpv_rep _ v
  | global g => trivial
  | func f => exact ⟨#[], rfl, rfl, by intro i x u h; simp at h⟩

structure TI where
  sz : Nat
  by_ : Nat
  agg : Bool
  el : Option TypeId
  str : Bool
  bool : Bool
  ref : Bool
  ptr : Bool
  int : Option IntKind
  fl : List (Option (Nat × Nat × Bool))
  zero : List PV
def tyi (P : Program) (t : TypeId) : Option TI :=
  match P.info? t, P.underlying t with
  | some i, some d => some {
      sz := i.size, by_ := i.bytes,
      agg := (match d with | .struct _ => true | .array _ _ => true | _ => false),
      el := (match d with | .slice e => some e | _ => none),
      str := (match d with | .string => true | _ => false),
      bool := (match d with | .bool => true | _ => false),
      ref := (match d with | .bool => false | .int _ => false | .string => false | .slice _ => false | .struct _ => false | _ => true),
      ptr := (match d with | .pointer _ => true | _ => false),
      int := (match d with | .int k => some k | _ => none),
      fl := (match d with
        | .struct fs => fs.toList.map (fun f => match P.info? f.type, P.underlying f.type with
          | some i, some d => some (f.offset, i.size, match d with | .struct _ => true | .array _ _ => true | _ => false)
          | _, _ => none)
        | _ => []),
      zero := ((i.zero.map fun v => v.cells.toList.map cpc).getD [])  }
  | _, _ => none

theorem tyi_spec {P : Program} {t : TypeId} {i : TI} (h : tyi P t = some i) : ∃ i' d, P.info? t = some i' ∧ P.underlying t = some d ∧ i.sz = i'.size ∧ i.by_ = i'.bytes ∧
    i.agg = (match d with | .struct _ => true | .array _ _ => true | _ => false) ∧ i.el = (match d with | .slice e => some e | _ => none) ∧ i.str = (match d with | .string => true | _ => false) ∧
    i.int = (match d with | .int k => some k | _ => none) ∧ i.zero = ((i'.zero.map fun v => v.cells.toList.map cpc).getD []) ∧
    i.fl = (match d with
        | .struct fs => fs.toList.map (fun f => match P.info? f.type, P.underlying f.type with
          | some i, some d => some (f.offset, i.size, match d with | .struct _ => true | .array _ _ => true | _ => false)
          | _, _ => none)
        | _ => []) := by
  unfold tyi at h
  split at h
  · rename_i i' d h1 h2
    cases h
    exact ⟨i', d, h1, h2, rfl, rfl, rfl, rfl, rfl, rfl, rfl, rfl⟩
  · cases h
theorem tyi_size {P : Program} {t : TypeId} {i : TI} (h : tyi P t = some i) (w : World) : (sizeOf t).run P w = .ok i.sz w := by
  obtain ⟨i', d, h1, h2, h3, -⟩ := tyi_spec h
  simp [sizeOf, typeInfo, h1, h3]
theorem tyi_agg {P : Program} {t : TypeId} {i : TI} (h : tyi P t = some i) (w : World) : (isAgg t).run P w = .ok i.agg w := by
  obtain ⟨i', d, h1, h2, h3, h4, h5, -⟩ := tyi_spec h
  rw [h5]
  simp only [isAgg, Sem.run_bind, run_underlying h2, Result.andThen_ok]
  cases d <;> rfl

/-! Two structs are equal if each field is: bools, numbers, texts, and structs of such. -/
def pdOnly : List PV → Option (List PD)
  | [] => some []
  | .d x :: l => (pdOnly l).map fun ys => x :: ys
  | _ :: _ => none
def eqFs (P : Program) (E : TypeId → List PD → List PD → Option Bool) : List Field → List PD → List PD → Option Bool
  | [], _, _ => some true
  | f :: fs, xs, ys => if f.name = "_" then none else (tyi P f.type).bind fun i => if ¬ (f.offset + i.sz ≤ xs.length ∧ f.offset + i.sz ≤ ys.length ∧ (i.agg = true ∨ i.sz = 1)) then none else
      (E f.type ((xs.drop f.offset).take i.sz) ((ys.drop f.offset).take i.sz)).bind fun r => (eqFs P E fs xs ys).map fun r' => r && r'
def eqAt (P : Program) : Nat → TypeId → List PD → List PD → Option Bool
  | 0, _, _, _ => none
  | d + 1, t, xs, ys => match P.underlying t with
    | some .bool => match xs, ys with
      | [.bool a], [.bool b] => some (a == b)
      | _, _ => none
    | some (.int _) => match xs, ys with
      | [.int k a], [.int k' b] => if k = k' then some (a == b) else none
      | _, _ => none
    | some .string => match xs, ys with
      | [.str a], [.str b] => some (a == b)
      | _, _ => none
    | some (.struct fs) => if P.stoodInHeld t = true then none else eqFs P (eqAt P d) fs.toList xs ys
    | _ => none
/-- A value of type t with these cells. -/
def AsV (P : Program) (S : Nat → Nat → Prop) (w : World) (t : TypeId) (xs : List PD) (u : Value) : Prop :=
  ∀ i, tyi P t = some i → (i.agg = true → ∃ cs : Array Value, u = .agg cs ∧ cs.size = xs.length ∧ ∀ (j : Nat) x v, xs[j]? = some x → cs[j]? = some v → RepD S w x v) ∧ (i.agg = false → ∀ x, xs = [x] → RepD S w x u)
theorem part_ok {P : Program} {S : Nat → Nat → Prop} {w : World} {t : TypeId} {ti : TI} {off : Nat} {zs : List PD} {cz : Array Value} (hti : tyi P t = some ti) (hle : off + ti.sz ≤ zs.length) (hz : ti.agg = true ∨ ti.sz = 1) (hz1 : cz.size = zs.length)
    (hz2 : ∀ (j : Nat) x v, zs[j]? = some x → cz[j]? = some v → RepD S w x v) : ∃ pv, (part t cz off).run P w = .ok pv w ∧ AsV P S w t ((zs.drop off).take ti.sz) pv := by
  cases hg : ti.agg
  · have h1 : ti.sz = 1 := hz.resolve_left (by rw [hg]; simp)
    have hlt : off < cz.size := by omega
    have hlz : off < zs.length := by omega
    refine ⟨cz[off], by simp [part, tyi_agg hti, hg, Array.getElem?_eq_getElem hlt], fun i' hi' => ?_⟩
    rw [hti] at hi'; cases hi'
    refine ⟨fun h => (by rw [hg] at h; cases h), fun _ y hy => ?_⟩
    rw [h1, List.drop_eq_getElem_cons hlz, List.take_succ_cons, List.take_zero] at hy
    obtain rfl := (List.cons.inj hy).1
    exact hz2 off _ _ (List.getElem?_eq_getElem hlz) (Array.getElem?_eq_getElem hlt)
  · refine ⟨.agg (cz.extract off (off + ti.sz)), by simp [part, tyi_agg hti, hg, tyi_size hti], fun i' hi' => ?_⟩
    rw [hti] at hi'; cases hi'
    refine ⟨fun _ => ⟨_, rfl, by simp; omega, fun j x v hx hv => ?_⟩, fun h => by rw [hg] at h; cases h⟩
    rw [List.getElem?_take] at hx
    split at hx
    · rw [List.getElem?_drop] at hx
      rw [Array.getElem?_extract] at hv
      split at hv
      · exact hz2 _ _ _ hx hv
      · cases hv
    · cases hx
theorem eqAt_ok {P : Program} {S : Nat → Nat → Prop} {w : World} : ∀ (d : Nat) (t : TypeId) (xs ys : List PD) (r : Bool), eqAt P d t xs ys = some r → ∀ (k : Nat) (u v : Value), (tyi P t).isSome = true → AsV P S w t xs u → AsV P S w t ys v →
    (Op.equalIn (k + d) t u v).run P w = .ok r w
  | 0, t, xs, ys, r, h, k, u, v, _, _, _ => by simp [eqAt] at h
  | d + 1, t, xs, ys, r, h, k, u, v, hi, hu, hv => by
    obtain ⟨i, hi⟩ := Option.isSome_iff_exists.1 hi
    obtain ⟨i', dd, h1, h2, h3, h4, h5, -⟩ := tyi_spec hi
    unfold eqAt at h
    rw [h2] at h
    rw [show k + (d + 1) = (k + d) + 1 from rfl]
    split at h
    · rename_i e
      cases e
      have hag : i.agg = false := h5
      split at h
      · cases h
        have a1 := (hu i hi).2 hag _ rfl
        have a2 := (hv i hi).2 hag _ rfl
        cases a1; cases a2
        exact run_equalIn_bool' w _ t _ _ h2
      · cases h
    · rename_i q e
      cases e
      have hag : i.agg = false := h5
      split at h
      · split at h
        · rename_i hk; subst hk
          cases h
          have a1 := (hu i hi).2 hag _ rfl
          have a2 := (hv i hi).2 hag _ rfl
          cases a1; cases a2
          exact run_equalIn_int w _ t _ _ _ _ h2
        · cases h
      · cases h
    · rename_i e
      cases e
      have hag : i.agg = false := h5
      split at h
      · cases h
        have a1 := (hu i hi).2 hag _ rfl
        have a2 := (hv i hi).2 hag _ rfl
        cases a1; cases a2
        rw [run_equalIn_string w _ t _ _ h2]
        simp
      · cases h
    · rename_i fs e
      cases e
      have hag : i.agg = true := h5
      split at h
      · cases h
      · rename_i hst
        obtain ⟨cs, rfl, hc1, hc2⟩ := (hu i hi).1 hag
        obtain ⟨cs', rfl, hc1', hc2'⟩ := (hv i hi).1 hag
        have hfo : P.fieldsOf t = fs := by simp [Program.fieldsOf, h2]
        rw [run_equalIn_struct w _ t cs cs' (by rw [hfo]; exact h2) (by simpa using hst), hfo]
        generalize fs.toList = l at h
        clear hfo h5 h2
        induction l generalizing r with
        | nil => simp only [eqFs, Option.some.injEq] at h; subst h; simp [Op.eqFields]
        | cons f l ih =>
          unfold eqFs at h
          split at h
          · cases h
          · rename_i hn
            simp only [Option.bind_eq_some_iff] at h
            obtain ⟨ti, hti, h⟩ := h
            split at h
            · cases h
            · rename_i hck
              simp only [Decidable.not_not] at hck
              obtain ⟨hx1, hy1, hz1⟩ := hck
              simp only [Option.bind_eq_some_iff, Option.map_eq_some_iff] at h
              obtain ⟨r1, hr1, r2, hr2, rfl⟩ := h
              obtain ⟨pa, e1, e2⟩ := part_ok hti hx1 hz1 hc1 hc2
              obtain ⟨pb, e3, e4⟩ := part_ok hti hy1 hz1 hc1' hc2'
              have e5 := eqAt_ok d f.type _ _ r1 hr1 k pa pb (by rw [hti]; rfl) e2 e4
              simp only [Op.eqFields, hn, ne_eq, not_false_eq_true, if_true, Sem.run_bind, e1, e3, e5, Result.andThen_ok]
              cases r1
              · simp
              · simpa using ih r2 hr2
    · cases h

structure AF where
  mv : Bool
  bt : Bool
  be : Bool

abbrev Bx := BN → Option (List PV)
def Bx.set (B : Bx) (b : BN) (cells : List PV) : Bx := fun c => if c = b then some cells else B c

def pvCells : PV → Option (List PV)
  | .agg l => some l
  | .tup _ => none
  | .junk => none
  | .und => none
  | x => some [x]
def mvd (mv : Bool) (x : PV) : PV := if mv then x else x.bT

def pick2 (c : Bool) : PV → PV → PV
  | .d (.bool x), .d (.bool y) => .d (.bool (if c then x else y))
  | x, y => if c then x else y

def evEq (P : Program) (op : BinOp) (t : TypeId) (xs ys : List PV) : Option PV :=
  if P.eqGuardType P.depth t = true then none else (tyi P t).bind fun i => if i.agg = false then none else (pdOnly xs).bind fun ps => (pdOnly ys).bind fun qs => (eqAt P 8 t ps qs).bind fun r =>
    match op with | .eql => some (.d (.bool r)) | .neq => some (.d (.bool (!r))) | _ => none
theorem pdOnly_get : ∀ {l : List PV} {ys : List PD}, pdOnly l = some ys → ys.length = l.length ∧ ∀ (i : Nat) y, ys[i]? = some y → l[i]? = some (.d y)
  | [], ys, h => by simp [pdOnly] at h; subst h; simp
  | x :: xs, ys, h => by
    cases x <;> simp only [pdOnly, reduceCtorEq, Option.map_eq_some_iff] at h
    obtain ⟨zs, hz, rfl⟩ := h
    obtain ⟨h1, h2⟩ := pdOnly_get hz
    refine ⟨by simp [h1], fun i y hy => ?_⟩
    cases i with
    | zero => simp at hy; subst hy; rfl
    | succ i => simp at hy; simpa using h2 i y hy
def bAnd (k : IntKind) (a b : Int) : Int := k.wrap (BitVec.ofInt k.bits a &&& BitVec.ofInt k.bits b).toNat
def bShr (k : IntKind) (a b : Int) : Int := a.fdiv (2 ^ min b.toNat k.bits)
def evBin (P : Program) (op : BinOp) (t : TypeId) : PV → PV → Option PV
  | .d (.int k a), .d (.int k' b) =>
    if k = k' then
      match op with
      | .add => some (.d (.int k (k.wrap (a + b))))
      | .sub => some (.d (.int k (k.wrap (a - b))))
      | .mul => some (.d (.int k (k.wrap (a * b))))
      | .quo => if b = 0 then none else some (.d (.int k (k.wrap (a.tdiv b))))
      | .rem => if b = 0 then none else some (.d (.int k (a.tmod b)))
      | .and => some (.d (.int k (bAnd k a b)))
      | .shr => if b < 0 then none else some (.d (.int k (bShr k a b)))
      | .eql => some (.d (.bool (a == b)))
      | .neq => some (.d (.bool (a != b)))
      | .lss => some (.d (.bool (decide (a < b))))
      | .leq => some (.d (.bool (decide (a ≤ b))))
      | .gtr => some (.d (.bool (decide (a > b))))
      | .geq => some (.d (.bool (decide (a ≥ b))))
      | _ => none
    else none
  | .d (.str a), .d (.str b) =>
    match op with
    | .add => if a.length + b.length ≤ 140737488355328 then some (.d (.str (a ++ b))) else none
    | .eql => some (.d (.bool (a == b)))
    | .neq => some (.d (.bool (!(a == b))))
    | .lss => some (.d (.bool (Op.bytesLess a b)))
    | .leq => some (.d (.bool (Op.bytesLess a b || a == b)))
    | .gtr => some (.d (.bool (!(Op.bytesLess a b || a == b))))
    | .geq => some (.d (.bool (!(Op.bytesLess a b))))
    | _ => none
  | .d (.bool a), .d (.bool b) =>
    match tyi P t with
    | some i => if i.bool then (match op with | .eql => some (.d (.bool (a == b))) | .neq => some (.d (.bool (!(a == b)))) | _ => none) else none
    | none => none
  | .nilS, .nilS => match tyi P t with
    | some i => if i.el.isSome then (match op with | .eql => some (.d (.bool true)) | .neq => some (.d (.bool false)) | _ => none) else none
    | none => none
  | .nn _ _, .nilS => match tyi P t with
    | some i => if i.el.isSome then (match op with | .eql => some (.d (.bool false)) | .neq => some (.d (.bool true)) | _ => none) else none
    | none => none
  | .agg xs, .agg ys => evEq P op t xs ys
  | _, _ => none
theorem run_eq_nil {P : Program} (w : World) (d : Nat) {t e : TypeId} (hu : P.underlying t = some (.slice e)) (n c m k : Nat) : (Op.equalIn (d + 1) t (.slice none n c) (.slice none m k)).run P w = .ok true w := by
  simp [Op.equalIn, run_underlying hu]
theorem run_eq_nn {P : Program} (w : World) (d : Nat) {t e : TypeId} (hu : P.underlying t = some (.slice e)) (a : Addr) (n c m k : Nat) : (Op.equalIn (d + 1) t (.slice (some a) n c) (.slice none m k)).run P w = .ok false w := by
  simp [Op.equalIn, run_underlying hu]
theorem beq_bytes (a b : List UInt8) : ((⟨a.toArray⟩ : ByteArray).toList == (⟨b.toArray⟩ : ByteArray).toList) = (a == b) := by simp
theorem evBin_ok {P : Program} {G : Gh} {w : World} {op : BinOp} {t : TypeId} {x y r : PV} {u v : Value} {l1 l2 : Loc} (loc : Loc) (X Y : Operand) (hx : RepT P G w l1 x u) (hy : RepT P G w l2 y v)
    (h : evBin P op t x y = some r) : ∃ rv, ((do eqGuard op t X Y u v; binOp op t u v : Sem Value)).run P w = .ok rv w ∧ RepT P G w loc r rv := by
  unfold evBin at h
  split at h
  · obtain ⟨hx, -⟩ := hx; obtain ⟨hy, -⟩ := hy
    cases hx; cases hy
    rename_i k a k' b
    split at h
    · rename_i hk; subst hk
      cases op <;> simp only [Option.some.injEq, reduceCtorEq] at h <;> first
        | (subst h; refine ⟨_, ?_, ⟨by first | exact .int _ _ | exact .bool _, rfl⟩⟩; simp [eqGuard, binOp, Op.intArith, Op.intCmp, Op.intBits, bAnd]; done)
        | (split at h
           · cases h
           · rename_i h0; cases h; refine ⟨_, ?_, ⟨.int _ _, rfl⟩⟩; simp [eqGuard, binOp, Op.intDiv, Op.shift, bShr, h0])
    · cases h
  · obtain ⟨hx, -⟩ := hx; obtain ⟨hy, -⟩ := hy
    cases hx; cases hy
    rename_i a b ha hb
    cases op <;> simp only [Option.some.injEq, reduceCtorEq] at h <;> first
      | (subst h; refine ⟨_, ?_, ⟨.bool _, rfl⟩⟩; simp [eqGuard, binOp, Op.stringOp]; done)
      | (split at h
         · rename_i hl
           cases h
           refine ⟨.string ⟨(a ++ b).toArray⟩, ?_, ⟨.str _ (by simpa using hl), rfl⟩⟩
           have h1 : ((⟨a.toArray⟩ : ByteArray).size) = a.length := by simp [ByteArray.size]
           have h2 : ((⟨b.toArray⟩ : ByteArray).size) = b.length := by simp [ByteArray.size]
           have h3 : (⟨a.toArray⟩ ++ ⟨b.toArray⟩ : ByteArray) = ⟨(a ++ b).toArray⟩ := by
             apply ByteArray.ext; simp
           have h4 : ¬ (((a.length + b.length : Nat) : Int) > 9223372036854775807) := by omega
           simp only [eqGuard, binOp, Op.stringOp, h1, h2, h3, IntKind.max_i64]
           simp only [h4]
           simp
         · cases h)
  · obtain ⟨hx, -⟩ := hx; obtain ⟨hy, -⟩ := hy
    cases hx; cases hy
    rename_i a b
    split at h
    · rename_i i hi
      split at h
      · rename_i hbool
        have hu : P.underlying t = some .bool := by
          unfold tyi at hi
          split at hi
          · rename_i i' d h1 h2
            cases hi
            simp only at hbool
            cases d <;> simp at hbool
            exact h2
          · cases hi
        cases op <;> simp only [Option.some.injEq, reduceCtorEq] at h <;> (subst h; refine ⟨_, ?_, ⟨.bool _, rfl⟩⟩)
        · simp [eqGuard, binOp, Op.equal, Op.maxDepth, run_equalIn_bool' (P := P) w _ t a b hu]
        · simp [eqGuard, binOp, Op.equal, Op.maxDepth, run_equalIn_bool' (P := P) w _ t a b hu]
      · cases h
    · cases h
  · split at h
    · rename_i i hi
      split at h
      · rename_i hel
        obtain ⟨e, he⟩ := Option.isSome_iff_exists.1 hel
        have hu : P.underlying t = some (.slice e) := by
          unfold tyi at hi
          split at hi
          · rename_i i' d h1 h2
            cases hi
            simp only at he
            cases d <;> simp at he
            subst he
            exact h2
          · cases hi
        obtain rfl : u = .slice none 0 0 := hx
        obtain rfl : v = .slice none 0 0 := hy
        cases op <;> simp only [Option.some.injEq, reduceCtorEq] at h <;> (subst h; refine ⟨_, ?_, ⟨.bool _, rfl⟩⟩)
        · simp [eqGuard, binOp, Op.equal, Op.maxDepth, run_eq_nil w 9999 hu]
        · simp [eqGuard, binOp, Op.equal, Op.maxDepth, run_eq_nil w 9999 hu]
      · cases h
    · cases h
  · split at h
    · rename_i i hi
      split at h
      · rename_i hel
        obtain ⟨e, he⟩ := Option.isSome_iff_exists.1 hel
        have hu : P.underlying t = some (.slice e) := by
          unfold tyi at hi
          split at hi
          · rename_i i' d h1 h2
            cases hi
            simp only at he
            cases d <;> simp at he
            subst he
            exact h2
          · cases hi
        obtain ⟨hd, hne⟩ := hx
        obtain rfl : v = .slice none 0 0 := hy
        have : ∃ a n c, u = .slice (some a) n c := by
          cases hd
          · exact absurd rfl (hne 0 0)
          · exact ⟨_, _, _, rfl⟩
          · exact ⟨_, _, _, rfl⟩
        obtain ⟨a, n, c, rfl⟩ := this
        cases op <;> simp only [Option.some.injEq, reduceCtorEq] at h <;> (subst h; refine ⟨_, ?_, ⟨.bool _, rfl⟩⟩)
        · simp [eqGuard, binOp, Op.equal, Op.maxDepth, run_eq_nn w 9999 hu]
        · simp [eqGuard, binOp, Op.equal, Op.maxDepth, run_eq_nn w 9999 hu]
      · cases h
    · cases h
  · rename_i xs ys
    unfold evEq at h
    split at h
    · cases h
    · rename_i hgd
      simp only [Option.bind_eq_some_iff] at h
      obtain ⟨i, hi, h⟩ := h
      split at h
      · cases h
      · rename_i hag
        simp only [Bool.not_eq_false] at hag
        simp only [Option.bind_eq_some_iff] at h
        obtain ⟨ps, hps, qs, hqs, b, hb, h⟩ := h
        obtain ⟨cs, rfl, hc1, -, hc2⟩ := hx
        obtain ⟨cs', rfl, hc1', -, hc2'⟩ := hy
        obtain ⟨hp1, hp2⟩ := pdOnly_get hps
        obtain ⟨hq1, hq2⟩ := pdOnly_get hqs
        have hrun := eqAt_ok (S := G.im) (w := w) 8 t ps qs b hb 9992 (.agg cs) (.agg cs') (by rw [hi]; rfl)
          (fun i' hi' => by
            rw [hi] at hi'; cases hi'
            exact ⟨fun _ => ⟨cs, rfl, by omega, fun j x v hx hv => (hc2 j _ v (hp2 j x hx) hv).1⟩, fun h => by rw [hag] at h; cases h⟩)
          (fun i' hi' => by
            rw [hi] at hi'; cases hi'
            exact ⟨fun _ => ⟨cs', rfl, by omega, fun j x v hx hv => (hc2' j _ v (hq2 j x hx) hv).1⟩, fun h => by rw [hag] at h; cases h⟩)
        have hg := run_eqGuard_agg (P := P) w op t X Y cs cs' (by simpa using hgd)
        cases op <;> simp only [Option.some.injEq, reduceCtorEq] at h <;> (subst h; refine ⟨_, ?_, ⟨.bool _, rfl⟩⟩)
        · simp only [Sem.run_bind, hg, Result.andThen_ok, run_eql_struct, hrun]
        · simp only [Sem.run_bind, hg, Result.andThen_ok, run_neq_struct, hrun]
  · cases h

end Go.Bee

/-
The logic's operations that turn nothing in memory. No condition.
-/
namespace Go.Bee
set_option linter.unusedVariables false

theorem tyi_el {P : Program} {t e : TypeId} {i : TI} (h : tyi P t = some i) (he : i.el = some e) : P.underlying t = some (.slice e) := by
  obtain ⟨i', d, h1, h2, h3, h4, h5, h6, -⟩ := tyi_spec h
  rw [h6] at he
  cases d <;> simp at he
  subst he; exact h2
theorem tyi_str {P : Program} {t : TypeId} {i : TI} (h : tyi P t = some i) (he : i.str = true) : P.underlying t = some .string := by
  obtain ⟨i', d, h1, h2, h3, h4, h5, h6, h7, -⟩ := tyi_spec h
  rw [h7] at he
  cases d <;> simp at he
  exact h2
theorem tyi_int {P : Program} {t : TypeId} {k : IntKind} {i : TI} (h : tyi P t = some i) (he : i.int = some k) : P.underlying t = some (.int k) := by
  obtain ⟨i', d, h1, h2, h3, h4, h5, h6, h7, h8, -⟩ := tyi_spec h
  rw [h8] at he
  cases d <;> simp at he
  subst he; exact h2
theorem tyi_fl {P : Program} {t : TypeId} {i : TI} (h : tyi P t = some i) {f off sz : Nat} {ag : Bool} (he : i.fl[f]? = some (some (off, sz, ag))) :
    ∃ fs fd, P.underlying t = some (.struct fs) ∧ fs[f]? = some fd ∧ fd.offset = off ∧ (∀ w, (sizeOf fd.type).run P w = .ok sz w) ∧ ∀ w, (isAgg fd.type).run P w = .ok ag w := by
  obtain ⟨i', d, h1, h2, h3, h4, h5, h6, h7, h8, h9, h10⟩ := tyi_spec h
  rw [h10] at he
  cases d <;> simp at he
  rename_i fs
  obtain ⟨fd, hfd, he⟩ := he
  split at he
  · rename_i j dd k1 k2
    simp only [Option.some.injEq, Prod.mk.injEq] at he
    obtain ⟨rfl, rfl, he⟩ := he
    refine ⟨fs, fd, h2, hfd, rfl, fun w => by simp [sizeOf, typeInfo, k1], fun w => ?_⟩
    rw [← he]
    simp only [isAgg, Sem.run_bind, run_underlying k2, Result.andThen_ok]
    cases dd <;> rfl
  · cases he

/-- What a slot holds, as a slice to be read. -/
def PV.list : PV → Option (Nat × List PD)
  | .d (.sl sz l) => some (sz, l)
  | .own _ sz l => some (sz, l)
  | .nn sz l => some (sz, l)
  | .dp (.sl sz l) => some (sz, l)
  | _ => none
theorem RepT.list {P : Program} {G : Gh} {w : World} {loc : Loc} {x : PV} {v : Value} {sz : Nat} {l : List PD} (h : RepT P G w loc x v) (hx : x.list = some (sz, l)) : RepD G.im w (.sl sz l) v := by
  cases x <;> simp only [PV.list, reduceCtorEq] at hx
  · rename_i y
    cases y <;> simp only [reduceCtorEq, Option.some.injEq, Prod.mk.injEq] at hx
    obtain ⟨rfl, rfl⟩ := hx
    exact h.1
  · simp only [Option.some.injEq, Prod.mk.injEq] at hx
    obtain ⟨rfl, rfl⟩ := hx
    exact h.1
  · simp only [Option.some.injEq, Prod.mk.injEq] at hx
    obtain ⟨rfl, rfl⟩ := hx
    exact OwnAt.data h
  · rename_i y
    cases y <;> simp only [reduceCtorEq, Option.some.injEq, Prod.mk.injEq] at hx
    obtain ⟨rfl, rfl⟩ := hx
    exact (RepC.bC (P := P) (p := (loc, 0, 0)) (loc, 0, 0) (x := .dp (.sl _ _)) h).1

def evUn (op : UnOp) : PV → Option PV
  | .d (.bool b) => match op with | .not => some (.d (.bool !b)) | _ => none
  | .d (.int k n) => match op with | .neg => some (.d (.int k (k.wrap (0 - n)))) | _ => none
  | _ => none
theorem evUn_ok {P : Program} {G : Gh} {w : World} {op : UnOp} {x r : PV} {u : Value} {l1 : Loc} (loc : Loc) (hx : RepT P G w l1 x u) (h : evUn op x = some r) :
    ∃ rv, (Op.unary op u).run P w = .ok rv w ∧ RepT P G w loc r rv := by
  unfold evUn at h
  split at h
  · obtain ⟨hx, -⟩ := hx; cases hx
    cases op <;> simp at h
    subst h; exact ⟨_, rfl, ⟨.bool _, rfl⟩⟩
  · obtain ⟨hx, -⟩ := hx; cases hx
    cases op <;> simp only [Option.some.injEq, reduceCtorEq] at h
    subst h; exact ⟨_, rfl, ⟨.int _ _, rfl⟩⟩
  · cases h

def evConv (P : Program) (dst : TypeId) : PV → Option PV
  | .d (.int k n) => (tyi P dst).bind fun i => i.int.map fun k' => .d (.int k' (k'.wrap n))
  | .d (.str l) => (tyi P dst).bind fun i => if i.str then some (.d (.str l)) else none
  | _ => none
theorem evConv_ok {P : Program} {G : Gh} {w : World} {src dst : TypeId} {x r : PV} {u : Value} {l1 : Loc} (loc : Loc) (hs : (tyi P src).isSome = true) (hx : RepT P G w l1 x u) (h : evConv P dst x = some r) :
    ∃ rv, (convert src dst u).run P w = .ok rv w ∧ RepT P G w loc r rv := by
  obtain ⟨i0, hi0⟩ := Option.isSome_iff_exists.1 hs
  obtain ⟨_, d0, -, hd0, -⟩ := tyi_spec hi0
  unfold evConv at h
  split at h
  · obtain ⟨hx, -⟩ := hx; cases hx
    simp only [Option.bind_eq_some_iff, Option.map_eq_some_iff] at h
    obtain ⟨i, hi, k', hk, rfl⟩ := h
    have hu := tyi_int hi hk
    refine ⟨_, ?_, ⟨.int _ _, rfl⟩⟩
    simp [convert, run_underlying hd0, run_underlying hu, Conv.intToInt]
  · obtain ⟨hx, -⟩ := hx; cases hx
    rename_i l hb
    simp only [Option.bind_eq_some_iff] at h
    obtain ⟨i, hi, h⟩ := h
    split at h
    · rename_i hstr
      cases h
      have hu := tyi_str hi hstr
      refine ⟨_, ?_, ⟨.str _ hb, rfl⟩⟩
      simp [convert, run_underlying hd0, run_underlying hu]
    · cases h
  · cases h

def u8s : List PD → Option (List UInt8)
  | [] => some []
  | .int .u8 n :: l => if 0 ≤ n ∧ n < 256 then (u8s l).map (UInt8.ofNat n.toNat :: ·) else none
  | _ => none
theorem u8s_get : ∀ {l : List PD} {bs : List UInt8}, u8s l = some bs → bs.length = l.length ∧ ∀ (j : Nat) b, bs[j]? = some b → l[j]? = some (.int .u8 (b.toNat : Int))
  | [], bs, h => by simp [u8s] at h; subst h; exact ⟨rfl, fun j b h => by simp at h⟩
  | x :: l, bs, h => by
    unfold u8s at h
    split at h
    · rename_i e; cases e
    · rename_i n l' e
      cases e
      split at h
      · rename_i hn
        obtain ⟨bs', h1, rfl⟩ := Option.map_eq_some_iff.1 h
        obtain ⟨h2, h3⟩ := u8s_get h1
        refine ⟨by simp [h2], fun j b hj => ?_⟩
        cases j with
        | zero =>
          simp at hj; subst hj
          have : (UInt8.ofNat n.toNat).toNat = n.toNat := by simp [UInt8.toNat_ofNat']; omega
          simp [this]; omega
        | succ j => simp at hj ⊢; exact h3 j b hj
      · cases h
    · cases h
/-- Bytes as a text, too. -/
def evConv2 (P : Program) (src dst : TypeId) (x : PV) : Option PV :=
  match x.list with
  | some (sz, l) => (tyi P src).bind fun si => si.el.bind fun e => (tyi P e).bind fun te => (tyi P dst).bind fun i => (u8s l).bind fun bs =>
      if te.int = some .u8 ∧ i.str = true ∧ sz = 1 ∧ l ≠ [] then some (.d (.str bs)) else none
  | none => evConv P dst x
theorem flat_ints : ∀ {l : List PD} {bs : List UInt8}, u8s l = some bs → flat l = l
  | [], _, _ => rfl
  | x :: l, bs, h => by
    unfold u8s at h
    split at h
    · rename_i e; cases e
    · rename_i n l' e
      cases e
      split at h
      · obtain ⟨bs', h1, -⟩ := Option.map_eq_some_iff.1 h
        rw [flat_cons, flat_ints h1]; rfl
      · cases h
    · cases h
theorem evConv2_ok {P : Program} {G : Gh} {w : World} {src dst : TypeId} {x r : PV} {u : Value} {l1 : Loc} (loc : Loc) (hs : (tyi P src).isSome = true) (hx : RepT P G w l1 x u) (h : evConv2 P src dst x = some r) :
    ∃ rv, (convert src dst u).run P w = .ok rv w ∧ RepT P G w loc r rv := by
  unfold evConv2 at h
  split at h
  · rename_i sz l hl
    simp only [Option.bind_eq_some_iff] at h
    obtain ⟨si, hsi, e, he, te, hte, i, hi, bs, hbs, h⟩ := h
    split at h
    · rename_i hc
      obtain ⟨hu8, hstr, rfl, hne⟩ := hc
      cases h
      have hd := hx.list hl
      obtain ⟨hbl, hbg⟩ := u8s_get hbs
      rcases hd.sl_shape with ⟨h1, -⟩ | ⟨g, o, c, rfl, hlc, hu, hrun⟩ | ⟨h1, -⟩
      · exact absurd h1 hne
      rotate_left
      · exact absurd h1 hne
      obtain ⟨vs, hv1, hv2, hv3, hv4⟩ := hrun
      rw [flat_ints hbs] at hv1 hv4
      have hrun := run_convert_bytes_back (P := P) w src dst e ⟨g, o, none⟩ c bs (tyi_el hsi he) (tyi_int hte hu8) (tyi_str hi hstr) (fun j hj => by
        have hj2 : j < vs.length := by omega
        have hlj := hbg j _ (List.getElem?_eq_getElem hj)
        have hr := hv4 j _ _ hlj (List.getElem?_eq_getElem hj2)
        have hcell := (hv3 j _ (List.getElem?_eq_getElem hj2)).2
        generalize vs[j] = z at hr hcell
        cases hr
        rw [Addr.add_lit]; exact hcell)
      rw [hbl] at hrun
      exact ⟨_, hrun, ⟨.str _ (by rw [hbl]; exact hd.len), rfl⟩⟩
    · cases h
  · exact evConv_ok loc hs hx h
def evIdxAddr (P : Program) (t : TypeId) (x i : PV) : Option PV :=
  match x.list, i with
  | some (sz, l), .d (.int _ n) => (tyi P t).bind fun ti => ti.el.bind fun e => (tyi P e).bind fun te =>
      if te.sz = sz ∧ 0 ≤ n then (l[n.toNat]?).map fun y => .eptr y.cells else none
  | _, _ => none
theorem evIdxAddr_ok {P : Program} {G : Gh} {w : World} {t : TypeId} {x y r : PV} {u v : Value} {l1 l2 : Loc} (loc : Loc) (hx : RepT P G w l1 x u) (hy : RepT P G w l2 y v) (h : evIdxAddr P t x y = some r) :
    ∃ rv, (Instr.indexAt t u v).run P w = .ok rv w ∧ RepT P G w loc r rv := by
  unfold evIdxAddr at h
  split at h
  · rename_i sz l k n hl
    obtain ⟨hy, -⟩ := hy; cases hy
    have hd := hx.list hl
    simp only [Option.bind_eq_some_iff] at h
    obtain ⟨ti, hti, e, he, te, hte, h⟩ := h
    split at h
    · rename_i hc
      obtain ⟨rfl, hn⟩ := hc
      simp only [Option.map_eq_some_iff] at h
      obtain ⟨y, hy, rfl⟩ := h
      obtain ⟨hlt, hy'⟩ := List.getElem?_eq_some_iff.1 hy
      rcases hd.sl_shape with ⟨rfl, -⟩ | ⟨g, o, c, rfl, hlc, hu, hrun⟩ | ⟨rfl, -⟩
      · simp at hlt
      rotate_left
      · simp at hlt
      · have hel := tyi_el hti he
        refine ⟨.pointer (some ⟨g, o + n.toNat * te.sz, none⟩), ?_, ⟨g, _, rfl, ?_⟩⟩
        · have hlt' : n < (l.length : Int) := by omega
          simp [Instr.indexAt, asIntOf, run_underlying hel, hn, hlt', tyi_size hte, Addr.add_lit]
        · have := (hrun.drop (n.toNat * te.sz)).take te.sz
          rwa [flat_elem hu hy] at this
    · cases h
  · cases h

def evIdxR (P : Program) (t : TypeId) (b : BN) (sz m : Nat) (i : PV) : Option PV :=
  match i with
  | .d (.int _ n) => (tyi P t).bind fun ti => ti.el.bind fun e => (tyi P e).bind fun te => if te.sz = sz ∧ 0 ≤ n ∧ n < (m : Int) then some (.ptr b (n.toNat * sz)) else none
  | _ => none
def evIdxZ (P : Program) (t : TypeId) (sz : Nat) (l : List PD) (i : PV) : Option PV :=
  match i with
  | .d (.int _ n) => (tyi P t).bind fun ti => ti.el.bind fun e => (tyi P e).bind fun te =>
      if te.sz = sz ∧ 0 ≤ n then (l[n.toNat]?).map fun y => .zp y.cells else none
  | _ => none
theorem evIdxZ_ok {P : Program} {G : Gh} {w : World} {t : TypeId} {sz : Nat} {l : List PD} {y r : PV} {u v : Value} {l1 l2 : Loc} (loc : Loc) (hx : RepT P G w l1 (.zs (.sl sz l)) u) (hy : RepT P G w l2 y v) (h : evIdxZ P t sz l y = some r) :
    ∃ rv, (Instr.indexAt t u v).run P w = .ok rv w ∧ RepT P G w loc r rv := by
  unfold evIdxZ at h
  split at h
  · rename_i k n
    obtain ⟨hy, -⟩ := hy; cases hy
    obtain ⟨hx, -⟩ := hx
    simp only [Option.bind_eq_some_iff] at h
    obtain ⟨ti, hti, e, he, te, hte, h⟩ := h
    split at h
    · rename_i hc
      obtain ⟨rfl, hn⟩ := hc
      simp only [Option.map_eq_some_iff] at h
      obtain ⟨y, hy, rfl⟩ := h
      obtain ⟨hlt, hy'⟩ := List.getElem?_eq_some_iff.1 hy
      have hel := tyi_el hti he
      cases hx with
      | sc _ _ hx => cases hx
      | nil => simp at hlt
      | emp => simp at hlt
      | sl _ _ g o c vs hb hcc hu hs hl hv hr =>
        refine ⟨.pointer (some ⟨g, o + n.toNat * te.sz, none⟩), ?_, ⟨g, _, rfl, ?_⟩⟩
        · have hlt' : n < (l.length : Int) := by omega
          simp [Instr.indexAt, asIntOf, run_underlying hel, hn, hlt', tyi_size hte, Addr.add_lit]
        · have hfe := flat_elem hu hy
          have hyl : y.cells.length = te.sz := hu y (List.mem_of_getElem? hy)
          have hall : (n.toNat + 1) * te.sz ≤ (flat l).length := by rw [flat_length hu]; exact Nat.mul_le_mul_right _ hlt
          rw [Nat.add_mul, Nat.one_mul] at hall
          refine ⟨(vs.drop (n.toNat * te.sz)).take te.sz, by simp; omega, fun x hx => hs x ?_, fun i v hi => ?_, fun i x v hx hi => ?_⟩
          · rw [← hfe] at hx; exact List.mem_of_mem_drop (List.mem_of_mem_take hx)
          · rw [List.getElem?_take] at hi
            split at hi
            · rw [List.getElem?_drop] at hi
              have := hv _ v hi
              rwa [← Nat.add_assoc] at this
            · cases hi
          · rw [← hfe, List.getElem?_take] at hx
            rw [List.getElem?_take] at hi
            split at hi
            · rename_i hlt2
              rw [if_pos hlt2, List.getElem?_drop] at hx
              rw [List.getElem?_drop] at hi
              exact hr _ x v hx hi
            · cases hi
    · cases h
  · cases h
def evIA (P : Program) (t : TypeId) (x i : PV) : Option PV :=
  match x with
  | .rsl b _ sz m => evIdxR P t b sz m i
  | .rsv b sz m => evIdxR P t b sz m i
  | .zs (.sl sz l) => evIdxZ P t sz l i
  | x => evIdxAddr P t x i
theorem evIA_ok {P : Program} {G : Gh} {w : World} {t : TypeId} {x y r : PV} {u v : Value} {l1 l2 : Loc} (loc : Loc) (hx : RepT P G w l1 x u) (hy : RepT P G w l2 y v) (h : evIA P t x y = some r) :
    ∃ rv, (Instr.indexAt t u v).run P w = .ok rv w ∧ RepT P G w loc r rv := by
  unfold evIA at h
  split at h
  · rename_i b e sz m
    unfold evIdxR at h
    split at h
    · rename_i k n
      obtain ⟨hy, -⟩ := hy; cases hy
      obtain ⟨hv, hl, -⟩ := hx
      simp only [Option.bind_eq_some_iff] at h
      obtain ⟨ti, hti, e', he, te, hte, h⟩ := h
      split at h
      · rename_i hc
        obtain ⟨rfl, hn, hlt⟩ := hc
        cases h
        have hel := tyi_el hti he
        refine ⟨_, ?_, rfl, hl⟩
        rw [hv]
        simp [Instr.indexAt, asIntOf, run_underlying hel, hn, hlt, tyi_size hte, Addr.add_lit]
      · cases h
    · cases h
  · rename_i b sz m
    unfold evIdxR at h
    split at h
    · rename_i k n
      obtain ⟨hy, -⟩ := hy; cases hy
      obtain ⟨c, hnc, hv, hl, -⟩ := hx
      simp only [Option.bind_eq_some_iff] at h
      obtain ⟨ti, hti, e', he, te, hte, h⟩ := h
      split at h
      · rename_i hc
        obtain ⟨rfl, hn, hlt⟩ := hc
        cases h
        have hel := tyi_el hti he
        refine ⟨_, ?_, rfl, hl⟩
        rw [hv]
        simp [Instr.indexAt, asIntOf, run_underlying hel, hn, hlt, tyi_size hte, Addr.add_lit]
      · cases h
    · cases h
  · exact evIdxZ_ok loc hx hy h
  · exact evIdxAddr_ok loc hx hy h

def evIdx (P : Program) (t : TypeId) (x i : PV) : Option PV :=
  match x, i with
  | .d (.str l), .d (.int _ n) => (tyi P t).bind fun ti => if ti.str = true ∧ 0 ≤ n then (l[n.toNat]?).map fun b => .d (.int .u8 (b.toNat : Int)) else none
  | _, _ => none
theorem evIdx_ok {P : Program} {G : Gh} {w : World} {t : TypeId} {x y r : PV} {u v : Value} {l1 l2 : Loc} (loc : Loc) (hx : RepT P G w l1 x u) (hy : RepT P G w l2 y v) (h : evIdx P t x y = some r) :
    ∃ rv, (Instr.index t u v).run P w = .ok rv w ∧ RepT P G w loc r rv := by
  unfold evIdx at h
  split at h
  · obtain ⟨hy, -⟩ := hy; cases hy
    obtain ⟨hx, -⟩ := hx; cases hx
    rename_i l k n hb
    simp only [Option.bind_eq_some_iff] at h
    obtain ⟨ti, hti, h⟩ := h
    split at h
    · rename_i hc
      obtain ⟨hs, hn⟩ := hc
      simp only [Option.map_eq_some_iff] at h
      obtain ⟨b, hb', rfl⟩ := h
      have hu := tyi_str hti hs
      refine ⟨_, ?_, ⟨.int _ _, rfl⟩⟩
      have hg : (⟨l.toArray⟩ : ByteArray)[n.toNat]? = some b := by
        obtain ⟨hlt, rfl⟩ := List.getElem?_eq_some_iff.1 hb'
        have hsz : n.toNat < (⟨l.toArray⟩ : ByteArray).size := by simpa [ByteArray.size] using hlt
        rw [ByteArray.getElem?_lt' _ _ hsz]
        rfl
      simp [Instr.index, asIntOf, run_underlying hu, hn, hg]
    · cases h
  · cases h

def evFldAddr (P : Program) (t : TypeId) (f : Nat) : PV → Option PV
  | .ptr b o => (tyi P t).bind fun i => (i.fl[f]?.getD none).bind fun q => if q.2.1 = 0 then none else some (.ptr b (o + q.1))
  | .eptr cs => (tyi P t).bind fun i => (i.fl[f]?.getD none).bind fun q => if q.2.1 = 0 then none else some (.eptr (cs.drop q.1))
  | .zp cs => (tyi P t).bind fun i => (i.fl[f]?.getD none).bind fun q => if q.2.1 = 0 then none else some (.zp (cs.drop q.1))
  | _ => none
theorem ZRun.drop {S : Nat → Prop} {w : World} {g o : Nat} {cells : List PD} (h : ZRun S w g o cells) (n : Nat) : ZRun S w g (o + n) (cells.drop n) := by
  obtain ⟨vs, hl, hs, hv, hr⟩ := h
  refine ⟨vs.drop n, by simp [hl], fun x hx => hs x (List.mem_of_mem_drop hx), fun i v hi => ?_, fun i x v hx hy => ?_⟩
  · rw [List.getElem?_drop] at hi
    have := hv _ _ hi
    rwa [← Nat.add_assoc] at this
  · rw [List.getElem?_drop] at hx hy
    exact hr _ _ _ hx hy
theorem run_fieldAt {P : Program} {w : World} {t : TypeId} {f : Nat} {i : TI} {q : Nat × Nat × Bool} (hi : tyi P t = some i) (hq : i.fl[f]?.getD none = some q) (h0 : q.2.1 ≠ 0) (g o : Nat) :
    (Instr.fieldAt t (.pointer (some ⟨g, o, none⟩)) f).run P w = .ok (.pointer (some ⟨g, o + q.1, none⟩)) w := by
  obtain ⟨off, sz, ag⟩ := q
  have hq' : i.fl[f]? = some (some (off, sz, ag)) := by
    cases hh : i.fl[f]? <;> simp [hh] at hq
    exact congrArg some hq
  obtain ⟨fs, fd, h1, h2, h3, h4, h5⟩ := tyi_fl hi hq'
  simp only at h0
  simp [Instr.fieldAt, run_underlying h1, h2, Instr.sureAddr, fieldPlace, h4, h0, Addr.add_lit, h3]
theorem evFldAddr_ok {P : Program} {G : Gh} {w : World} {t : TypeId} {f : Nat} {x r : PV} {u : Value} {l1 : Loc} (loc : Loc) (hx : RepT P G w l1 x u) (h : evFldAddr P t f x = some r) :
    ∃ rv, (Instr.fieldAt t u f).run P w = .ok rv w ∧ RepT P G w loc r rv := by
  unfold evFldAddr at h
  split at h
  · obtain ⟨rfl, hl⟩ := hx
    simp only [Option.bind_eq_some_iff] at h
    obtain ⟨i, hi, q, hq, h⟩ := h
    split at h
    · cases h
    · rename_i h0
      cases h
      exact ⟨_, run_fieldAt hi hq h0 _ _, rfl, hl⟩
  · obtain ⟨g, o, rfl, hr⟩ := hx
    simp only [Option.bind_eq_some_iff] at h
    obtain ⟨i, hi, q, hq, h⟩ := h
    split at h
    · cases h
    · rename_i h0
      cases h
      exact ⟨_, run_fieldAt hi hq h0 _ _, g, _, rfl, hr.drop _⟩
  · obtain ⟨g, o, rfl, hr⟩ := hx
    simp only [Option.bind_eq_some_iff] at h
    obtain ⟨i, hi, q, hq, h⟩ := h
    split at h
    · cases h
    · rename_i h0
      cases h
      exact ⟨_, run_fieldAt hi hq h0 _ _, g, _, rfl, ZRun.drop hr _⟩
  · cases h

def evFld (P : Program) (t : TypeId) (f : Nat) : PV → Option PV
  | .agg l => (tyi P t).bind fun i => (i.fl[f]?.getD none).bind fun q => if q.2.2 then (if q.1 + q.2.1 ≤ l.length then some (.agg (((l.drop q.1).take q.2.1).map PV.bC)) else none) else (l[q.1]?).map PV.bC
  | _ => none
theorem RepC.toT {P : Program} {G : Gh} {w : World} {p : Pos} {x : PV} {v : Value} (h : RepC P G w p x v) (loc : Loc) (hp : p = (loc, 0, 0)) : RepT P G w loc x v := by
  subst hp
  cases x <;> first | exact h | (simp only [RepC] at h)
theorem evFld_ok {P : Program} {G : Gh} {w : World} {t : TypeId} {f : Nat} {x r : PV} {u : Value} {l1 : Loc} (loc : Loc) (hx : RepT P G w l1 x u) (h : evFld P t f x = some r) :
    ∃ rv, (Instr.field t u f).run P w = .ok rv w ∧ RepT P G w loc r rv := by
  unfold evFld at h
  split at h
  · rename_i l
    obtain ⟨cs, rfl, hsz, h1, hr⟩ := hx
    simp only [Option.bind_eq_some_iff] at h
    obtain ⟨i, hi, q, hq, h⟩ := h
    obtain ⟨off, sz, ag⟩ := q
    have hq' : i.fl[f]? = some (some (off, sz, ag)) := by
      cases hh : i.fl[f]? <;> simp [hh] at hq
      exact congrArg some hq
    obtain ⟨fs, fd, k1, k2, k3, k4, k5⟩ := tyi_fl hi hq'
    cases ag
    · simp only [Bool.false_eq_true, if_false, Option.map_eq_some_iff] at h
      obtain ⟨y, hy, rfl⟩ := h
      have hlt : off < cs.size := by rw [hsz]; exact (List.getElem?_eq_some_iff.1 hy).1
      have hc : cs[off]? = some cs[off] := Array.getElem?_eq_getElem hlt
      refine ⟨cs[off], ?_, ((hr off y _ hy hc).bC (loc, 0, 0)).toT loc rfl⟩
      simp [Instr.field, run_underlying k1, k2, asAgg, part, k5, k3, hc]
    · simp only [if_true] at h
      split at h
      · rename_i hle
        cases h
        refine ⟨.agg (cs.extract off (off + sz)), ?_, ⟨_, rfl, ?_, ?_, ?_⟩⟩
        · simp [Instr.field, run_underlying k1, k2, asAgg, part, k5, k3, k4]
        · simp; omega
        · intro u hu
          obtain ⟨j, hj, rfl⟩ := Array.mem_iff_getElem.1 hu
          rw [Array.getElem_extract]
          exact h1 _ (Array.getElem_mem _)
        · intro j x u hx hu
          rw [List.getElem?_map] at hx
          obtain ⟨y, hy, rfl⟩ := Option.map_eq_some_iff.1 hx
          rw [List.getElem?_take] at hy
          split at hy
          · rename_i hj
            rw [List.getElem?_drop] at hy
            rw [Array.getElem?_extract] at hu
            split at hu
            · exact (hr _ _ _ hy hu).bC _
            · cases hu
          · cases hy
      · cases h
  · cases h

def evLen (P : Program) (t : TypeId) (x : PV) : Option PV :=
  match x with
  | .d (.str l) => (tyi P t).bind fun i => if i.str then some (.int l.length) else none
  | .nilS => (tyi P t).bind fun i => i.el.map fun _ => .int 0
  | .rsl _ _ _ n => (tyi P t).bind fun i => i.el.map fun _ => .int n
  | .rsv _ _ n => (tyi P t).bind fun i => i.el.map fun _ => .int n
  | .zs (.sl _ l) => (tyi P t).bind fun i => i.el.map fun _ => .int l.length
  | x => x.list.bind fun q => (tyi P t).bind fun i => i.el.map fun _ => .int q.2.length
theorem evLen_ok {P : Program} {G : Gh} {w : World} {t ty : TypeId} {x r : PV} {u : Value} {l1 : Loc} (loc : Loc) (hx : RepT P G w l1 x u) (h : evLen P t x = some r) :
    ∃ rv, (Builtin.len_ #[t] ty #[u]).run P w = .ok rv w ∧ RepT P G w loc r rv := by
  unfold evLen at h
  split at h
  · obtain ⟨hx, -⟩ := hx; cases hx
    rename_i l hb
    simp only [Option.bind_eq_some_iff] at h
    obtain ⟨i, hi, h⟩ := h
    split at h
    · rename_i hs
      cases h
      have hu := tyi_str hi hs
      refine ⟨_, ?_, ⟨.int _ _, rfl⟩⟩
      rw [run_len_string _ _ _ _ hu]
      simp [goInt, ByteArray.size]
    · cases h
  · simp only [Option.bind_eq_some_iff, Option.map_eq_some_iff] at h
    obtain ⟨i, hi, e, he, rfl⟩ := h
    have hu := tyi_el hi he
    obtain rfl : u = .slice none 0 0 := hx
    refine ⟨_, ?_, ⟨.int _ _, rfl⟩⟩
    simp [Builtin.len_, run_underlying hu, goInt]
  · simp only [Option.bind_eq_some_iff, Option.map_eq_some_iff] at h
    obtain ⟨i, hi, e, he, rfl⟩ := h
    have hu := tyi_el hi he
    obtain ⟨hv, -⟩ := hx
    refine ⟨_, ?_, ⟨.int _ _, rfl⟩⟩
    rw [hv]
    simp [Builtin.len_, run_underlying hu, goInt]
  · simp only [Option.bind_eq_some_iff, Option.map_eq_some_iff] at h
    obtain ⟨i, hi, e, he, rfl⟩ := h
    have hu := tyi_el hi he
    obtain ⟨c, -, hv, -⟩ := hx
    refine ⟨_, ?_, ⟨.int _ _, rfl⟩⟩
    rw [hv]
    simp [Builtin.len_, run_underlying hu, goInt]
  · simp only [Option.bind_eq_some_iff, Option.map_eq_some_iff] at h
    obtain ⟨i, hi, e, he, rfl⟩ := h
    have hu := tyi_el hi he
    obtain ⟨hx, -⟩ := hx
    rename_i sz l
    have key : ∃ a c, u = .slice a l.length c := by
      cases hx with
      | sc _ _ hx => cases hx
      | nil => exact ⟨_, _, rfl⟩
      | emp => exact ⟨_, _, rfl⟩
      | sl => exact ⟨_, _, rfl⟩
    obtain ⟨a, c, rfl⟩ := key
    refine ⟨.int .i64 l.length, ?_, ⟨.int _ _, rfl⟩⟩
    simp [Builtin.len_, run_underlying hu, goInt]
  · simp only [Option.bind_eq_some_iff, Option.map_eq_some_iff] at h
    obtain ⟨⟨sz, l⟩, hl, i, hi, e, he, rfl⟩ := h
    have hu := tyi_el hi he
    have hd := hx.list hl
    refine ⟨.int .i64 l.length, ?_, ⟨.int _ _, rfl⟩⟩
    rcases hd.sl_shape with ⟨rfl, rfl⟩ | ⟨g, o, c, rfl, -⟩ | ⟨rfl, a, c, rfl⟩
    rotate_left 2
    · simp [Builtin.len_, run_underlying hu, goInt]
    · simp [Builtin.len_, run_underlying hu, goInt]
    · simp [Builtin.len_, run_underlying hu, goInt]

end Go.Bee

/-
The logic's operations: slices of slices and strings, loads. No condition.
-/
namespace Go.Bee
set_option linter.unusedVariables false

def PV.int? : PV → Option Int
  | .d (.int _ n) => some n
  | _ => none
def sb (lo hi : Option PV) (n : Nat) : Option (Nat × Nat) :=
  (match hi with | none => some n | some p => p.int?.bind fun k => if 0 ≤ k ∧ k ≤ (n : Int) then some k.toNat else none).bind fun h =>
    (match lo with | none => some 0 | some p => p.int?.bind fun k => if 0 ≤ k ∧ k ≤ (h : Int) then some k.toNat else none).map fun l => (l, h)
/-- The operands of a slice expression, where they stand. -/
def RepO (P : Program) (G : Gh) (w : World) : Option PV → Option Value → Prop
  | none, none => True
  | some p, some v => ∃ l, RepT P G w l p v
  | _, _ => False
theorem run_sb {P : Program} {G : Gh} {w : World} {lo hi : Option PV} {lv hv : Option Value} {n cap : Nat} {a b : Nat} (isS : Bool) (hl : RepO P G w lo lv) (hh : RepO P G w hi hv) (hc : n ≤ cap)
    (h : sb lo hi n = some (a, b)) : (Instr.sliceBounds isS n cap lv hv none).run P w = .ok (a, b, cap) w ∧ a ≤ b ∧ b ≤ n := by
  unfold sb at h
  simp only [Option.bind_eq_some_iff, Option.map_eq_some_iff, Prod.mk.injEq] at h
  obtain ⟨h', h1, l', h2, rfl, rfl⟩ := h
  have key : ∀ (p : PV) (v : Value) (m q : Nat) (code : BoundsCode), (∃ l, RepT P G w l p v) → (p.int?.bind fun k => if 0 ≤ k ∧ k ≤ (m : Int) then some k.toNat else none) = some q →
      (∀ M, m ≤ M → (Instr.sliceBound v M code).run P w = .ok q w) ∧ q ≤ m := by
    intro p v m q code ⟨l, hp⟩ hq
    simp only [Option.bind_eq_some_iff] at hq
    obtain ⟨k, hk, hq⟩ := hq
    cases p <;> simp only [PV.int?, reduceCtorEq] at hk
    rename_i y
    cases y <;> simp only [reduceCtorEq, Option.some.injEq] at hk
    subst hk
    obtain ⟨hp, -⟩ := hp; cases hp
    rename_i kk k
    split at hq
    · rename_i hc
      cases hq
      refine ⟨fun M hM => ?_, by omega⟩
      have h3 : k ≤ (M : Int) := by omega
      simp [Instr.sliceBound, asIntOf, hc.1, h3]
    · cases hq
  cases hi with
  | none =>
    cases hv with
    | some v => exact hh.elim
    | none =>
      simp only [Option.some.injEq] at h1
      subst h1
      cases lo with
      | none =>
        cases lv with
        | some v => exact hl.elim
        | none =>
          simp only [Option.some.injEq] at h2
          subst h2
          exact ⟨by simp [Instr.sliceBounds], by omega, by omega⟩
      | some p =>
        cases lv with
        | none => exact hl.elim
        | some v =>
          obtain ⟨k1, k2⟩ := key p v n _ .sliceB hl h2
          refine ⟨?_, k2, Nat.le_refl _⟩
          simp [Instr.sliceBounds, k1 n (Nat.le_refl _)]
  | some ph =>
    cases hv with
    | none => exact hh.elim
    | some v =>
      obtain ⟨k1, k2⟩ := key ph v n _ (if isS then .sliceAcap else .sliceAlen) hh h1
      have k1' := k1 cap hc
      cases lo with
      | none =>
        cases lv with
        | some v => exact hl.elim
        | none =>
          simp only [Option.some.injEq] at h2
          subst h2
          exact ⟨by simp [Instr.sliceBounds, k1'], by omega, k2⟩
      | some p =>
        cases lv with
        | none => exact hl.elim
        | some u =>
          obtain ⟨q1, q2⟩ := key p u h' _ .sliceB hl h2
          refine ⟨?_, q2, k2⟩
          simp [Instr.sliceBounds, k1', q1 _ (Nat.le_refl _)]

def evSliceR (P : Program) (t : TypeId) (b : BN) (e sz m : Nat) (lo hi : Option PV) : Option PV :=
  (tyi P t).bind fun i => i.el.bind fun e' => (tyi P e').bind fun te => if te.sz = sz ∧ sb lo hi m = some (0, m) then some (.rsl b e sz m) else none
def evSlice (P : Program) (t : TypeId) (x : PV) (lo hi : Option PV) : Option PV :=
  match x with
  | .rsl b e sz m => evSliceR P t b e sz m lo hi
  | .d (.str s) => (tyi P t).bind fun i => if i.str = true then (sb lo hi s.length).map fun q => .d (.str ((s.take q.2).drop q.1)) else none
  | x => x.list.bind fun s => (tyi P t).bind fun i => i.el.bind fun e => (tyi P e).bind fun te => if te.sz = s.1 then (sb lo hi s.2.length).map fun q => .d (.sl s.1 ((s.2.take q.2).drop q.1)) else none
theorem evSlice_ok {P : Program} {G : Gh} {w : World} {t : TypeId} {x r : PV} {u : Value} {l1 : Loc} (loc : Loc) {lo hi : Option PV} {lv hv : Option Value} (hx : RepT P G w l1 x u) (hlo : RepO P G w lo lv) (hhi : RepO P G w hi hv)
    (h : evSlice P t x lo hi = some r) : ∃ rv, (Instr.sliceAt t u lv hv none).run P w = .ok rv w ∧ RepT P G w loc r rv := by
  unfold evSlice at h
  split at h
  · rename_i b e sz m
    unfold evSliceR at h
    obtain ⟨rfl, hlv, hm⟩ := hx
    simp only [Option.bind_eq_some_iff] at h
    obtain ⟨i, hi', e', he, te, hte, h⟩ := h
    split at h
    · rename_i hc
      obtain ⟨rfl, hsb⟩ := hc
      cases h
      have hu := tyi_el hi' he
      obtain ⟨h1, h2, h3⟩ := run_sb (P := P) (w := w) true hlo hhi (Nat.le_refl _) hsb
      refine ⟨.slice (some ⟨G.β b, 0, none⟩) m m, ?_, rfl, hlv, hm⟩
      by_cases h0 : m = 0
      · subst h0
        simp [Instr.sliceAt, Instr.slice, run_underlying hu, h1, tyi_size hte]
      · simp [Instr.sliceAt, Instr.slice, run_underlying hu, h1, tyi_size hte, h0, Addr.add_lit]
    · cases h
  · obtain ⟨hx, -⟩ := hx; cases hx
    rename_i s hb
    simp only [Option.bind_eq_some_iff] at h
    obtain ⟨i, hi', h⟩ := h
    split at h
    · rename_i hs
      simp only [Option.map_eq_some_iff] at h
      obtain ⟨⟨a, b⟩, hab, rfl⟩ := h
      have hu := tyi_str hi' hs
      obtain ⟨h1, h2, h3⟩ := run_sb (P := P) (w := w) false hlo hhi (Nat.le_refl _) hab
      have hsz : (⟨s.toArray⟩ : ByteArray).size = s.length := by simp [ByteArray.size]
      refine ⟨.string ⟨((s.take b).drop a).toArray⟩, ?_, ⟨.str _ (by simp; omega), rfl⟩⟩
      have hx : (⟨s.toArray⟩ : ByteArray).extract a b = ⟨((s.take b).drop a).toArray⟩ := by
        apply ByteArray.ext
        simp [ByteArray.data_extract, List.extract_eq_take_drop, List.drop_take]
      simp [Instr.sliceAt, Instr.slice, run_underlying hu, hsz, h1, hx]
    · cases h
  · simp only [Option.bind_eq_some_iff] at h
    obtain ⟨⟨sz, s⟩, hl, i, hi', e, he, te, hte, h⟩ := h
    split at h
    · rename_i hsz
      simp only at hsz
      subst hsz
      simp only [Option.map_eq_some_iff] at h
      obtain ⟨⟨a, b⟩, hab, rfl⟩ := h
      have hu := tyi_el hi' he
      have hd := hx.list hl
      rcases hd.sl_shape with ⟨rfl, rfl⟩ | ⟨g, o, c, rfl, hlc, huni, hrun⟩ | ⟨rfl, ad, c, rfl⟩
      rotate_left 2
      · obtain ⟨h1, h2, h3⟩ := run_sb (P := P) (w := w) (cap := c) true hlo hhi (by simp) hab
        simp only [List.length_nil] at h1 h3
        obtain rfl : b = 0 := by omega
        obtain rfl : a = 0 := by omega
        refine ⟨.slice (some ad) 0 c, ?_, ⟨by simpa using RepD.emp te.sz ad c, rfl⟩⟩
        by_cases hc0 : c = 0
        · subst hc0; simp [Instr.sliceAt, Instr.slice, run_underlying hu, h1, tyi_size hte]
        · simp [Instr.sliceAt, Instr.slice, run_underlying hu, h1, tyi_size hte, hc0, Addr.add]
      · obtain ⟨h1, h2, h3⟩ := run_sb (P := P) (w := w) true hlo hhi (Nat.le_refl _) hab
        simp only [List.length_nil] at h1 h3
        obtain rfl : b = 0 := by omega
        obtain rfl : a = 0 := by omega
        refine ⟨.slice none 0 0, ?_, ⟨by simpa using RepD.nil te.sz, rfl⟩⟩
        simp [Instr.sliceAt, Instr.slice, run_underlying hu, h1, tyi_size hte]
      · obtain ⟨h1, h2, h3⟩ := run_sb (P := P) (w := w) true hlo hhi hlc hab
        have hbd := hd.len
        by_cases hcl : c = a
        · have hab' : b - a = 0 := by omega
          refine ⟨.slice (some ⟨g, o, none⟩) (b - a) (c - a), ?_, ?_, rfl⟩
          · rw [hcl] at h1 ⊢
            simp [Instr.sliceAt, Instr.slice, run_underlying hu, h1, tyi_size hte]
          · have hnil : (s.take b).drop a = [] := by apply List.drop_eq_nil_of_le; simp; omega
            rw [hnil]
            have := RepD.of_run (S := G.im) (w := w) (sz := te.sz) (l := []) (g := g) (o := o) (c := c - a) (by simp) (by simp) (by simp) ⟨[], by simp [flat_nil], by simp [flat_nil], by simp, by simp [flat_nil]⟩
            rw [hab']
            exact this
        · refine ⟨.slice (some ⟨g, o + a * te.sz, none⟩) (b - a) (c - a), ?_, ?_, rfl⟩
          · simp [Instr.sliceAt, Instr.slice, run_underlying hu, h1, tyi_size hte, hcl, Addr.add_lit]
          · have hlen : ((s.take b).drop a).length = b - a := by simp; omega
            rw [← hlen]
            refine RepD.of_run (by rw [hlen]; omega) (by rw [hlen]; omega) (fun x hx => huni x (List.mem_of_mem_take (List.mem_of_mem_drop hx))) ?_
            have := (hrun.take (b * te.sz)).drop (a * te.sz)
            rwa [flat_take huni, flat_drop (fun x hx => huni x (List.mem_of_mem_take hx))] at this
    · cases h

/-- The cells of a variable in memory, read. -/
def bxRead (cells : List PV) (o sz : Nat) (ag : Bool) : Option PV :=
  if ag then (if o + sz ≤ cells.length then some (.agg ((cells.drop o).take sz)) else none) else cells[o]?
theorem BoxAt.cell {P : Program} {G : Gh} {w : World} {b : BN} {cells : List PV} (h : BoxAt P G w b cells) {j : Nat} {x : PV} (hx : cells[j]? = some x) :
    ∃ u, w.cell? ⟨G.β b, j, none⟩ = some u ∧ w.frozen? ⟨G.β b, j, none⟩ = false ∧ u.oneCell' = true ∧ RepC P G w (.b b, 0, j) x u := by
  obtain ⟨cs, e, h1, h2, h3, h4⟩ := h
  have hjl : j < cells.length := (List.getElem?_eq_some_iff.1 hx).1
  have hlt : j < cs.size := by omega
  refine ⟨cs[j], ?_, ?_, h3 j _ hjl (Array.getElem?_eq_getElem hlt), h4 j x _ hx (Array.getElem?_eq_getElem hlt)⟩
  · simp [World.cell?, h1, hlt]
  · simp [World.frozen?, h1]
def LoadRep (P : Program) (G : Gh) (w : World) (b : BN) (o : Nat) (ag : Bool) (r : PV) (rv : Value) : Prop :=
  match r with
  | .agg l => ag = true ∧ ∃ cs : Array Value, rv = .agg cs ∧ cs.size = l.length ∧ (∀ u ∈ cs, u.oneCell' = true) ∧ ∀ (j : Nat) x u, l[j]? = some x → cs[j]? = some u → RepC P G w (.b b, 0, o + j) x u
  | r => ag = false ∧ RepC P G w (.b b, 0, o) r rv ∧ rv.oneCell' = true
theorem run_loadBox {P : Program} {G : Gh} {w : World} {b : BN} {cells : List PV} (h : BoxAt P G w b cells) {t : TypeId} {i : TI} (hi : tyi P t = some i) {o : Nat} {r : PV}
    (hr : bxRead cells o i.sz i.agg = some r) : ∃ rv, (Instr.loadAt t (.pointer (some ⟨G.β b, o, none⟩))).run P w = .ok rv w ∧
      LoadRep P G w b o i.agg r rv := by
  unfold bxRead at hr
  split at hr
  · rename_i hag
    split at hr
    · rename_i hle
      cases hr
      obtain ⟨cs, e, h1, h2, h3, h4⟩ := h
      have hcell : ∀ (j : Nat) v, (cs.extract o (o + i.sz)).toList[j]? = some v → w.cell? ((⟨G.β b, o, none⟩ : Addr).add j) = some v := by
        intro j v hv
        rw [Array.getElem?_toList, Array.getElem?_extract] at hv
        split at hv
        · simp [Addr.add_lit, World.cell?, h1, hv]
        · cases hv
      have hlen : (cs.extract o (o + i.sz)).toList.length = i.sz := by simp; omega
      have hrun := run_loadCells_list (P := P) w ⟨G.β b, o, none⟩ (cs.extract o (o + i.sz)).toList hcell
      rw [hlen, Array.toArray_toList] at hrun
      refine ⟨.agg (cs.extract o (o + i.sz)), ?_, hag, _, rfl, by simp; omega, ?_, ?_⟩
      · simp [Instr.loadAt, Instr.sureAddr, loadVar, tyi_agg hi, tyi_size hi, hag, hrun]
      · intro u hu
        obtain ⟨j, hj, rfl⟩ := Array.mem_iff_getElem.1 hu
        have hj2 : j < i.sz := by simp at hj; omega
        rw [Array.getElem_extract]
        exact h3 (o + j) _ (by omega) (Array.getElem?_eq_getElem (by omega))
      · intro j x u hx hu
        rw [List.getElem?_take] at hx
        split at hx
        · rw [List.getElem?_drop] at hx
          rw [Array.getElem?_extract] at hu
          split at hu
          · exact h4 _ _ _ hx hu
          · cases hu
        · cases hx
    · cases hr
  · rename_i hag
    obtain ⟨u, k1, k2, k3, k4⟩ := h.cell hr
    refine ⟨u, ?_, ?_⟩
    · simp only [Bool.not_eq_true] at hag
      simp [Instr.loadAt, Instr.sureAddr, loadVar, tyi_agg hi, hag, k1]
    · cases r <;> first | exact ⟨by simpa using hag, k4, k3⟩ | (simp only [RepC] at k4)

/-- What lies behind a place in a slice, read. -/
def evELoad (P : Program) (t : TypeId) (cs : List PD) : Option PV :=
  (tyi P t).bind fun i => if i.agg then (if i.sz ≤ cs.length then some (.agg ((cs.take i.sz).map .d)) else none) else cs.head?.map .d
theorem evELoad_ok {P : Program} {G : Gh} {w : World} {t : TypeId} {cs : List PD} {r : PV} {u : Value} {l1 : Loc} (loc : Loc) (hx : RepT P G w l1 (.eptr cs) u) (h : evELoad P t cs = some r) :
    ∃ rv, (Instr.loadAt t u).run P w = .ok rv w ∧ RepT P G w loc r rv := by
  obtain ⟨g, o, rfl, vs, hl, hs, hv, hr⟩ := hx
  unfold evELoad at h
  simp only [Option.bind_eq_some_iff] at h
  obtain ⟨i, hi, h⟩ := h
  split at h
  · rename_i hag
    split at h
    · rename_i hle
      cases h
      have hcell : ∀ (j : Nat) v, (vs.take i.sz)[j]? = some v → w.cell? ((⟨g, o, none⟩ : Addr).add j) = some v := by
        intro j v hj
        rw [List.getElem?_take] at hj
        split at hj
        · rw [Addr.add_lit]; exact (hv j v hj).2
        · cases hj
      have hrun := run_loadCells_list (P := P) w ⟨g, o, none⟩ (vs.take i.sz) hcell
      have hlen : (vs.take i.sz).length = i.sz := by simp; omega
      rw [hlen] at hrun
      refine ⟨.agg (vs.take i.sz).toArray, ?_, _, rfl, by simp; omega, ?_, ?_⟩
      · simp [Instr.loadAt, Instr.sureAddr, loadVar, tyi_agg hi, tyi_size hi, hag, hrun]
      · intro u hu
        rw [List.mem_toArray] at hu
        obtain ⟨j, hj, rfl⟩ := List.mem_iff_getElem.1 hu
        simp only [List.length_take] at hj
        have hj2 : j < cs.length := by omega
        rw [List.getElem_take]
        exact (hr j cs[j] _ (List.getElem?_eq_getElem hj2) (List.getElem?_eq_getElem _)).oneCell (hs _ (List.getElem_mem hj2))
      · intro j x u hx hu
        rw [List.getElem?_map, List.getElem?_take] at hx
        simp only [List.getElem?_toArray, List.getElem?_take] at hu
        split at hx
        · rename_i hj
          rw [if_pos hj] at hu
          obtain ⟨y, hy, rfl⟩ := Option.map_eq_some_iff.1 hx
          exact ⟨hr j y u hy hu, hs y (List.mem_of_getElem? hy)⟩
        · cases hx
    · cases h
  · rename_i hag
    simp only [Bool.not_eq_true] at hag
    simp only [Option.map_eq_some_iff] at h
    obtain ⟨y, hy, rfl⟩ := h
    cases cs with
    | nil => cases hy
    | cons c rest =>
      cases hy
      cases vs with
      | nil => simp at hl
      | cons v vs' =>
        have h0 := hv 0 v rfl
        refine ⟨v, ?_, hr 0 y v rfl rfl, hs _ (List.mem_cons_self ..)⟩
        simp [Instr.loadAt, Instr.sureAddr, loadVar, tyi_agg hi, hag]
        rw [show (⟨g, o, none⟩ : Addr) = ⟨g, o + 0, none⟩ from rfl, h0.2]

end Go.Bee

/-
The logic's operations that make memory or write to it. No condition.
-/
namespace Go.Bee
set_option linter.unusedVariables false

theorem cell_alloc_lt {w : World} {o : Obj} {b k : Nat} (h : b < w.heap.size) : (w.alloc o).cell? ⟨b, k, none⟩ = w.cell? ⟨b, k, none⟩ := World.cell?_alloc_lt _ _ _ h
theorem BoxAt.lt {P : Program} {G : Gh} {w : World} {b : BN} {cells : List PV} (h : BoxAt P G w b cells) : G.β b < w.heap.size := by
  obtain ⟨cs, e, h1, -⟩ := h
  exact (Array.getElem?_eq_some_iff.1 h1).1
theorem Hp.box {P : Program} {G : Gh} {w : World} {B : Bx} (h : Hp P G w B) {b : BN} (hl : G.live b) : ∃ cells, B b = some cells ∧ BoxAt P G w b cells := by
  obtain ⟨cells, hc⟩ := Option.isSome_iff_exists.1 ((h.live b).1 hl)
  exact ⟨cells, hc, h.bx b cells hc⟩

theorem FreeO.lt {G : Gh} {w : World} {o : Option Pos} {g : Nat} (h : FreeO G w o g) : g < w.heap.size := by
  obtain ⟨cs, e, h1⟩ := h.1
  exact (Array.getElem?_eq_some_iff.1 h1).1
/-- A step of memory: new blocks, and writes to block z alone. -/
structure MStep (w w' : World) (z : Option Nat) : Prop where
  os : w'.os = w.os
  tape : w'.tape = w.tape
  output : w'.output = w.output
  size : w.heap.size ≤ w'.heap.size
  old : ∀ b, b < w.heap.size → some b ≠ z → w'.heap[b]? = w.heap[b]?
theorem MStep.alloc (w : World) (o : Obj) (z : Option Nat) : MStep w (w.alloc o) z := ⟨rfl, rfl, rfl, by simp, fun b hb _ => heap_alloc_old w o hb⟩
theorem MStep.setRow (w : World) (g : Nat) (cs : Array Value) : MStep w (w.setRow g cs) (some g) :=
  ⟨rfl, rfl, rfl, by simp [World.setRow], fun b _ hb => setRow_other w g b cs (fun e => hb (by rw [e]))⟩
theorem MStep.drew {w w' : World} {z : Option Nat} (h : MStep w.drew w' z) : MStep w w' z := ⟨h.os, h.tape, h.output, h.size, h.old⟩

/-- The ghost's next state, where im grows by cells of new blocks or of the block that is written. -/
theorem Since.next {F : Fr} {G G' : Gh} {w w' : World} {z : Option Nat} (h : Since F G w) (hm : MStep w w' z) (hz : ∀ g, z = some g → F.w0.heap.size ≤ g ∨ F.Wr g) (hk : Keep G.im w G'.im w')
    (hn : ∀ b o, G'.im b o → G.im b o ∨ w.heap.size ≤ b ∨ z = some b) (ho : ∀ g p, G'.own g = some p → (∃ q, G.own g = some q) ∨ w.heap.size ≤ g) (hb : ∀ b, G'.live b → (G.live b ∧ G'.β b = G.β b) ∨ w.heap.size ≤ G'.β b)
    (ha : ∀ k, G'.β (.a k) = G.β (.a k)) (hf : G'.fz = G.fz) : Since F G' w' := by
  have hs := h.ext.size
  refine ⟨h.ext.trans (Wr' := fun g => z = some g) ⟨hm.os, hm.tape, hm.output, hm.size, fun b hb hn => hm.old b hb (fun e => hn e.symm), hk, hn⟩ (fun b hb => hz b hb), fun g p hg => ?_, fun b hl => ?_, fun k => (ha k).trans (h.βa k), fun g hg => h.fz g (by rwa [hf] at hg), fun g h1 h2 => by rw [hf]; exact h.fzm g h1 h2⟩
  · rcases ho g p hg with ⟨q, hq⟩ | hlt
    · exact h.own g q hq
    · left; omega
  · rcases hb b hl with ⟨h1, h2⟩ | hlt
    · rw [h2]; exact h.box b h1
    · left; omega
theorem Since.fz_same {F : Fr} {G : Gh} {w w' : World} {z : Option Nat} (h : Since F G w) (hm : MStep w w' z) (hz : ∀ g, z = some g → F.w0.heap.size ≤ g ∨ F.Wr g) : ∀ g, G.fz g → w'.heap[g]? = w.heap[g]? := by
  intro g hg
  obtain ⟨h1, h2⟩ := h.fz g hg
  refine hm.old g (by have := h.ext.size; omega) (fun e => ?_)
  rcases hz g e.symm with h3 | h3
  · omega
  · exact h2 h3

/-- Which positions a move turns into which. -/
def relF (f : Pos → Pos) (p q : Pos) : Prop := q = f p

theorem Rel.newBox {P : Program} {F : Fr} {G : Gh} {st : St} {a : Act} {w : World} (h : Rel P F G st a w) {d : Nat} (hd : d < F.nt) (hb : st.bx (.t d) = none) {cs : Array Value} {e : TypeId} {cells : List PV}
    (f : Pos → Pos) (ts : List Nat) (hf : ∀ t, t ∉ ts → ∀ i j, f (.t t, i, j) = (.t t, i, j)) (hfb : ∀ c j, f (.b c, 0, j) = (.b c, 0, j)) (hfq : f qpos = qpos) (hsz : cs.size = cells.length) (hone : ∀ u ∈ cs, u.oneCell' = true)
    (hrep : ∀ (j : Nat) x u, cells[j]? = some x → cs[j]? = some u → ∃ p, RepC P G w p x u ∧ f p = (.b (.t d), 0, j)) :
    ∃ G', Rel P F G' (st.upd ts (some d) (.ptr (.t d) 0) (Bx.set st.bx (.t d) cells)) (a.put (some d) (.pointer (some ⟨w.heap.size, 0, none⟩))) (w.alloc (.cells cs e)) := by
  have hnl : ¬ G.live (.t d) := fun hl => by have := (h.hp.live _).1 hl; simp [hb] at this
  have hm : MStep w (w.alloc (.cells cs e)) none := MStep.alloc w _ none
  let G' : Gh := { im := G.im, β := fun c => if c = .t d then w.heap.size else G.β c, live := fun c => c = .t d ∨ G.live c, own := fun g => (G.own g).map f, fz := G.fz }
  have hkeep : Keep G.im w G.im (w.alloc (.cells cs e)) := fun b o hbo => ⟨hbo, cell_alloc_lt (h.hp.imlt b o hbo)⟩
  have hg : GStep G w G' (w.alloc (.cells cs e)) (relF f) := by
    refine ⟨hkeep, fun b hl => ⟨.inr hl, by simp only [G']; rw [if_neg]; intro e; subst e; exact hnl hl⟩, rfl, h.sn.fz_same hm (by simp), by simp, fun g p q hg hq => ⟨?_, heap_alloc_old w _ (h.hp.ownlt g p hg), fun _ h => h⟩, fun o g ho hf => ?_⟩
    rotate_left
    · have hlt := hf.lt
      refine ⟨⟨by rw [heap_alloc_old w _ hlt]; exact hf.1, by rcases ho with rfl | rfl <;> simp [G', hf.2.1, hfq], fun c hl => ?_, hf.2.2.2.1, hf.2.2.2.2⟩, .heap (heap_alloc_old w _ hlt)⟩
      by_cases e : c = .t d
      · simp only [G', e, if_true]; omega
      · simp only [G', e, if_false]; exact hf.2.2.1 c (hl.resolve_left e)
    have : q = f p := hq
    simp [G', hg, this]
  have hβlt : ∀ b, G.live b → G.β b < w.heap.size := fun b hl => by obtain ⟨c, _, hbx⟩ := h.hp.box hl; exact hbx.lt
  refine ⟨G', h.next hg (fun t ht _ i j => (hf t ht i j).symm) (fun d' ed => ?_) (fun d' ed => by cases ed; exact hd) ?_ ?_⟩
  · cases ed
    exact ⟨by simp [G'], .inl rfl⟩
  · refine ⟨fun b bcells hbc => ?_, fun b => ?_, fun b b' hl hl' he => ?_, fun g o hg => ?_, fun g p hg => ?_, fun b hl o => ?_, fun b hl => ?_⟩
    · by_cases hbd : b = .t d
      · subst hbd
        simp only [Bx.set, if_true, Option.some.injEq] at hbc
        subst hbc
        refine ⟨cs, e, by simp only [G', if_true]; exact heap_alloc_new w _, by omega, fun j u _ hu => hone u (Array.mem_of_getElem? hu), fun j x u hx hu => ?_⟩
        obtain ⟨p, hp, hfp⟩ := hrep j x u hx hu
        exact hp.step hg hfp.symm
      · simp only [Bx.set, hbd, if_false] at hbc
        have hl := (h.hp.live b).2 (by simp [hbc])
        exact (h.hp.bx b bcells hbc).step hg hl (fun j => (hfb b j).symm) (heap_alloc_old w _ (hβlt b hl))
    · simp only [G', Bx.set]
      by_cases hbd : b = .t d
      · simp [hbd]
      · simp [hbd, h.hp.live b]
    · simp only [G'] at he hl hl'
      by_cases h1 : b = .t d <;> by_cases h2 : b' = .t d
      · rw [h1, h2]
      · have hl2 := hl'.resolve_left h2
        have := hβlt b' hl2
        simp [h1, h2] at he; omega
      · have hl2 := hl.resolve_left h1
        have := hβlt b hl2
        simp [h1, h2] at he; omega
      · simp only [h1, h2, if_false] at he
        exact h.hp.inj b b' (hl.resolve_left h1) (hl'.resolve_left h2) he
    · have := h.hp.imlt g o hg; simp; omega
    · simp only [G', Option.map_eq_some_iff] at hg
      obtain ⟨q, hq, _⟩ := hg
      have := h.hp.ownlt g q hq; simp; omega
    · intro him
      by_cases hbd : b = .t d
      · simp only [G', hbd, if_true] at him
        have := h.hp.imlt _ _ him; omega
      · simp only [G', hbd, if_false] at him
        exact h.hp.boxim b (hl.resolve_left hbd) o him
    · by_cases hbd : b = .t d
      · simp only [G', hbd, if_true, Option.map_eq_none_iff]
        cases ho : G.own w.heap.size with
        | none => rfl
        | some p => have := h.hp.ownlt _ _ ho; omega
      · simp only [G', hbd, if_false, Option.map_eq_none_iff]
        exact h.hp.boxown b (hl.resolve_left hbd)
  · refine h.sn.next hm (by simp) hkeep (fun b o hbo => .inl hbo) (fun g p hg => ?_) (fun b hl => ?_) (fun k => by simp [G']) rfl
    · simp only [G', Option.map_eq_some_iff] at hg
      obtain ⟨q, hq, _⟩ := hg
      exact .inl ⟨q, hq⟩
    · by_cases hbd : b = .t d
      · right; simp [G', hbd]
      · left; exact ⟨hl.resolve_left hbd, by simp [G', hbd]⟩

/-- A write to a variable in memory. -/
theorem Rel.store {P : Program} {F : Fr} {G : Gh} {st : St} {a : Act} {w : World} (h : Rel P F G st a w) {b : BN} {o : Nat} {cells new : List PV} (hb : st.bx b = some cells) {vs : List Value}
    (f : Pos → Pos) (ts : List Nat) (hf : ∀ t, t ∉ ts → ∀ i j, f (.t t, i, j) = (.t t, i, j)) (hfb : ∀ c j, f (.b c, 0, j) = (.b c, 0, j)) (hfq : f qpos = qpos) (hsz : vs.length = new.length) (hfit : o + new.length ≤ cells.length) (hone : ∀ u ∈ vs, u.oneCell' = true)
    (hrep : ∀ (j : Nat) x u, new[j]? = some x → vs[j]? = some u → ∃ p, RepC P G w p x u ∧ f p = (.b b, 0, o + j)) :
    ∃ G' w', (storeCells ⟨G.β b, o, none⟩ vs 0).run P w = .ok () w' ∧ Rel P F G' (st.upd ts none .junk (Bx.set st.bx b (cells.take o ++ new ++ cells.drop (o + new.length)))) (a.put none undef) w' := by
  have hl : G.live b := (h.hp.live b).2 (by simp [hb])
  obtain ⟨cs, e, h1, h2, h3, h4⟩ := h.hp.bx b cells hb
  have hrun := run_storeCells_at P (G.β b) o e vs 0 cs w h1 (by omega) hone
  simp only [Nat.add_zero] at hrun
  generalize hcs' : (cs.toList.take o ++ vs ++ cs.toList.drop (o + vs.length)).toArray = cs' at hrun
  have hm : MStep w (w.setRow (G.β b) cs') (some (G.β b)) := MStep.setRow w _ _
  have hzb : ∀ g, some (G.β b) = some g → F.w0.heap.size ≤ g ∨ F.Wr g := fun g hg => by cases hg; exact h.sn.box b hl
  have hkeep : Keep G.im w G.im (w.setRow (G.β b) cs') := fun g k hgk => ⟨hgk, by
    have hne : g ≠ G.β b := fun e => h.hp.boxim b hl k (e ▸ hgk)
    exact World.cell?_of_block (w := w) (w' := w.setRow (G.β b) cs') (a := ⟨g, k, none⟩) (setRow_other w _ g cs' hne)⟩
  have hg : GStep G w (G.relabel f) (w.setRow (G.β b) cs') (relF f) := by
    refine ⟨hkeep, fun b hl => ⟨hl, rfl⟩, rfl, h.sn.fz_same hm hzb, hm.size, fun g p q hg hq => ⟨?_, ?_, fun _ h => h⟩, fun o g ho hf => ⟨FreeO.relabel ⟨?_, hf.2⟩ hfq ho, .heap ?_⟩⟩
    rotate_left
    rotate_left
    · rw [setRow_other w _ g cs' (fun e => hf.2.2.1 b hl e.symm)]; exact hf.1
    · exact setRow_other w _ g cs' (fun e => hf.2.2.1 b hl e.symm)
    · have : q = f p := hq
      simp [Gh.relabel, hg, this]
    · refine setRow_other w _ g cs' (fun e => ?_)
      have := h.hp.boxown b hl
      rw [← e, hg] at this; cases this
  refine ⟨G.relabel f, _, hrun, h.next hg (fun t ht _ i j => (hf t ht i j).symm) (fun d' ed => by cases ed) (fun d' ed => by cases ed) ?_ ?_⟩
  · refine ⟨fun c bcells hbc => ?_, fun c => ?_, h.hp.inj, fun g o hg => Nat.lt_of_lt_of_le (h.hp.imlt g o hg) hm.size, fun g p hg => ?_, h.hp.boxim, fun c hl => ?_⟩
    · by_cases hcb : c = b
      · subst hcb
        simp only [Bx.set, if_true, Option.some.injEq] at hbc
        subst hbc
        refine ⟨cs', e, setRow_heap w (G.β c) cs cs' e (0, 0) h1, ?_, ?_, fun j x u hx hu => ?_⟩
        · rw [← hcs']; simp; omega
        · intro j u hj hu
          have hj' : j < cells.length := by simp at hj; omega
          rw [← hcs'] at hu
          simp only [List.getElem?_toArray] at hu
          by_cases hj1 : j < o
          · rw [List.append_assoc, List.getElem?_append_left (by simp; omega), List.getElem?_take_of_lt hj1] at hu
            exact h3 j u hj' (by simpa using hu)
          · have e2 : (cs.toList.take o).length = o := by simp; omega
            by_cases hj2 : j < o + vs.length
            · rw [List.append_assoc, List.getElem?_append_right (by omega), e2, List.getElem?_append_left (by omega)] at hu
              exact hone u (List.mem_of_getElem? hu)
            · have e3 : (cs.toList.take o ++ vs).length = o + vs.length := by simp; omega
              rw [List.getElem?_append_right (by omega), e3, List.getElem?_drop, show o + vs.length + (j - (o + vs.length)) = j by omega] at hu
              exact h3 j u hj' (by simpa using hu)
        · rw [← hcs'] at hu
          simp only [List.getElem?_toArray] at hu
          have hol : o ≤ cells.length := by omega
          by_cases hj1 : j < o
          · rw [List.append_assoc, List.getElem?_append_left (by simp; omega), List.getElem?_take_of_lt hj1] at hx
            rw [List.append_assoc, List.getElem?_append_left (by simp; omega), List.getElem?_take_of_lt hj1] at hu
            exact (h4 j x u hx (by simpa using hu)).step hg (hfb c j).symm
          · by_cases hj2 : j < o + new.length
            · rw [List.append_assoc, List.getElem?_append_right (by simp; omega), List.getElem?_append_left (by simp; omega)] at hx
              rw [List.append_assoc, List.getElem?_append_right (by simp; omega), List.getElem?_append_left (by simp; omega)] at hu
              have e1 : (cells.take o).length = o := by simp; omega
              have e2 : (cs.toList.take o).length = o := by simp; omega
              rw [e1] at hx; rw [e2] at hu
              obtain ⟨p, hp, hfp⟩ := hrep (j - o) x u hx hu
              rw [show o + (j - o) = j from by omega] at hfp
              exact hp.step hg hfp.symm
            · rw [List.getElem?_append_right (by simp; omega), List.getElem?_drop] at hx
              rw [List.getElem?_append_right (by simp; omega), List.getElem?_drop] at hu
              have e1 : o + new.length + (j - (cells.take o ++ new).length) = j := by simp; omega
              have e2 : o + vs.length + (j - (cs.toList.take o ++ vs).length) = j := by simp; omega
              rw [e1] at hx; rw [e2] at hu
              exact (h4 j x u hx (by simpa using hu)).step hg (hfb c j).symm
      · simp only [Bx.set, hcb, if_false] at hbc
        have hlc := (h.hp.live c).2 (by simp [hbc])
        exact (h.hp.bx c bcells hbc).step hg hlc (fun j => (hfb c j).symm) (setRow_other w _ _ cs' (fun e => hcb (h.hp.inj c b hlc hl e)))
    · simp only [Gh.relabel, Bx.set]
      by_cases hcb : c = b
      · simp [hcb, hl]
      · simp [hcb, h.hp.live c]
    · simp only [Gh.relabel, Option.map_eq_some_iff] at hg
      obtain ⟨q, hq, _⟩ := hg
      exact Nat.lt_of_lt_of_le (h.hp.ownlt g q hq) hm.size
    · simp only [Gh.relabel, Option.map_eq_none_iff]
      exact h.hp.boxown c hl
  · refine h.sn.next hm hzb hkeep (fun b o hbo => .inl hbo) (fun g p hg => ?_) (fun b hl => .inl ⟨hl, rfl⟩) (fun k => rfl) rfl
    simp only [Gh.relabel, Option.map_eq_some_iff] at hg
    obtain ⟨q, hq, _⟩ := hg
    exact .inl ⟨q, hq⟩

/-- A write to a block that is nobody's, where no slice lies. -/
theorem Rel.zstore {P : Program} {F : Fr} {G : Gh} {st : St} {a : Act} {w : World} (h : Rel P F G st a w) {g o : Nat} {cs : List PD} (hz : ZRun (FreeB G w) w g o cs) {vs : List Value} (ts : List Nat)
    (h0 : 0 < vs.length) (hlen : vs.length ≤ cs.length) (hc : ∀ (j : Nat) x, j < vs.length → cs[j]? = some x → x.isSl = false) (hone : ∀ u ∈ vs, u.oneCell' = true ∧ isSlV u = false) :
    ∃ w', (storeCells ⟨g, o, none⟩ vs 0).run P w = .ok () w' ∧ Rel P F G (st.upd ts none .junk st.bx) (a.put none undef) w' := by
  obtain ⟨us, hul, hus, huv, hur⟩ := hz
  have hcell : ∀ j, j < cs.length → ∃ u, us[j]? = some u ∧ FreeB G w g ∧ w.cell? ⟨g, o + j, none⟩ = some u := fun j hj => by
    have hj2 : j < us.length := by omega
    exact ⟨us[j], List.getElem?_eq_getElem hj2, huv j _ (List.getElem?_eq_getElem hj2)⟩
  obtain ⟨-, -, hf, -⟩ := hcell 0 (by omega)
  obtain ⟨⟨ds, e, h1⟩, ho, hbx, him, hfz⟩ := hf
  have hcw : ∀ k, w.cell? ⟨g, k, none⟩ = ds[k]? := fun k => by simp [World.cell?, h1]
  have hfit : o + vs.length ≤ ds.size := by
    obtain ⟨u, -, -, hu⟩ := hcell (vs.length - 1) (by omega)
    rw [hcw] at hu
    have := (Array.getElem?_eq_some_iff.1 hu).1
    omega
  have hrun := run_storeCells_at P g o e vs 0 ds w h1 (by omega) (fun u hu => (hone u hu).1)
  simp only [Nat.add_zero] at hrun
  generalize hcs' : (ds.toList.take o ++ vs ++ ds.toList.drop (o + vs.length)).toArray = ds' at hrun
  have hm : MStep w (w.setRow g ds') (some g) := MStep.setRow w _ _
  have hnew : (w.setRow g ds').heap[g]? = some (.cells ds' e (0, 0)) := setRow_heap w g ds ds' e (0, 0) h1
  have hcw' : ∀ k, (w.setRow g ds').cell? ⟨g, k, none⟩ = ds'[k]? := fun k => by simp [World.cell?, hnew]
  have hks : KindSame w (w.setRow g ds') g := fun k u hu hu1 => by
    rw [hcw] at hu
    rw [hcw', ← hcs', List.getElem?_toArray]
    by_cases hk1 : k < o
    · rw [List.append_assoc, List.getElem?_append_left (by simp; omega), List.getElem?_take_of_lt hk1, Array.getElem?_toList, hu]
      split
      · rfl
      · rename_i hn; exact ⟨u, rfl, by simpa using hn, hu1⟩
    · by_cases hk2 : k < o + vs.length
      · have e2 : (ds.toList.take o).length = o := by simp; omega
        rw [List.append_assoc, List.getElem?_append_right (by omega), e2, List.getElem?_append_left (by omega)]
        obtain ⟨u', hu2, -, hu3⟩ := hcell (k - o) (by omega)
        rw [show o + (k - o) = k by omega, hcw, hu] at hu3
        cases hu3
        have hx : cs[k - o]? = some cs[k - o] := List.getElem?_eq_getElem (by omega)
        have hzd := hur (k - o) _ u hx hu2
        have hns := hc (k - o) _ (by omega) hx
        have hus' : isSlV u = false := by
          generalize cs[k - o] = y at hzd hns
          cases hzd <;> first | assumption | cases hns
        rw [if_neg (by simp [hus'])]
        have hkl : k - o < vs.length := by omega
        have hin := hone _ (List.getElem_mem hkl)
        exact ⟨vs[k - o], List.getElem?_eq_getElem hkl, hin.2, hin.1⟩
      · have e2 : (ds.toList.take o ++ vs).length = o + vs.length := by simp; omega
        rw [List.getElem?_append_right (by omega), e2, List.getElem?_drop, show o + vs.length + (k - (o + vs.length)) = k by omega, Array.getElem?_toList, hu]
        split
        · rfl
        · rename_i hn; exact ⟨u, rfl, by simpa using hn, hu1⟩
  have hoth : ∀ b, b ≠ g → (w.setRow g ds').heap[b]? = w.heap[b]? := fun b hb => setRow_other w g b ds' hb
  have hzb : ∀ g', some g = some g' → F.w0.heap.size ≤ g' ∨ F.Wr g' := fun g' e => by
    cases e
    by_cases hlt : F.w0.heap.size ≤ g
    · exact .inl hlt
    · exact .inr (Classical.byContradiction fun hn => hfz (h.sn.fzm g (by omega) hn))
  have hkeep : Keep G.im w G.im (w.setRow g ds') := fun b k hbk => ⟨hbk, cell_of_heap (hoth b fun e => him k (e ▸ hbk)) k⟩
  have hg : GStep G w G (w.setRow g ds') (fun p q => p = q) := by
    refine ⟨hkeep, fun b hl => ⟨hl, rfl⟩, rfl, fun b hb => hoth b (fun e => hfz (e ▸ hb)), hm.size, fun b p q hb hpq => ⟨by rw [← hpq]; exact hb, hoth b (fun e => by rw [e, ho] at hb; cases hb), fun _ h => h⟩, fun o' b ho' hb => ?_⟩
    by_cases e : b = g
    · subst e
      have : o' = none := by rw [← hb.2.1, ho]
      subst this
      exact ⟨⟨⟨ds', _, hnew⟩, hb.2⟩, .kind hks⟩
    · exact ⟨⟨by rw [hoth b e]; exact hb.1, hb.2⟩, .heap (hoth b e)⟩
  refine ⟨_, hrun, h.next hg (fun t _ _ i j => rfl) (fun d' ed => by cases ed) (fun d' ed => by cases ed) ?_ ?_⟩
  · exact ⟨fun c cells hc => (h.hp.bx c cells hc).step hg ((h.hp.live c).2 (by simp [hc])) (fun j => rfl) (hoth _ (hbx c ((h.hp.live c).2 (by simp [hc])))), h.hp.live, h.hp.inj, fun b k hb => Nat.lt_of_lt_of_le (h.hp.imlt b k hb) hm.size,
      fun b p hb => Nat.lt_of_lt_of_le (h.hp.ownlt b p hb) hm.size, h.hp.boxim, h.hp.boxown⟩
  · exact h.sn.next hm hzb hkeep (fun b o hb => .inl hb) (fun b p hb => .inl ⟨p, hb⟩) (fun b hl => .inl ⟨hl, rfl⟩) (fun k => rfl) rfl

end Go.Bee

/-
The logic's operations: slices that are made or that grow. No condition.
-/
namespace Go.Bee
set_option linter.unusedVariables false

theorem MStep.grownBy {w w' : World} {z : Option Nat} (h : w.grownBy w' z) : MStep w w' z := ⟨h.os, h.tape, h.output, h.size, fun b hb hz => h.block b hb hz⟩

/-- A row of one's own that is new, or an old one that has grown. -/
theorem Rel.ownNew {P : Program} {F : Fr} {G : Gh} {st : St} {a : Act} {w w' : World} (h : Rel P F G st a w) {d : Nat} (hd : d < F.nt) {ts : List Nat} {z : Option Nat} (hm : MStep w w' z)
    (hz : ∀ g0, z = some g0 → ∃ s, s ∈ ts ∧ G.own g0 = some (.t s, 0, 0)) {e sz : Nat} {l : List PD} {v : Value} {vs : List Value} (hown : w'.ownsRow 0 e sz v l.length vs) (hb : l.length ≤ 140737488355328)
    (hu : ∀ x ∈ l, x.cells.length = sz) (hs : ∀ x ∈ flat l, x.scalar = true) (hr : ∀ (i : Nat) x u, (flat l)[i]? = some x → vs[i]? = some u → RepD G.im w x u)
    (hblk : ∀ g, v.ownBlock = some g → w.heap.size ≤ g ∨ z = some g) (hold : ∀ g0 o, z = some g0 → G.im g0 o → w'.cell? ⟨g0, o, none⟩ = w.cell? ⟨g0, o, none⟩)
    (him : ∀ g0 o, z = some g0 → v.ownBlock = some g0 → G.im g0 o → o < vs.length) (hne : l = [] → Full 0 v) :
    ∃ G', Rel P F G' (st.upd ts (some d) (.own e sz l) st.bx) (a.put (some d) v) w' := by
  let G' : Gh := { im := (fun g o => G.im g o ∨ (v.ownBlock = some g ∧ o < vs.length)), β := G.β, live := G.live, own := (fun g => if v.ownBlock = some g then some (Loc.t d, 0, 0) else if z = some g then none else G.own g), fz := G.fz }
  have hzown : ∀ g0, z = some g0 → F.w0.heap.size ≤ g0 ∨ F.Wr g0 := fun g0 e => by obtain ⟨s, _, hs⟩ := hz g0 e; exact h.sn.own g0 _ hs
  have hvlt : ∀ g, v.ownBlock = some g → g < w'.heap.size := fun g hg => (hown.lt g hg).2
  have hkeep : Keep G.im w G'.im w' := fun b o hbo => ⟨.inl hbo, by
    by_cases hzb : z = some b
    · exact hold b o hzb hbo
    · exact World.cell?_of_block (w := w) (w' := w') (a := ⟨b, o, none⟩) (hm.old b (h.hp.imlt b o hbo) (fun e => hzb e.symm))⟩
  have hg : GStep G w G' w' (fun p q => p = q ∧ ∀ g0, z = some g0 → G.own g0 ≠ some p) := by
    refine ⟨hkeep, fun b hl => ⟨hl, rfl⟩, rfl, h.sn.fz_same hm hzown, hm.size, fun g p q hgp hpq => ?_, fun o g ho hf => ?_⟩
    rotate_left
    · have hlt := hf.lt
      have hzg : z ≠ some g := fun e => by obtain ⟨s, _, hs⟩ := hz g e; rw [hf.2.1] at hs; rcases ho with rfl | rfl <;> cases hs
      have hvg : v.ownBlock ≠ some g := fun e => by
        rcases hblk g e with h1 | h1
        · omega
        · exact hzg h1
      have hw := hm.old g hlt (fun e => hzg e.symm)
      refine ⟨⟨by rw [hw]; exact hf.1, by simp [G', hvg, hzg, hf.2.1], hf.2.2.1, fun o ho => ?_, hf.2.2.2.2⟩, .heap hw⟩
      rcases ho with ho | ⟨ho, _⟩
      · exact hf.2.2.2.1 o ho
      · exact hvg ho
    obtain ⟨rfl, hne⟩ := hpq
    have hzg : z ≠ some g := fun e => hne g e hgp
    have hlt := h.hp.ownlt g p hgp
    have hvg : v.ownBlock ≠ some g := fun e => by
      rcases hblk g e with h1 | h1
      · omega
      · exact hzg h1
    refine ⟨by simp [G', hvg, hzg, hgp], hm.old g hlt (fun e => hzg e.symm), fun o ho => ?_⟩
    rcases ho with ho | ⟨ho, _⟩
    · exact ho
    · exact absurd ho hvg
  have hrep : RepD G'.im w' (.sl sz l) v := by
    have hlen : vs.length = (flat l).length := by rw [hown.1, flat_length hu]
    rcases hown.2 with ⟨rfl, hn⟩ | ⟨g, cap, cur, rfl, _, hgg, hc, _, hcs, ht⟩
    · obtain rfl : l = [] := List.length_eq_zero_iff.1 hn
      exact .nil sz
    · refine .sl sz l g 0 cap vs hb hc hu hs hlen (fun i u hi => ?_) (fun i x u hx hu => (hr i x u hx hu).keep hkeep)
      have hi' : i < vs.length := (List.getElem?_eq_some_iff.1 hi).1
      rw [Nat.zero_add]
      refine ⟨.inr ⟨rfl, hi'⟩, ?_⟩
      have := hown.cells (g := g) rfl i u hi
      rwa [Addr.add_lit, Nat.zero_add] at this
  have hβlt : ∀ b, G.live b → G.β b < w.heap.size := fun b hl => by obtain ⟨c, _, hbx⟩ := h.hp.box hl; exact hbx.lt
  have hβz : ∀ b, G.live b → z ≠ some (G.β b) := fun b hl e => by
    obtain ⟨s, _, hs⟩ := hz _ e
    rw [h.hp.boxown b hl] at hs; cases hs
  have hβv : ∀ b, G.live b → v.ownBlock ≠ some (G.β b) := fun b hl e => by
    rcases hblk _ e with h1 | h1
    · have := hβlt b hl; omega
    · exact hβz b hl h1
  refine ⟨G', h.next hg (fun t ht htd i j => ⟨rfl, fun g0 e hgo => ?_⟩) (fun d' ed => ?_) (fun d' ed => by cases ed; exact hd) ?_ ?_⟩
  · obtain ⟨s, hs, hs2⟩ := hz g0 e
    rw [hs2] at hgo
    cases hgo
    exact ht hs
  · cases ed
    by_cases hl0 : l = []
    · exact ⟨hrep, .inl ⟨by rw [hl0]; exact hne hl0, fun h => absurd hl0 h⟩⟩
    refine ⟨hrep, .inr ⟨vs, hown, ⟨hl0, hu⟩, fun g hvg => ⟨by simp [G', hvg], fun i hi => .inr ⟨hvg, hi⟩, fun i hi hc => ?_⟩⟩⟩
    rcases hc with hc | ⟨_, hc⟩
    · rcases hblk g hvg with h1 | h1
      · have := h.hp.imlt g i hc; omega
      · have := him g i h1 hvg hc; omega
    · omega
  · refine ⟨fun b bcells hbc => ?_, h.hp.live, h.hp.inj, fun g o hgo => ?_, fun g p hgp => ?_, fun b hl o hgo => ?_, fun b hl => ?_⟩
    · have hl := (h.hp.live b).2 (by simp [hbc])
      refine (h.hp.bx b bcells hbc).step hg hl (fun j => ⟨rfl, fun g0 e hgo => ?_⟩) (hm.old _ (hβlt b hl) (fun e => hβz b hl e.symm))
      obtain ⟨s, _, hs⟩ := hz g0 e
      rw [hs] at hgo; cases hgo
    · rcases hgo with hgo | ⟨hgo, _⟩
      · exact Nat.lt_of_lt_of_le (h.hp.imlt g o hgo) hm.size
      · exact hvlt g hgo
    · simp only [G'] at hgp
      split at hgp
      · rename_i hv; exact hvlt g hv
      · split at hgp
        · cases hgp
        · exact Nat.lt_of_lt_of_le (h.hp.ownlt g p hgp) hm.size
    · rcases hgo with hgo | ⟨hgo, _⟩
      · exact h.hp.boxim b hl o hgo
      · exact hβv b hl hgo
    · simp [G', hβv b hl, hβz b hl, h.hp.boxown b hl]
  · refine h.sn.next hm hzown hkeep (fun b o hbo => ?_) (fun g p hgp => ?_) (fun b hl => .inl ⟨hl, rfl⟩) (fun k => rfl) rfl
    · rcases hbo with hbo | ⟨hbo, _⟩
      · exact .inl hbo
      · exact .inr (hblk b hbo)
    · simp only [G'] at hgp
      split at hgp
      · rename_i hv
        rcases hblk g hv with h1 | h1
        · exact .inr h1
        · obtain ⟨s, _, hs⟩ := hz g h1
          exact .inl ⟨_, hs⟩
      · split at hgp
        · cases hgp
        · exact .inl ⟨p, hgp⟩

/-- From a slot to another, with more slots that lose what is their own. -/
theorem Rel.moveTs {P : Program} {F : Fr} {G : Gh} {st : St} {a : Act} {w : World} (h : Rel P F G st a w) {d : Nat} (hd : d < F.nt) {ts : List Nat} {x : PV} {v : Value} {loc : Loc}
    (hloc : ∀ t, loc = .t t → t ∈ ts) (hb : ∀ b, loc ≠ .b b) (hq : loc ≠ .q) (hx : RepT P G w loc x v) : ∃ G', Rel P F G' (st.upd ts (some d) x st.bx) (a.put (some d) v) w := by
  let f : Pos → Pos := fun p => if p.1 = loc then (.t d, p.2) else p
  have hfq : f qpos = qpos := by simp [f, qpos, Ne.symm hq]
  refine ⟨G.relabel f, h.next (GStep.relabel G w f hfq) (fun t ht _ i j => ?_) (fun d' e => ?_) (fun d' e => by cases e; exact hd) (h.hp.relabel _ ?_ hfq) (h.sn.relabel _)⟩
  · have : Loc.t t ≠ loc := fun e => ht (hloc t e.symm)
    simp [f, this]
  · cases e
    exact hx.step (GStep.relabel G w f hfq) (fun i j => by simp [f])
  · intro b j
    have : Loc.b b ≠ loc := fun e => hb b e.symm
    simp [f, this]

/-- The temporaries among operands. -/
def tmpsOf (xs : List Operand) : List Nat := xs.filterMap fun | .tmp t => some t | _ => none
theorem mem_tmpsOf {xs : List Operand} {t : Nat} : t ∈ tmpsOf xs ↔ Operand.tmp t ∈ xs := by
  unfold tmpsOf
  simp only [List.mem_filterMap]
  constructor
  · rintro ⟨x, hx, h⟩
    cases x <;> simp at h
    subst h; exact hx
  · intro h
    exact ⟨_, h, rfl⟩

/-- The slice that grows: whose own it is (or that it is full). -/
def PV.grow : PV → Option (Option (Nat × Nat) × List PD)
  | .own e sz l => some (some (e, sz), l)
  | .nilS => some (none, [])
  | _ => none
def PV.more : PV → Option (Option Nat × List PD)
  | .nilS => some (none, [])
  | x => x.list.map fun q => (some q.1, q.2)
def evAppend (P : Program) (t : TypeId) (s x : PV) : Option PV :=
  s.grow.bind fun q => x.more.bind fun r => (tyi P t).bind fun i => i.el.bind fun e => (tyi P e).bind fun te =>
    if (q.1 = none ∨ q.1 = some (e, te.sz)) ∧ (r.1 = none ∨ r.1 = some te.sz) ∧ 0 < te.sz ∧ te.zero.length = te.sz then
      (if (q.2.length + r.2.length) * (te.by_ + 1) ≤ 140737488355328 then some (.own e te.sz (q.2 ++ r.2)) else none) else none

theorem run_append_nothing {P : Program} (w : World) {t e : TypeId} {te : TI} (ty : TypeId) (ht : P.underlying t = some (.slice e)) (hte : tyi P e = some te) (b : Option Addr) (n c : Nat) (hc : n ≤ c) (b' : Option Addr) (c' : Nat) :
    (Builtin.append_ #[t, t] ty #[.slice b n c, .slice b' 0 c']).run P w = .ok (.slice b n c) w := by
  have h1 : ∀ w, (Builtin.firstCells te.sz 0 (.slice b' 0 c')).run P w = .ok #[] w := by
    intro w; cases b' <;> simp [Builtin.firstCells, loadCells, loadCellsFrom]
  cases b with
  | none => simp [Builtin.append_, run_underlying ht, tyi_size hte, Builtin.lenOf, hc, h1]
  | some b => simp [Builtin.append_, run_underlying ht, tyi_size hte, Builtin.lenOf, hc, h1, storeCells]

theorem evAppend_ok {P : Program} {F : Fr} {G : Gh} {st : St} {a : Act} {w : World} (h : Rel P F G st a w) {d : Nat} (hd : d < F.nt) {t ty : TypeId} {S X : Operand} {r : PV} (he : evAppend P t (st.ev S) (st.ev X) = some r) :
    ∃ rv w' G', (Builtin.append_ #[t, t] ty #[a.eval S, a.eval X]).run P w = .ok rv w' ∧ Rel P F G' (st.upd (tmpsOf [S, X]) (some d) r st.bx) (a.put (some d) rv) w' := by
  unfold evAppend at he
  simp only [Option.bind_eq_some_iff] at he
  obtain ⟨⟨q1, l⟩, hq, ⟨r1, m⟩, hr, i, hi, e, hel, te, hte, he⟩ := he
  simp only at he
  split at he
  · rename_i hc
    obtain ⟨hq1, hr1, hsz0, hzl⟩ := hc
    split at he
    · rename_i hbd
      cases he
      have hS := h.ev S
      have hX := h.ev X
      have ht := tyi_el hi hel
      obtain ⟨i', td, k1, k2, k3, k4, k5, k6, k7, k8, k9, k10⟩ := tyi_spec hte
      obtain ⟨z, hz, hzs⟩ : ∃ z, i'.zero = some z ∧ z.cells.size = te.sz := by
        rw [k9] at hzl
        cases hzz : i'.zero with
        | none => rw [hzz] at hzl; simp at hzl; omega
        | some z => rw [hzz] at hzl; exact ⟨z, rfl, by simpa using hzl⟩
      have hnn : l.length + m.length ≤ 140737488355328 ∧ (l.length + m.length) * te.by_ ≤ 140737488355328 := by
        have h1 : (l.length + m.length) * (te.by_ + 1) = (l.length + m.length) * te.by_ + (l.length + m.length) := by rw [Nat.mul_add, Nat.mul_one]
        omega
      -- the slice that grows
      have hs : OwnAt G w (opLoc S, 0, 0) e te.sz l (a.eval S) := by
        generalize hev : st.ev S = s at hS hq
        cases s <;> simp only [PV.grow, reduceCtorEq, Option.some.injEq, Prod.mk.injEq] at hq
        · obtain ⟨rfl, rfl⟩ := hq
          have hS' : a.eval S = .slice none 0 0 := hS
          rw [hS']
          exact ⟨.nil _, .inl ⟨.inl rfl, fun h => absurd rfl h⟩⟩
        · obtain ⟨rfl, rfl⟩ := hq
          rcases hq1 with h1 | h1
          · cases h1
          · cases h1; exact hS
      -- what is appended
      have hx : RepD G.im w (.sl te.sz m) (a.eval X) := by
        generalize hev : st.ev X = x at hX hr
        cases x <;> simp only [PV.more, PV.list, Option.map_none, reduceCtorEq, Option.some.injEq, Prod.mk.injEq, Option.map_eq_some_iff] at hr
        · obtain ⟨⟨a1, a2⟩, hl, rfl, rfl⟩ := hr
          rcases hr1 with h1 | h1
          · cases h1
          · cases h1
            exact hX.list hl
        · obtain ⟨rfl, rfl⟩ := hr
          have hX' : a.eval X = .slice none 0 0 := hX
          rw [hX']; exact .nil _
        · obtain ⟨⟨a1, a2⟩, hl, rfl, rfl⟩ := hr
          rcases hr1 with h1 | h1
          · cases h1
          · cases h1
            cases hl
            exact hX.1
        · obtain ⟨⟨a1, a2⟩, hl, rfl, rfl⟩ := hr
          rcases hr1 with h1 | h1
          · cases h1
          · cases h1
            cases hl
            exact OwnAt.data hX
        · obtain ⟨⟨a1, a2⟩, hl, rfl, rfl⟩ := hr
          rcases hr1 with h1 | h1
          · cases h1
          · cases h1
            exact hX.list hl
      -- nothing appended
      have nothing : m = [] → ∃ rv w' G', (Builtin.append_ #[t, t] ty #[a.eval S, a.eval X]).run P w = .ok rv w' ∧ Rel P F G' (st.upd (tmpsOf [S, X]) (some d) (.own e te.sz (l ++ m)) st.bx) (a.put (some d) rv) w' := by
        rintro rfl
        have hshape : ∃ b c, a.eval S = .slice b l.length c ∧ l.length ≤ c := by
          rcases hs.1.sl_shape with ⟨rfl, h1⟩ | ⟨g, o, c, h1, h2, -⟩ | ⟨rfl, a, c, h1⟩
          · exact ⟨none, 0, h1, Nat.le_refl _⟩
          · exact ⟨_, c, h1, h2⟩
          · exact ⟨_, c, h1, by simp⟩
        obtain ⟨b, c, hv, hlc⟩ := hshape
        have hshape' : ∃ b c, a.eval X = .slice b 0 c := by
          rcases hx.sl_shape with ⟨_, h1⟩ | ⟨g, o, c, h1, h2, -⟩ | ⟨-, a, c, h1⟩
          · exact ⟨none, 0, h1⟩
          · exact ⟨_, c, h1⟩
          · exact ⟨_, c, h1⟩
        obtain ⟨b', c', hv'⟩ := hshape'
        rw [List.append_nil]
        have hrun := run_append_nothing (P := P) w ty ht hte b l.length c hlc b' c'
        have hloc : ∀ t, opLoc S = .t t → t ∈ tmpsOf [S, X] := by
          intro t ht'
          cases S <;> simp [opLoc] at ht'
          subst ht'; simp [tmpsOf]
        have hnb : ∀ b, opLoc S ≠ .b b := by intro b; cases S <;> simp [opLoc]
        obtain ⟨G', hG'⟩ := h.moveTs hd (ts := tmpsOf [S, X]) (x := .own e te.sz l) hloc hnb (by cases S <;> simp [opLoc]) hs
        exact ⟨_, w, G', by rw [hv, hv']; exact hrun, by rw [hv] at hG'; exact hG'⟩
      rcases hx.sl_shape with ⟨rfl, -⟩ | ⟨gx, ox, cx, hvx, hlcx, hux, news, hnl, hns, hnc, hnr⟩ | ⟨rfl, -⟩
      · exact nothing rfl
      rotate_left
      · exact nothing rfl
      · by_cases hm0 : m = []
        · exact nothing hm0
        have hmpos : 0 < m.length := List.length_pos_iff.2 hm0
        have hnl' : news.length = m.length * te.sz := by rw [hnl, flat_length hux]
        have hnews : ∀ (j : Nat) v, news[j]? = some v → w.cell? ((⟨gx, ox, none⟩ : Addr).add j) = some v := fun j v hj => by rw [Addr.add_lit]; exact (hnc j v hj).2
        have hone : ∀ u ∈ news, u.oneCell' = true := by
          intro u hu
          obtain ⟨j, hj, rfl⟩ := List.mem_iff_getElem.1 hu
          have hj2 : j < (flat m).length := by omega
          exact (hnr j _ _ (List.getElem?_eq_getElem hj2) (List.getElem?_eq_getElem hj)).oneCell (hns _ (List.getElem_mem hj2))
        have hlu : (∀ x ∈ l, x.cells.length = te.sz) ∧ (∀ x ∈ flat l, x.scalar = true) := by
          rcases hs.1.sl_shape with ⟨rfl, -⟩ | ⟨g, o, c, -, -, h1, h2⟩ | ⟨rfl, -⟩
          · exact ⟨by simp, by simp [flat_nil]⟩
          rotate_left
          · exact ⟨by simp, by simp [flat_nil]⟩
          · obtain ⟨vs, -, h2, -⟩ := h2; exact ⟨h1, h2⟩
        have hu' : ∀ x ∈ l ++ m, x.cells.length = te.sz := fun x hx => (List.mem_append.1 hx).elim (hlu.1 x) (hux x)
        have hs' : ∀ x ∈ flat (l ++ m), x.scalar = true := fun x hx => by rw [flat_append] at hx; exact (List.mem_append.1 hx).elim (hlu.2 x) (hns x)
        have hlen : (l ++ m).length = l.length + m.length := List.length_append
        rcases hs.2 with ⟨hfull0, -⟩ | ⟨vs, hown, hu, hg⟩
        · obtain ⟨b, hfull⟩ := hfull0.ex
          -- full: a new row
          have holds : ∃ olds : List Value, olds.length = l.length * te.sz ∧ (∀ b', b = some b' → ∀ (j : Nat) v, olds[j]? = some v → w.cell? (b'.add j) = some v) ∧ (b = none → olds = []) ∧ ∀ (i : Nat) x u, (flat l)[i]? = some x → olds[i]? = some u → RepD G.im w x u := by
            rcases hs.1.sl_shape with ⟨rfl, h1⟩ | ⟨g, o, c, h1, h2, h3, vs, k1, k2, k3, k4⟩ | ⟨rfl, -⟩
            · rw [hfull] at h1; cases h1
              exact ⟨[], by simp, by simp, by simp, by simp [flat_nil]⟩
            rotate_left
            · exact ⟨[], by simp, by simp, by simp, by simp [flat_nil]⟩
            · rw [hfull] at h1; cases h1
              refine ⟨vs, by rw [k1, flat_length h3], fun b' e j v hj => ?_, by simp, k4⟩
              cases e; rw [Addr.add_lit]; exact (k3 j v hj).2
          obtain ⟨olds, ho1, ho2, ho3, ho4⟩ := holds
          have hcap := grownCap_ge w (l.length + m.length) l.length e
          have hrun : (Builtin.append_ #[t, t] ty #[a.eval S, a.eval X]).run P w = .ok (.slice (some ⟨w.heap.size, 0, none⟩) (l.length + m.length) (grownCap w (l.length + m.length) l.length e))
              (w.drew.alloc (.cells (olds.toArray ++ news.toArray ++ Builtin.zeroCells z.cells (grownCap w (l.length + m.length) l.length e - (l.length + m.length))) e)) := by
            rw [hfull, hvx]
            cases b with
            | none =>
              obtain rfl := ho3 rfl
              have hl0 : l.length = 0 := by
                have := Nat.mul_eq_zero.1 (by simpa using ho1.symm : l.length * te.sz = 0)
                rcases this with h1 | h1
                · exact h1
                · omega
              have := run_append_nil (P := P) w t ty e i' z ht k1 hz ⟨gx, ox, none⟩ m.length cx news (by rw [← k3]; exact hnl') hnews hmpos (by omega) (by have := Nat.le_trans (Nat.mul_le_mul_right te.by_ (Nat.le_add_left m.length l.length)) hnn.2; rw [← k4]; omega)
              rw [hl0]
              simpa using this
            | some b =>
              have := run_append_grow (P := P) w t ty e i' z ht k1 hz b l.length l.length olds (by rw [← k3]; exact ho1) (ho2 b rfl) ⟨gx, ox, none⟩ m.length cx news (by rw [← k3]; exact hnl') hnews (by omega) (by omega)
                (growslice_fits (by omega) (by rw [← k4]; exact hnn.2))
              exact this
          have hcm : grownCap w (l.length + m.length) l.length e ≤ maxLen := grownCap_le_maxLen w _ _ e (by unfold maxLen; omega)
          have hownNew : (w.drew.alloc (.cells (olds.toArray ++ news.toArray ++ Builtin.zeroCells z.cells (grownCap w (l.length + m.length) l.length e - (l.length + m.length))) e)).ownsRow 0 e te.sz
              (.slice (some ⟨w.heap.size, 0, none⟩) (l.length + m.length) (grownCap w (l.length + m.length) l.length e)) (l ++ m).length (olds ++ news) := by
            rw [hlen]
            refine ⟨by rw [List.length_append, ho1, hnl', Nat.add_mul], .inr ⟨w.heap.size, _, _, rfl, Nat.zero_le _, Go.heap_alloc_new w.drew _, hcap, hcm, ?_, ?_⟩⟩
            · simp only [Array.size_append, List.size_toArray, size_zeroCells, hzs, ho1, hnl', ← Nat.add_mul]
              congr 1
              omega
            · have e1 : (olds ++ news).length = (l.length + m.length) * te.sz := by rw [List.length_append, ho1, hnl', Nat.add_mul]
              simp only [Array.toList_append, List.append_assoc]
              rw [← List.append_assoc, ← e1]
              exact List.take_left
          have hms : MStep w (w.drew.alloc (.cells (olds.toArray ++ news.toArray ++ Builtin.zeroCells z.cells (grownCap w (l.length + m.length) l.length e - (l.length + m.length))) e)) none := MStep.drew (MStep.alloc w.drew _ none)
          have hrepn : ∀ (i : Nat) x u, (flat (l ++ m))[i]? = some x → (olds ++ news)[i]? = some u → RepD G.im w x u := by
            intro i x u hx hu
            have e1 : olds.length = (flat l).length := by rw [ho1, flat_length hlu.1]
            rw [flat_append] at hx
            by_cases hi : i < (flat l).length
            · rw [List.getElem?_append_left hi] at hx
              rw [List.getElem?_append_left (by omega)] at hu
              exact ho4 i x u hx hu
            · rw [List.getElem?_append_right (by omega)] at hx
              rw [List.getElem?_append_right (by omega), e1] at hu
              exact hnr _ x u hx hu
          obtain ⟨G', hG'⟩ := h.ownNew hd (ts := tmpsOf [S, X]) hms (by simp) hownNew (by rw [hlen]; omega) hu' hs' hrepn (fun g hg => by simp [Value.ownBlock] at hg; left; omega) (by simp) (by simp) (fun h => absurd (List.append_eq_nil_iff.1 h).2 hm0)
          exact ⟨_, _, G', hrun, hG'⟩
        · -- one's own
          obtain ⟨v', w', hrun, hown', hgrown, -⟩ := run_append_own (P := P) w 0 t ty e i' z te.sz te.by_ ht k1 hz k3.symm k4.symm hzs hsz0 (a.eval S) l.length vs hown ⟨gx, ox, none⟩ m.length cx news hnl' hnews hone
            (by unfold maxLen; omega) hnn.2 (Nat.zero_le _)
          rw [← hlen] at hown'
          have hvs : vs.length = (flat l).length := by rw [hown.1, flat_length hlu.1]
          -- the block that has grown
          have hSt : ∀ g0, (a.eval S).ownBlock = some g0 → ∃ s, s ∈ tmpsOf [S, X] ∧ G.own g0 = some (.t s, 0, 0) := by
            intro g0 hg0
            obtain ⟨h1, -⟩ := hg g0 hg0
            cases hS' : S with
            | tmp s => subst hS'; exact ⟨s, by simp [tmpsOf], h1⟩
            | const v =>
              subst hS'
              generalize hev : st.ev (.const v) = s at hS hq
              cases s <;> simp only [PV.grow, reduceCtorEq, Option.some.injEq, Prod.mk.injEq] at hq
              · have hS'' : a.eval (.const v) = .slice none 0 0 := hS
                rw [hS''] at hg0; simp [Value.ownBlock] at hg0
              · simp only [St.ev] at hev
                have : ∀ v, cpv v ≠ .own e te.sz l := by
                  intro v; unfold cpv cpc
                  repeat' split
                  all_goals (first | (intro h; cases h; done) | simp)
                obtain ⟨rfl, rfl⟩ := hq
                rcases hq1 with h1 | h1
                · cases h1
                · cases h1; exact absurd hev (this v)
            | global g => subst hS'; simp [St.ev, PV.grow] at hq
            | func f => subst hS'; simp [St.ev, PV.grow] at hq
          -- where the old cells of that block are
          have hcells : ∀ g0 o, (a.eval S).ownBlock = some g0 → G.im g0 o → o < vs.length ∧ w'.cell? ⟨g0, o, none⟩ = w.cell? ⟨g0, o, none⟩ := by
            intro g0 o hg0 him
            obtain ⟨-, h2, h3⟩ := hg g0 hg0
            have ho : o < vs.length := by
              apply Classical.byContradiction; intro hc
              exact h3 o (by omega) him
            refine ⟨ho, ?_⟩
            have e1 := hown.cells hg0 o _ (List.getElem?_eq_getElem ho)
            rw [Addr.add_lit, Nat.zero_add] at e1
            by_cases hsame : v'.ownBlock = some g0
            · have e2 := hown'.cells hsame o vs[o] (by rw [List.getElem?_append_left ho]; exact List.getElem?_eq_getElem ho)
              rw [Addr.add_lit, Nat.zero_add] at e2
              rw [e1, e2]
            · -- a new row: the old one is as it was: the run says so
              rcases hown.2 with ⟨hn, _⟩ | ⟨g, cap, cur, hv, _, hgg, hnc, hcm, hcs, htk⟩
              · rw [hn] at hg0; simp [Value.ownBlock] at hg0
              · rw [hv] at hg0 hrun
                simp [Value.ownBlock] at hg0
                subst hg0
                by_cases hroom : l.length + m.length ≤ cap
                · have hfit : l.length * i'.size + news.length ≤ cur.size := by rw [hnl', hcs, ← k3, ← Nat.add_mul]; exact Nat.mul_le_mul_right _ hroom
                  have hr2 := run_append_room (P := P) w t ty e i' ht k1 g l.length cap cur hgg ⟨gx, ox, none⟩ m.length cx news (by rw [← k3]; exact hnl') hnews hone hroom hfit
                  rw [hrun] at hr2
                  cases hr2
                  simp [Value.ownBlock] at hsame
                · have hr2 := run_append_grow (P := P) w t ty e i' z ht k1 hz ⟨g, 0, none⟩ l.length cap vs (by rw [← k3]; exact hown.1) (hown.cells (g := g) (by rw [hv]; rfl)) ⟨gx, ox, none⟩ m.length cx news (by rw [← k3]; exact hnl') hnews (by omega) (by omega) (growslice_fits (by omega) (by rw [← k4]; exact hnn.2))
                  rw [hrun] at hr2
                  cases hr2
                  rw [cell_alloc_lt (w := w.drew) (h.hp.imlt g o him)]
                  rfl
          have hblk' : ∀ g, v'.ownBlock = some g → w.heap.size ≤ g ∨ (a.eval S).ownBlock = some g := by
            intro g' hg'
            rcases hown.2 with ⟨hn, hn0⟩ | ⟨g, cap, cur, hv, _, hgg, hnc, hcm, hcs, htk⟩
            · have hl0 : l = [] := List.length_eq_zero_iff.1 hn0
              subst hl0
              rw [hn] at hrun
              have hr2 := run_append_nil (P := P) w t ty e i' z ht k1 hz ⟨gx, ox, none⟩ m.length cx news (by rw [← k3]; exact hnl') hnews hmpos (by omega) (by rw [← k4]; simp at hnn; omega)
              rw [hrun] at hr2
              cases hr2
              simp [Value.ownBlock] at hg'
              left; omega
            · rw [hv] at hrun
              by_cases hroom : l.length + m.length ≤ cap
              · have hfit : l.length * i'.size + news.length ≤ cur.size := by rw [hnl', hcs, ← k3, ← Nat.add_mul]; exact Nat.mul_le_mul_right _ hroom
                have hr2 := run_append_room (P := P) w t ty e i' ht k1 g l.length cap cur hgg ⟨gx, ox, none⟩ m.length cx news (by rw [← k3]; exact hnl') hnews hone hroom hfit
                rw [hrun] at hr2
                cases hr2
                simp [Value.ownBlock] at hg'
                subst hg'
                right; rw [hv]; rfl
              · have hr2 := run_append_grow (P := P) w t ty e i' z ht k1 hz ⟨g, 0, none⟩ l.length cap vs (by rw [← k3]; exact hown.1) (hown.cells (g := g) (by rw [hv]; rfl)) ⟨gx, ox, none⟩ m.length cx news (by rw [← k3]; exact hnl') hnews (by omega) (by omega) (growslice_fits (by omega) (by rw [← k4]; exact hnn.2))
                rw [hrun] at hr2
                cases hr2
                simp [Value.ownBlock] at hg'
                left; omega
          have hrepn : ∀ (i : Nat) x u, (flat (l ++ m))[i]? = some x → (vs ++ news)[i]? = some u → RepD G.im w x u := by
            intro i x u hx hu
            rw [flat_append] at hx
            by_cases hi : i < (flat l).length
            · rw [List.getElem?_append_left hi] at hx
              rw [List.getElem?_append_left (by omega)] at hu
              rcases hs.1.sl_shape with ⟨rfl, h1⟩ | ⟨g, o, c, h1, h2, h3, vs2, q1, q2, q3, q4⟩ | ⟨rfl, -⟩
              · simp [flat_nil] at hi
              rotate_left
              · simp [flat_nil] at hi
              · -- the two lists of old cells are one
                have hg1 : (a.eval S).ownBlock = some g := by rw [h1]; rfl
                have e1 := hown.cells hg1 i u hu
                rw [Addr.add_lit, Nat.zero_add] at e1
                have ho0 : o = 0 := by
                  rcases hown.2 with ⟨hn, _⟩ | ⟨g', cap, cur, hv, _⟩
                  · rw [hn] at h1; cases h1
                  · rw [hv] at h1; cases h1; rfl
                subst ho0
                have hi2 : i < vs2.length := by omega
                have e2 := (q3 i vs2[i] (List.getElem?_eq_getElem hi2)).2
                rw [Nat.zero_add, e1] at e2
                cases e2
                exact q4 i x _ hx (List.getElem?_eq_getElem hi2)
            · rw [List.getElem?_append_right (by omega)] at hx
              rw [List.getElem?_append_right (by omega), hvs] at hu
              exact hnr _ x u hx hu
          obtain ⟨G', hG'⟩ := h.ownNew hd (ts := tmpsOf [S, X]) (MStep.grownBy hgrown) hSt hown' (by rw [hlen]; omega) hu' hs' hrepn hblk' (fun g0 o hg0 him => (hcells g0 o hg0 him).2) (fun g0 o hg0 _ him => by
            have := (hcells g0 o hg0 him).1
            rw [List.length_append]; omega) (fun h => absurd (List.append_eq_nil_iff.1 h).2 hm0)
          exact ⟨v', w', G', by rw [hvx]; exact hrun, hG'⟩
    · cases he
  · cases he

end Go.Bee
