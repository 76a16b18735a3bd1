/-
A logic for the functions of the program over plain data: values by what they hold, not by where they lie. No condition.
-/
import Derived.WalkKit
namespace Go.Bee
set_option linter.unusedVariables false

/-- Plain data: what a value holds, slices to the bottom. -/
inductive PD where
  | bool (b : Bool)
  | int (k : IntKind) (n : Int)
  | str (l : List UInt8)
  | sl (sz : Nat) (l : List PD)
  | agg (cells : List PD)
  deriving Inhabited

def PD.scalar : PD → Bool
  | .agg _ => false
  | _ => true
def PD.cells : PD → List PD
  | .agg cs => cs
  | x => [x]
def flat (l : List PD) : List PD := l.flatMap PD.cells

theorem flat_nil : flat [] = [] := rfl
theorem flat_append (a b : List PD) : flat (a ++ b) = flat a ++ flat b := by simp [flat]
theorem flat_cons (x : PD) (l : List PD) : flat (x :: l) = x.cells ++ flat l := by simp [flat]
theorem flat_length {sz : Nat} {l : List PD} (h : ∀ e ∈ l, e.cells.length = sz) : (flat l).length = l.length * sz := by
  induction l with
  | nil => simp [flat]
  | cons x l ih =>
    rw [flat_cons, List.length_append, ih (fun e he => h e (List.mem_cons_of_mem _ he)), h x (List.mem_cons_self ..), List.length_cons, Nat.add_mul]
    omega
theorem flat_take {sz : Nat} : ∀ {l : List PD} (h : ∀ e ∈ l, e.cells.length = sz) (n : Nat), (flat l).take (n * sz) = flat (l.take n)
  | [], _, n => by simp [flat]
  | x :: l, h, 0 => by simp [flat]
  | x :: l, h, n + 1 => by
    have hx := h x (List.mem_cons_self ..)
    rw [flat_cons, List.take_succ_cons, flat_cons, ← flat_take (fun e he => h e (List.mem_cons_of_mem _ he)) n, List.take_append, hx,
      List.take_of_length_le (by rw [hx, Nat.add_mul]; omega)]
    congr 2
    rw [Nat.add_mul]; omega
theorem flat_drop {sz : Nat} : ∀ {l : List PD} (h : ∀ e ∈ l, e.cells.length = sz) (n : Nat), (flat l).drop (n * sz) = flat (l.drop n)
  | [], _, n => by simp [flat]
  | x :: l, h, 0 => by simp [flat]
  | x :: l, h, n + 1 => by
    have hx := h x (List.mem_cons_self ..)
    rw [flat_cons, List.drop_succ_cons, ← flat_drop (fun e he => h e (List.mem_cons_of_mem _ he)) n, List.drop_append, hx,
      List.drop_of_length_le (by rw [hx, Nat.add_mul]; omega), List.nil_append]
    congr 1
    rw [Nat.add_mul]; omega
theorem flat_elem {sz : Nat} {l : List PD} (h : ∀ e ∈ l, e.cells.length = sz) {i : Nat} {x : PD} (hx : l[i]? = some x) :
    ((flat l).drop (i * sz)).take sz = x.cells := by
  rw [flat_drop h]
  obtain ⟨hi, rfl⟩ := List.getElem?_eq_some_iff.1 hx
  rw [List.drop_eq_getElem_cons hi, flat_cons]
  have := h l[i] (List.getElem_mem hi)
  rw [List.take_append, List.take_of_length_le (by omega), this]
  simp

/-- 'v' holds the data x; all cells that it takes lie in S. -/
inductive RepD (S : Nat → Nat → Prop) (w : World) : PD → Value → Prop
  | bool (b : Bool) : RepD S w (.bool b) (.bool b)
  | int (k : IntKind) (n : Int) : RepD S w (.int k n) (.int k n)
  | str (l : List UInt8) (hb : l.length ≤ 140737488355328) : RepD S w (.str l) (.string ⟨l.toArray⟩)
  | nil (sz : Nat) : RepD S w (.sl sz []) (.slice none 0 0)
  | sl (sz : Nat) (l : List PD) (g o c : Nat) (vs : List Value) (hb : l.length ≤ 140737488355328) (hc : l.length ≤ c) (hu : ∀ e ∈ l, e.cells.length = sz) (hs : ∀ x ∈ flat l, x.scalar = true)
      (hl : vs.length = (flat l).length) (hv : ∀ (i : Nat) v, vs[i]? = some v → S g (o + i) ∧ w.cell? ⟨g, o + i, none⟩ = some v)
      (hr : ∀ (i : Nat) x v, (flat l)[i]? = some x → vs[i]? = some v → RepD S w x v) : RepD S w (.sl sz l) (.slice (some ⟨g, o, none⟩) l.length c)
  | emp (sz : Nat) (a : Addr) (c : Nat) : RepD S w (.sl sz []) (.slice (some a) 0 c)
  | agg (cs : List PD) (vs : Array Value) (hl : vs.size = cs.length) (hs : ∀ x ∈ cs, x.scalar = true)
      (hr : ∀ (i : Nat) x v, cs[i]? = some x → vs[i]? = some v → RepD S w x v) : RepD S w (.agg cs) (.agg vs)

/-- Each cell of S is in S' and reads as it did. -/
def Keep (S : Nat → Nat → Prop) (w : World) (S' : Nat → Nat → Prop) (w' : World) : Prop :=
  ∀ b o, S b o → S' b o ∧ w'.cell? ⟨b, o, none⟩ = w.cell? ⟨b, o, none⟩
theorem Keep.refl (S : Nat → Nat → Prop) (w : World) : Keep S w S w := fun _ _ h => ⟨h, rfl⟩
theorem Keep.trans {S S' S'' : Nat → Nat → Prop} {w w' w'' : World} (h : Keep S w S' w') (k : Keep S' w' S'' w'') : Keep S w S'' w'' :=
  fun b o hb => ⟨(k b o (h b o hb).1).1, (k b o (h b o hb).1).2.trans (h b o hb).2⟩
theorem RepD.keep {S S' : Nat → Nat → Prop} {w w' : World} (hk : Keep S w S' w') {x : PD} {v : Value} (h : RepD S w x v) : RepD S' w' x v := by
  induction h with
  | bool b => exact .bool b
  | int k n => exact .int k n
  | str l hb => exact .str l hb
  | nil sz => exact .nil sz
  | sl sz l g o c vs hb hc hu hs hl hv hr ih =>
    exact .sl sz l g o c vs hb hc hu hs hl (fun i v hi => ⟨(hk _ _ (hv i v hi).1).1, (hk _ _ (hv i v hi).1).2.trans (hv i v hi).2⟩) ih
  | emp sz a c => exact .emp sz a c
  | agg cs vs hl hs hr ih => exact .agg cs vs hl hs ih
theorem RepD.oneCell {S : Nat → Nat → Prop} {w : World} {x : PD} {v : Value} (h : RepD S w x v) (hs : x.scalar = true) : v.oneCell' = true := by
  cases h <;> first | rfl | simp [PD.scalar] at hs

/-- A run of cells. -/
def RepRun (S : Nat → Nat → Prop) (w : World) (g o : Nat) (cells : List PD) : Prop :=
  ∃ vs : List Value, vs.length = cells.length ∧ (∀ x ∈ cells, x.scalar = true) ∧ (∀ (i : Nat) v, vs[i]? = some v → S g (o + i) ∧ w.cell? ⟨g, o + i, none⟩ = some v) ∧
    ∀ (i : Nat) x v, cells[i]? = some x → vs[i]? = some v → RepD S w x v
theorem RepRun.keep {S S' : Nat → Nat → Prop} {w w' : World} (hk : Keep S w S' w') {g o : Nat} {cells : List PD} (h : RepRun S w g o cells) : RepRun S' w' g o cells := by
  obtain ⟨vs, hl, hs, hv, hr⟩ := h
  exact ⟨vs, hl, hs, fun i v hi => ⟨(hk _ _ (hv i v hi).1).1, (hk _ _ (hv i v hi).1).2.trans (hv i v hi).2⟩, fun i x v hx hy => (hr i x v hx hy).keep hk⟩
theorem RepRun.drop {S : Nat → Nat → Prop} {w : World} {g o : Nat} {cells : List PD} (h : RepRun S w g o cells) (n : Nat) : RepRun S w g (o + n) (cells.drop n) := by
  obtain ⟨vs, hl, hs, hv, hr⟩ := h
  refine ⟨vs.drop n, by simp [hl], fun x hx => hs x (List.mem_of_mem_drop hx), fun i v hi => ?_, fun i x v hx hy => ?_⟩
  · rw [List.getElem?_drop] at hi
    have := hv _ _ hi
    rwa [← Nat.add_assoc] at this
  · rw [List.getElem?_drop] at hx hy
    exact hr _ _ _ hx hy
theorem RepRun.take {S : Nat → Nat → Prop} {w : World} {g o : Nat} {cells : List PD} (h : RepRun S w g o cells) (n : Nat) : RepRun S w g o (cells.take n) := by
  obtain ⟨vs, hl, hs, hv, hr⟩ := h
  refine ⟨vs.take n, by simp [hl], fun x hx => hs x (List.mem_of_mem_take hx), fun i v hi => ?_, fun i x v hx hy => ?_⟩
  · rw [List.getElem?_take] at hi
    split at hi
    · exact hv _ _ hi
    · cases hi
  · rw [List.getElem?_take] at hx hy
    split at hx
    · rename_i hlt; rw [if_pos hlt] at hy; exact hr _ _ _ hx hy
    · cases hx
theorem RepD.run {S : Nat → Nat → Prop} {w : World} {sz : Nat} {l : List PD} {g o n c : Nat} (h : RepD S w (.sl sz l) (.slice (some ⟨g, o, none⟩) n c)) :
    n = l.length ∧ (l ≠ [] → n ≤ c) ∧ (∀ e ∈ l, e.cells.length = sz) ∧ RepRun S w g o (flat l) := by
  cases h with
  | sl _ _ _ _ _ vs hb hc hu hs hl hv hr => exact ⟨rfl, fun _ => hc, hu, vs, hl, hs, hv, hr⟩
  | emp => exact ⟨rfl, fun h => absurd rfl h, by simp, [], by simp [flat_nil], by simp [flat_nil], by simp, by simp [flat_nil]⟩
theorem RepD.sl_shape {S : Nat → Nat → Prop} {w : World} {sz : Nat} {l : List PD} {v : Value} (h : RepD S w (.sl sz l) v) :
    (l = [] ∧ v = .slice none 0 0) ∨ (∃ g o c, v = .slice (some ⟨g, o, none⟩) l.length c ∧ l.length ≤ c ∧ (∀ e ∈ l, e.cells.length = sz) ∧ RepRun S w g o (flat l)) ∨ (l = [] ∧ ∃ a c, v = .slice (some a) 0 c) := by
  cases h with
  | nil => exact .inl ⟨rfl, rfl⟩
  | sl _ _ g o c vs hb hc hu hs hl hv hr => exact .inr (.inl ⟨g, o, c, rfl, hc, hu, vs, hl, hs, hv, hr⟩)
  | emp sz a c => exact .inr (.inr ⟨rfl, a, c, rfl⟩)
theorem RepD.of_run {S : Nat → Nat → Prop} {w : World} {sz : Nat} {l : List PD} {g o c : Nat} (hb : l.length ≤ 140737488355328) (hc : l.length ≤ c) (hu : ∀ e ∈ l, e.cells.length = sz) (h : RepRun S w g o (flat l)) :
    RepD S w (.sl sz l) (.slice (some ⟨g, o, none⟩) l.length c) := by
  obtain ⟨vs, hl, hs, hv, hr⟩ := h
  exact .sl sz l g o c vs hb hc hu hs hl hv hr
theorem RepD.len {S : Nat → Nat → Prop} {w : World} {sz : Nat} {l : List PD} {v : Value} (h : RepD S w (.sl sz l) v) : l.length ≤ 140737488355328 := by
  cases h with
  | nil => simp
  | emp => simp
  | sl _ _ _ _ _ vs hb => exact hb
theorem RepD.slen {S : Nat → Nat → Prop} {w : World} {l : List UInt8} {v : Value} (h : RepD S w (.str l) v) : l.length ≤ 140737488355328 := by
  cases h with
  | str _ hb => exact hb

/-- A block that holds a variable: a temporary of the function that made it (.t), or one that was handed in (.a). -/
inductive BN where
  | t (n : Nat)
  | a (n : Nat)
  deriving DecidableEq, Inhabited
inductive Loc where
  | t (n : Nat)
  | b (n : BN)
  | res
  | q
  deriving DecidableEq, Inhabited

/-- What a slot holds, as the logic sees it. -/
inductive PV where
  | d (x : PD)
  | nilS
  | nn (sz : Nat) (l : List PD)
  | own (e sz : Nat) (l : List PD)
  | ptr (b : BN) (o : Nat)
  | rsl (b : BN) (e sz n : Nat)
  | eptr (cells : List PD)
  | efn (K : List PD → Option PD)
  | dp (x : PD)
  | rsv (b : BN) (sz n : Nat)
  | q (x : PD)
  | zs (x : PD)
  | zp (cells : List PD)
  | one
  | clo (f : Nat) (caps : List PV)
  | fn (K : List PD → Option PD)
  | junk
  | und
  | agg (l : List PV)
  | tup (l : List PV)
  deriving Inhabited

abbrev PV.int (n : Int) : PV := .d (.int .i64 n)
abbrev PV.bool (b : Bool) : PV := .d (.bool b)
abbrev PV.str (l : List UInt8) : PV := .d (.str l)

/-- Memory behind a run: the cells of S are as they were; of the old blocks only those of Wr may have turned; S' has beside S only new cells, or cells of Wr. -/
structure Ext (S : Nat → Nat → Prop) (w : World) (S' : Nat → Nat → Prop) (w' : World) (Wr : Nat → Prop) : Prop where
  os : w'.os = w.os
  tape : w'.tape = w.tape
  output : w'.output = w.output
  size : w.heap.size ≤ w'.heap.size
  old : ∀ b, b < w.heap.size → ¬ Wr b → w'.heap[b]? = w.heap[b]?
  keep : Keep S w S' w'
  new : ∀ b o, S' b o → S b o ∨ w.heap.size ≤ b ∨ Wr b
theorem Ext.refl (S : Nat → Nat → Prop) (w : World) (Wr : Nat → Prop) : Ext S w S w Wr :=
  ⟨rfl, rfl, rfl, Nat.le_refl _, fun _ _ _ => rfl, Keep.refl S w, fun _ _ h => .inl h⟩
theorem Ext.trans {S S' S'' : Nat → Nat → Prop} {w w' w'' : World} {Wr Wr' : Nat → Prop} (h : Ext S w S' w' Wr) (k : Ext S' w' S'' w'' Wr')
    (hw : ∀ b, Wr' b → w.heap.size ≤ b ∨ Wr b) : Ext S w S'' w'' Wr := by
  refine ⟨k.os.trans h.os, k.tape.trans h.tape, k.output.trans h.output, Nat.le_trans h.size k.size, fun b hb hn => ?_, h.keep.trans k.keep, fun b o hb => ?_⟩
  · rw [k.old b (Nat.lt_of_lt_of_le hb h.size) (fun hw' => (hw b hw').elim (fun h => by omega) hn)]
    exact h.old b hb hn
  · rcases k.new b o hb with h1 | h1 | h1
    · exact h.new b o h1
    · have := h.size; exact .inr (.inl (by omega))
    · exact .inr (hw b h1)

/-- Data without a slice in it. -/
def PD.plain : PD → Bool
  | .bool _ => true
  | .int _ _ => true
  | .str _ => true
  | .sl _ _ => false
  | .agg cs => cs.all fun x => match x with | .bool _ => true | .int _ _ => true | .str _ => true | _ => false

/-- A function with a text that is entered when it is called. -/
def isFn (P : Program) (f : Nat) : Bool :=
  match P.funcs[f]? with
  | some fn => fn.name != "runtime.NumGoroutine" && fn.body.isSome
  | none => false
/-- A function value that computes K of plain data, wherever S is kept and the blocks of fz are as they were. -/
def FnOk (P : Program) (S : Nat → Nat → Prop) (fz : Nat → Prop) (w : World) (K : List PD → Option PD) (v : Value) : Prop :=
  ∃ (f : Nat) (caps : Array Value), v = .func (.func f) #[] caps ∧ isFn P f = true ∧
    ∀ xs r, K xs = some r → r.plain = true ∧ ∀ S1 w1, Keep S w S1 w1 → (∀ g, fz g → w1.heap[g]? = w.heap[g]?) → w.heap.size ≤ w1.heap.size → (∀ b o, S1 b o → b < w1.heap.size) → ∀ vs : Array Value, vs.size = xs.length →
      (∀ (i : Nat) x u, xs[i]? = some x → vs[i]? = some u → RepD S1 w1 x u) →
      Calls P f (vs ++ caps) w1 fun e w2 => ∃ u, e = .returned u ∧ Ext S1 w1 S1 w2 (fun _ => False) ∧ RepD S1 w2 r u
theorem FnOk.keep {P : Program} {S S' : Nat → Nat → Prop} {fz : Nat → Prop} {w w' : World} (hk : Keep S w S' w') (hz : ∀ g, fz g → w'.heap[g]? = w.heap[g]?) (hs : w.heap.size ≤ w'.heap.size)
    {K : List PD → Option PD} {v : Value} (h : FnOk P S fz w K v) : FnOk P S' fz w' K v := by
  obtain ⟨f, caps, hv, hf, h⟩ := h
  exact ⟨f, caps, hv, hf, fun xs r hK => ⟨(h xs r hK).1, fun S1 w1 hk1 hz1 hs1 => (h xs r hK).2 S1 w1 (hk.trans hk1) (fun g hg => (hz1 g hg).trans (hz g hg)) (Nat.le_trans hs hs1)⟩⟩

/-- What the logic does not show: where the blocks lie, which cells stay as they are, whose a slice's spare room is. -/
structure Gh where
  im : Nat → Nat → Prop
  β : BN → Nat
  live : BN → Prop
  own : Nat → Option (Loc × Nat × Nat)
  fz : Nat → Prop

def RepAt (G : Gh) (w : World) : PV → Value → Prop
  | .d x, v => RepD G.im w x v ∧ x.scalar = true
  | .nilS, v => v = .slice none 0 0
  | .und, v => v = undef
  | .nn sz l, v => RepD G.im w (.sl sz l) v ∧ ∀ n c, v ≠ .slice none n c
  | .ptr b o, v => v = .pointer (some ⟨G.β b, o, none⟩) ∧ G.live b
  | .eptr cells, v => ∃ g o, v = .pointer (some ⟨g, o, none⟩) ∧ RepRun G.im w g o cells
  | _, _ => False
/-- A slice with no room behind its end. -/
def Full (n : Nat) (v : Value) : Prop := v = .slice none n n ∨ ∃ g, v = .slice (some ⟨g, 0, none⟩) n n
theorem Full.ex {n : Nat} {v : Value} (h : Full n v) : ∃ b, v = .slice b n n := h.elim (fun h => ⟨_, h⟩) fun ⟨_, h⟩ => ⟨_, h⟩
/-- A slice of one's own: nobody else's slice reaches behind its end (or there is no room behind it). -/
def OwnAt (G : Gh) (w : World) (p : Loc × Nat × Nat) (e sz : Nat) (l : List PD) (v : Value) : Prop :=
  RepD G.im w (.sl sz l) v ∧ ((Full l.length v ∧ (l ≠ [] → ∀ g, v.ownBlock = some g → G.own g = some p ∧ ∃ cs e', w.heap[g]? = some (.cells cs e' (0, 0)))) ∨ ∃ vs, w.ownsRow 0 e sz v l.length vs ∧ (∀ x ∈ l, x.cells.length = sz) ∧
    ∀ g, v.ownBlock = some g → G.own g = some p ∧ (∀ i, i < vs.length → G.im g i) ∧ ∀ i, vs.length ≤ i → ¬ G.im g i)
/-- The cells of blocks that are one's own, at position p. -/
def Mine (G : Gh) (w : World) (p : Loc × Nat × Nat) : Nat → Nat → Prop := fun b o => G.im b o ∧ G.own b = some p ∧ ∃ cs e, w.heap[b]? = some (.cells cs e (0, 0))
/-- A block that is nobody's. -/
def FreeO (G : Gh) (w : World) (o : Option (Loc × Nat × Nat)) (g : Nat) : Prop := (∃ cs e, w.heap[g]? = some (.cells cs e (0, 0))) ∧ G.own g = o ∧ (∀ b, G.live b → G.β b ≠ g) ∧ (∀ o, ¬ G.im g o) ∧ ¬ G.fz g
abbrev FreeB (G : Gh) (w : World) (g : Nat) : Prop := FreeO G w none g
/-- Whose the blocks are that nobody writes. -/
def qpos : Loc × Nat × Nat := (.q, 0, 0)
abbrev FreeQ (G : Gh) (w : World) (g : Nat) : Prop := FreeO G w (some qpos) g
def PD.isSl : PD → Bool
  | .sl _ _ => true
  | _ => false
def isSlV : Value → Bool
  | .slice _ _ _ => true
  | _ => false
/-- The shape of data alone: what is no slice may be anything; all cells lie in blocks of S. -/
inductive ZD (S : Nat → Prop) (w : World) : PD → Value → Prop
  | sc (x : PD) (v : Value) (hx : x.isSl = false) (h1 : v.oneCell' = true) (h2 : isSlV v = false) : ZD S w x v
  | nil (sz : Nat) : ZD S w (.sl sz []) (.slice none 0 0)
  | sl (sz : Nat) (l : List PD) (g o c : Nat) (vs : List Value) (hb : l.length ≤ 140737488355328) (hc : l.length ≤ c) (hu : ∀ e ∈ l, e.cells.length = sz) (hs : ∀ x ∈ flat l, x.scalar = true)
      (hl : vs.length = (flat l).length) (hv : ∀ (i : Nat) v, vs[i]? = some v → S g ∧ w.cell? ⟨g, o + i, none⟩ = some v)
      (hr : ∀ (i : Nat) x v, (flat l)[i]? = some x → vs[i]? = some v → ZD S w x v) : ZD S w (.sl sz l) (.slice (some ⟨g, o, none⟩) l.length c)
  | emp (sz : Nat) (a : Addr) (c : Nat) : ZD S w (.sl sz []) (.slice (some a) 0 c)
theorem ZD.keep {S S' : Nat → Prop} {w w' : World} (hk : ∀ g, S g → S' g ∧ ∀ o, w'.cell? ⟨g, o, none⟩ = w.cell? ⟨g, o, none⟩) {x : PD} {v : Value} (h : ZD S w x v) : ZD S' w' x v := by
  induction h with
  | sc x v hx h1 h2 => exact .sc x v hx h1 h2
  | nil sz => exact .nil sz
  | sl sz l g o c vs hb hc hu hs hl hv hr ih => exact .sl sz l g o c vs hb hc hu hs hl (fun i v hi => ⟨(hk _ (hv i v hi).1).1, ((hk _ (hv i v hi).1).2 _).trans (hv i v hi).2⟩) ih
  | emp sz a c => exact .emp sz a c
theorem RepD.zd {S : Nat → Nat → Prop} {S' : Nat → Prop} {w : World} (hS : ∀ b o, S b o → S' b) {x : PD} {v : Value} (h : RepD S w x v) : x.scalar = true → ZD S' w x v := by
  induction h with
  | bool b => exact fun _ => .sc _ _ rfl rfl rfl
  | int k n => exact fun _ => .sc _ _ rfl rfl rfl
  | str l hb => exact fun _ => .sc _ _ rfl rfl rfl
  | nil sz => exact fun _ => .nil sz
  | sl sz l g o c vs hb hc hu hs hl hv hr ih =>
    exact fun _ => .sl sz l g o c vs hb hc hu hs hl (fun i v hi => ⟨hS _ _ (hv i v hi).1, (hv i v hi).2⟩) (fun i x v hx hv => ih i x v hx hv (hs x (List.mem_of_getElem? hx)))
  | emp sz a c => exact fun _ => .emp sz a c
  | agg cs vs hl hs hr ih => exact fun h => by cases h
/-- A run of cells of which the shape alone is known. -/
def ZRun (S : Nat → Prop) (w : World) (g o : Nat) (cells : List PD) : Prop :=
  ∃ vs : List Value, vs.length = cells.length ∧ (∀ x ∈ cells, x.scalar = true) ∧ (∀ (i : Nat) v, vs[i]? = some v → S g ∧ w.cell? ⟨g, o + i, none⟩ = some v) ∧
    ∀ (i : Nat) x v, cells[i]? = some x → vs[i]? = some v → ZD S w x v
theorem ZRun.keep {S S' : Nat → Prop} {w w' : World} (hk : ∀ g, S g → S' g ∧ ∀ o, w'.cell? ⟨g, o, none⟩ = w.cell? ⟨g, o, none⟩) {g o : Nat} {cells : List PD} (h : ZRun S w g o cells) : ZRun S' w' g o cells := by
  obtain ⟨vs, hl, hs, hv, hr⟩ := h
  exact ⟨vs, hl, hs, fun i v hi => ⟨(hk _ (hv i v hi).1).1, ((hk _ (hv i v hi).1).2 _).trans (hv i v hi).2⟩, fun i x v hx hy => (hr i x v hx hy).keep hk⟩
/-- Slices stand as they stood; what is no slice is none. -/
def KindSame (w w' : World) (g : Nat) : Prop := ∀ o u, w.cell? ⟨g, o, none⟩ = some u → u.oneCell' = true → if isSlV u = true then w'.cell? ⟨g, o, none⟩ = some u else ∃ u', w'.cell? ⟨g, o, none⟩ = some u' ∧ isSlV u' = false ∧ u'.oneCell' = true
theorem KindSame.refl (w : World) (g : Nat) : KindSame w w g := fun o u h h1 => by
  split
  · exact h
  · rename_i hn; exact ⟨u, h, by simpa using hn, h1⟩
theorem KindSame.trans {w w' w'' : World} {g : Nat} (h : KindSame w w' g) (k : KindSame w' w'' g) : KindSame w w'' g := fun o u hu h1 => by
  have h2 := h o u hu h1
  split at h2
  · rename_i hs
    have h3 := k o u h2 h1
    rw [if_pos hs] at h3 ⊢; exact h3
  · rename_i hs
    obtain ⟨u', h4, h5, h6⟩ := h2
    have h3 := k o u' h4 h6
    rw [if_neg (by simp [h5])] at h3
    rw [if_neg hs]; exact h3
theorem KindSame.of_heap {w w' : World} {g : Nat} (h : w'.heap[g]? = w.heap[g]?) : KindSame w w' g := fun o u hu h1 => by
  have e := World.cell?_of_block (w := w) (w' := w') (a := ⟨g, o, none⟩) h
  exact (by rw [e]; exact KindSame.refl w g o u hu h1)
theorem ZD.kind {S S' : Nat → Prop} {w w' : World} (hk : ∀ g, S g → S' g ∧ KindSame w w' g) {x : PD} {v : Value} (h : ZD S w x v) : ZD S' w' x v := by
  induction h with
  | sc x v hx h1 h2 => exact .sc x v hx h1 h2
  | nil sz => exact .nil sz
  | emp sz a c => exact .emp sz a c
  | sl sz l g o c vs hb hc hu hs hl hv hr ih =>
    have one : ∀ (i : Nat) x v, (flat l)[i]? = some x → vs[i]? = some v → ∃ v', (S' g ∧ w'.cell? ⟨g, o + i, none⟩ = some v') ∧ ZD S' w' x v' := by
      intro i x v hx hvi
      have hz := hr i x v hx hvi
      have h1 : v.oneCell' = true := by cases hz <;> first | assumption | rfl
      have hc := (hk g (hv i v hvi).1).2 (o + i) v (hv i v hvi).2 h1
      split at hc
      · exact ⟨v, ⟨(hk g (hv i v hvi).1).1, hc⟩, ih i x v hx hvi⟩
      · rename_i hn
        obtain ⟨u, h3, h4, h5⟩ := hc
        refine ⟨u, ⟨(hk g (hv i v hvi).1).1, h3⟩, .sc x u ?_ h5 h4⟩
        cases hz <;> first | assumption | exact absurd rfl hn
    have ex : ∃ vs' : List Value, vs'.length = vs.length ∧ ∀ (i : Nat) x v, (flat l)[i]? = some x → vs'[i]? = some v → (S' g ∧ w'.cell? ⟨g, o + i, none⟩ = some v) ∧ ZD S' w' x v := by
      refine ⟨(List.range vs.length).map fun i => (w'.cell? ⟨g, o + i, none⟩).getD undef, by simp, fun i x v hx hv' => ?_⟩
      have hi : i < vs.length := by rw [hl]; exact (List.getElem?_eq_some_iff.1 hx).1
      rw [List.getElem?_map, List.getElem?_range hi] at hv'
      obtain ⟨v', h1, h2⟩ := one i x vs[i] hx (List.getElem?_eq_getElem hi)
      simp only [Option.map_some, h1.2, Option.getD_some, Option.some.injEq] at hv'
      subst hv'
      exact ⟨h1, h2⟩
    obtain ⟨vs', e1, e2⟩ := ex
    refine .sl sz l g o c vs' hb hc hu hs (e1.trans hl) (fun i v hi => ?_) (fun i x v hx hi => (e2 i x v hx hi).2)
    have hi' : i < (flat l).length := by rw [← hl, ← e1]; exact (List.getElem?_eq_some_iff.1 hi).1
    exact (e2 i _ v (List.getElem?_eq_getElem hi') hi).1
theorem ZD.oneCell {S : Nat → Prop} {w : World} {x : PD} {v : Value} (h : ZD S w x v) : v.oneCell' = true := by cases h <;> first | assumption | rfl
theorem ZRun.kind {S S' : Nat → Prop} {w w' : World} (hk : ∀ g, S g → S' g ∧ KindSame w w' g) {g o : Nat} {cells : List PD} (h : ZRun S w g o cells) : ZRun S' w' g o cells := by
  obtain ⟨vs, hl, hs, hv, hr⟩ := h
  have one : ∀ (i : Nat) x v, cells[i]? = some x → vs[i]? = some v → ∃ v', (S' g ∧ w'.cell? ⟨g, o + i, none⟩ = some v') ∧ ZD S' w' x v' := by
    intro i x v hx hvi
    have hz := hr i x v hx hvi
    have h1 : v.oneCell' = true := hz.oneCell
    have hc := (hk g (hv i v hvi).1).2 (o + i) v (hv i v hvi).2 h1
    split at hc
    · exact ⟨v, ⟨(hk g (hv i v hvi).1).1, hc⟩, hz.kind hk⟩
    · rename_i hn
      obtain ⟨u, h3, h4, h5⟩ := hc
      refine ⟨u, ⟨(hk g (hv i v hvi).1).1, h3⟩, .sc x u ?_ h5 h4⟩
      cases hz <;> first | assumption | exact absurd rfl hn
  refine ⟨(List.range vs.length).map fun i => (w'.cell? ⟨g, o + i, none⟩).getD undef, by simp [hl], hs, fun i v hi => ?_, fun i x v hx hv' => ?_⟩
  · have hi2 : i < vs.length := by simpa using (List.getElem?_eq_some_iff.1 hi).1
    rw [List.getElem?_map, List.getElem?_range hi2] at hi
    obtain ⟨v', h1, h2⟩ := one i cells[i] vs[i] (List.getElem?_eq_getElem (by omega)) (List.getElem?_eq_getElem hi2)
    simp only [Option.map_some, h1.2, Option.getD_some, Option.some.injEq] at hi
    subst hi
    exact h1
  · have hi : i < vs.length := by rw [hl]; exact (List.getElem?_eq_some_iff.1 hx).1
    rw [List.getElem?_map, List.getElem?_range hi] at hv'
    obtain ⟨v', h1, h2⟩ := one i x vs[i] hx (List.getElem?_eq_getElem hi)
    simp only [Option.map_some, h1.2, Option.getD_some, Option.some.injEq] at hv'
    subst hv'
    exact h2
/-- How a block that is nobody's goes on. -/
inductive SameO (w w' : World) (g : Nat) : Option (Loc × Nat × Nat) → Prop
  | heap {o : Option (Loc × Nat × Nat)} (h : w'.heap[g]? = w.heap[g]?) : SameO w w' g o
  | kind (h : KindSame w w' g) : SameO w w' g none
theorem SameO.kindN {w w' : World} {g : Nat} (h : SameO w w' g none) : KindSame w w' g := by
  cases h with
  | heap h => exact .of_heap h
  | kind h => exact h
theorem SameO.heapQ {w w' : World} {g : Nat} {p : Loc × Nat × Nat} (h : SameO w w' g (some p)) : w'.heap[g]? = w.heap[g]? := by
  cases h with
  | heap h => exact h
def RepC (P : Program) (G : Gh) (w : World) (p : Loc × Nat × Nat) : PV → Value → Prop
  | .own e sz l, v => OwnAt G w p e sz l v
  | .clo f caps, v => ∃ vs : Array Value, v = .func (.func f) #[] vs ∧ vs.size = caps.length ∧ ∀ (i : Nat) x u, caps[i]? = some x → vs[i]? = some u → RepAt G w x u
  | .fn K, v => FnOk P G.im G.fz w K v
  | .efn K, v => ∃ g o u, v = .pointer (some ⟨g, o, none⟩) ∧ G.im g o ∧ w.cell? ⟨g, o, none⟩ = some u ∧ FnOk P G.im G.fz w K u
  | .dp x, v => RepD (Mine G w p) w x v ∧ x.scalar = true
  | .rsv b _ n, v => ∃ c, n ≤ c ∧ v = .slice (some ⟨G.β b, 0, none⟩) n c ∧ G.live b ∧ n ≤ 140737488355328
  | .q x, v => RepD (fun b _ => FreeQ G w b) w x v ∧ x.scalar = true
  | .zs x, v => ZD (FreeB G w) w x v ∧ x.scalar = true
  | .zp cells, v => ∃ g o, v = .pointer (some ⟨g, o, none⟩) ∧ ZRun (FreeB G w) w g o cells
  | .one, v => v.oneCell' = true
  | .junk, _ => True
  | .rsl b e sz n, v => v = .slice (some ⟨G.β b, 0, none⟩) n n ∧ G.live b ∧ n ≤ 140737488355328
  | .agg _, _ => False
  | .tup _, _ => False
  | .d x, v => RepAt G w (.d x) v
  | .nilS, v => RepAt G w .nilS v
  | .und, v => RepAt G w .und v
  | .nn sz l, v => RepAt G w (.nn sz l) v
  | .ptr b o, v => RepAt G w (.ptr b o) v
  | .eptr cs, v => RepAt G w (.eptr cs) v
def RepV (P : Program) (G : Gh) (w : World) (loc : Loc) (i : Nat) : PV → Value → Prop
  | .agg l, v => ∃ cs : Array Value, v = .agg cs ∧ cs.size = l.length ∧ (∀ u ∈ cs, u.oneCell' = true) ∧ ∀ (j : Nat) x u, l[j]? = some x → cs[j]? = some u → RepC P G w (loc, i, j) x u
  | x, v => RepC P G w (loc, i, 0) x v
def RepT (P : Program) (G : Gh) (w : World) (loc : Loc) : PV → Value → Prop
  | .tup l, v => ∃ vs : Array Value, v = .tuple vs ∧ vs.size = l.length ∧ ∀ (i : Nat) x u, l[i]? = some x → vs[i]? = some u → RepV P G w loc i x u
  | x, v => RepV P G w loc 0 x v
def BoxAt (P : Program) (G : Gh) (w : World) (b : BN) (cells : List PV) : Prop :=
  ∃ (cs : Array Value) (e : TypeId), w.heap[G.β b]? = some (.cells cs e (0, 0)) ∧ cells.length ≤ cs.size ∧ (∀ (j : Nat) u, j < cells.length → cs[j]? = some u → u.oneCell' = true) ∧
    ∀ (j : Nat) x u, cells[j]? = some x → cs[j]? = some u → RepC P G w (.b b, 0, j) x u

/-- The state of a function that runs: its temporaries, the variables that lie in memory. -/
structure St where
  tm : Nat → PV
  bx : BN → Option (List PV)

/-- What is true of memory, whatever the temporaries hold. -/
structure Hp (P : Program) (G : Gh) (w : World) (B : BN → Option (List PV)) : Prop where
  bx : ∀ b cells, B b = some cells → BoxAt P G w b cells
  live : ∀ b, G.live b ↔ (B b).isSome = true
  inj : ∀ b b', G.live b → G.live b' → G.β b = G.β b' → b = b'
  imlt : ∀ g o, G.im g o → g < w.heap.size
  ownlt : ∀ g p, G.own g = some p → g < w.heap.size
  boxim : ∀ b, G.live b → ∀ o, ¬ G.im (G.β b) o
  boxown : ∀ b, G.live b → G.own (G.β b) = none

/-- How the run began. -/
structure Fr where
  nt : Nat
  S0 : Nat → Nat → Prop
  w0 : World
  Wr : Nat → Prop
  βa : Nat → Nat
  Z : Nat → Prop
/-- What is true since the run began. -/
structure Since (F : Fr) (G : Gh) (w : World) : Prop where
  ext : Ext F.S0 F.w0 G.im w F.Wr
  own : ∀ g p, G.own g = some p → F.w0.heap.size ≤ g ∨ F.Wr g
  box : ∀ b, G.live b → F.w0.heap.size ≤ G.β b ∨ F.Wr (G.β b)
  βa : ∀ k, G.β (.a k) = F.βa k
  fz : ∀ g, G.fz g → g < F.w0.heap.size ∧ ¬ F.Wr g
  fzm : ∀ g, g < F.w0.heap.size → ¬ F.Wr g → G.fz g

structure Rel (P : Program) (F : Fr) (G : Gh) (st : St) (a : Act) (w : World) : Prop where
  tm : ∀ t, RepT P G w (.t t) (st.tm t) (a.tmps.getD t undef)
  hp : Hp P G w st.bx
  sn : Since F G w
  nt : a.tmps.size = F.nt
  defers : a.defers = []
  z : ∀ g, F.Z g → FreeB G w g ∧ KindSame F.w0 w g

abbrev Pos := Loc × Nat × Nat
/-- A copy that is nobody's own. -/
def PV.bC : PV → PV
  | .own _ sz l => .d (.sl sz l)
  | .dp x => .d x
  | x => x
def PV.bV : PV → PV
  | .agg l => .agg (l.map PV.bC)
  | x => x.bC
def PV.bT : PV → PV
  | .tup l => .tup (l.map PV.bV)
  | x => x.bV
def Gh.relabel (G : Gh) (f : Pos → Pos) : Gh := { G with own := fun g => (G.own g).map f }

/-- From one ghost and world to the next: what was said of slots at the positions of kp stays true. -/
structure GStep (G : Gh) (w : World) (G' : Gh) (w' : World) (kp : Pos → Pos → Prop) : Prop where
  keep : Keep G.im w G'.im w'
  β : ∀ b, G.live b → G'.live b ∧ G'.β b = G.β b
  fz : G'.fz = G.fz
  hz : ∀ g, G.fz g → w'.heap[g]? = w.heap[g]?
  size : w.heap.size ≤ w'.heap.size
  own : ∀ g p q, G.own g = some p → kp p q → G'.own g = some q ∧ w'.heap[g]? = w.heap[g]? ∧ ∀ o, G'.im g o → G.im g o
  free : ∀ o g, (o = none ∨ o = some qpos) → FreeO G w o g → FreeO G' w' o g ∧ SameO w w' g o
theorem cell_of_heap {w w' : World} {g : Nat} (h : w'.heap[g]? = w.heap[g]?) (o : Nat) : w'.cell? ⟨g, o, none⟩ = w.cell? ⟨g, o, none⟩ := World.cell?_of_block (w := w) (w' := w') (a := ⟨g, o, none⟩) h
theorem GStep.freeK {G G' : Gh} {w w' : World} {kp : Pos → Pos → Prop} (h : GStep G w G' w' kp) : ∀ g, FreeB G w g → FreeB G' w' g ∧ KindSame w w' g :=
  fun g hg => ⟨(h.free _ g (.inl rfl) hg).1, (h.free _ g (.inl rfl) hg).2.kindN⟩
theorem GStep.freeQ {G G' : Gh} {w w' : World} {kp : Pos → Pos → Prop} (h : GStep G w G' w' kp) : Keep (fun b _ => FreeQ G w b) w (fun b _ => FreeQ G' w' b) w' := fun b o hb => ⟨(h.free _ b (.inr rfl) hb).1, cell_of_heap (h.free _ b (.inr rfl) hb).2.heapQ o⟩

theorem RepAt.step {G G' : Gh} {w w' : World} {kp : Pos → Pos → Prop} (h : GStep G w G' w' kp) {x : PV} {v : Value} (hx : RepAt G w x v) : RepAt G' w' x v := by
  cases x <;> simp only [RepAt] at hx ⊢
  case d x => exact ⟨hx.1.keep h.keep, hx.2⟩
  case nilS => exact hx
  case und => exact hx
  case nn sz l => exact ⟨hx.1.keep h.keep, hx.2⟩
  case ptr b o => exact ⟨by rw [(h.β b hx.2).2]; exact hx.1, (h.β b hx.2).1⟩
  case eptr cs => obtain ⟨g, o, hv, hr⟩ := hx; exact ⟨g, o, hv, hr.keep h.keep⟩
theorem OwnAt.step {G G' : Gh} {w w' : World} {kp : Pos → Pos → Prop} (h : GStep G w G' w' kp) {p q : Pos} (hp : kp p q) {e sz : Nat} {l : List PD} {v : Value}
    (hx : OwnAt G w p e sz l v) : OwnAt G' w' q e sz l v := by
  refine ⟨hx.1.keep h.keep, hx.2.imp (fun ⟨h1, h2⟩ => ⟨h1, fun hl g hg => ⟨(h.own g p q (h2 hl g hg).1 hp).1, by rw [(h.own g p q (h2 hl g hg).1 hp).2.1]; exact (h2 hl g hg).2⟩⟩) fun ⟨vs, ho, hu, hg⟩ => ⟨vs, ⟨ho.1, ?_⟩, hu, fun g hvg => ?_⟩⟩
  · rcases ho.2 with hn | ⟨g, cap, cur, rfl, hb, hgg, rest⟩
    · exact .inl hn
    · exact .inr ⟨g, cap, cur, rfl, hb, by rw [(h.own g p q (hg g rfl).1 hp).2.1]; exact hgg, rest⟩
  · obtain ⟨h1, h2, h3⟩ := hg g hvg
    obtain ⟨k1, k2, k3⟩ := h.own g p q h1 hp
    exact ⟨k1, fun i hi => (h.keep g i (h2 i hi)).1, fun i hi hc => h3 i hi (k3 i hc)⟩
theorem Mine.step {G G' : Gh} {w w' : World} {kp : Pos → Pos → Prop} (h : GStep G w G' w' kp) {p q : Pos} (hp : kp p q) : Keep (Mine G w p) w (Mine G' w' q) w' := fun b o ⟨h1, h2, cs, e, h3⟩ =>
  ⟨⟨(h.keep b o h1).1, (h.own b p q h2 hp).1, cs, e, by rw [(h.own b p q h2 hp).2.1]; exact h3⟩, (h.keep b o h1).2⟩
theorem Mine.im (G : Gh) (w : World) (p : Pos) : Keep (Mine G w p) w G.im w := fun b o h => ⟨h.1, rfl⟩
theorem RepC.step {P : Program} {G G' : Gh} {w w' : World} {kp : Pos → Pos → Prop} (h : GStep G w G' w' kp) {p q : Pos} (hp : kp p q) {x : PV} {v : Value}
    (hx : RepC P G w p x v) : RepC P G' w' q x v := by
  cases x <;> simp only [RepC] at hx ⊢
  case own e sz l => exact hx.step h hp
  case clo f caps => obtain ⟨vs, hv, hl, hr⟩ := hx; exact ⟨vs, hv, hl, fun i x u h1 h2 => (hr i x u h1 h2).step h⟩
  case fn K => rw [h.fz]; exact hx.keep h.keep h.hz h.size
  case efn K => obtain ⟨g, o, u, h1, h2, h3, h4⟩ := hx; exact ⟨g, o, u, h1, (h.keep g o h2).1, (h.keep g o h2).2.trans h3, by rw [h.fz]; exact h4.keep h.keep h.hz h.size⟩
  case dp x => exact ⟨hx.1.keep (Mine.step h hp), hx.2⟩
  case one => exact hx
  case rsl b e sz n => exact ⟨by rw [(h.β b hx.2.1).2]; exact hx.1, (h.β b hx.2.1).1, hx.2.2⟩
  case rsv b sz n => obtain ⟨c, h1, h2, h3, h4⟩ := hx; exact ⟨c, h1, by rw [(h.β b h3).2]; exact h2, (h.β b h3).1, h4⟩
  case q x => exact ⟨hx.1.keep h.freeQ, hx.2⟩
  case zs x => exact ⟨hx.1.kind h.freeK, hx.2⟩
  case zp cs => obtain ⟨g, o, h1, h2⟩ := hx; exact ⟨g, o, h1, h2.kind h.freeK⟩
  all_goals exact hx.step h
theorem RepV.step {P : Program} {G G' : Gh} {w w' : World} {kp : Pos → Pos → Prop} (h : GStep G w G' w' kp) {loc loc' : Loc} {i i' : Nat} (hp : ∀ j, kp (loc, i, j) (loc', i', j)) {x : PV} {v : Value}
    (hx : RepV P G w loc i x v) : RepV P G' w' loc' i' x v := by
  cases x <;> simp only [RepV] at hx ⊢
  case agg l => obtain ⟨cs, hv, hl, h1, hr⟩ := hx; exact ⟨cs, hv, hl, h1, fun j x u h1 h2 => (hr j x u h1 h2).step h (hp j)⟩
  all_goals exact RepC.step h (hp 0) hx
theorem RepT.step {P : Program} {G G' : Gh} {w w' : World} {kp : Pos → Pos → Prop} (h : GStep G w G' w' kp) {loc loc' : Loc} (hp : ∀ i j, kp (loc, i, j) (loc', i, j)) {x : PV} {v : Value}
    (hx : RepT P G w loc x v) : RepT P G' w' loc' x v := by
  cases x <;> simp only [RepT] at hx ⊢
  case tup l => obtain ⟨vs, hv, hl, hr⟩ := hx; exact ⟨vs, hv, hl, fun i x u h1 h2 => (hr i x u h1 h2).step h (hp i)⟩
  all_goals exact RepV.step h (hp 0) hx
theorem BoxAt.step {P : Program} {G G' : Gh} {w w' : World} {kp : Pos → Pos → Prop} (h : GStep G w G' w' kp) {b : BN} (hl : G.live b) (hp : ∀ j, kp (.b b, 0, j) (.b b, 0, j)) (hw : w'.heap[G.β b]? = w.heap[G.β b]?)
    {cells : List PV} (hx : BoxAt P G w b cells) : BoxAt P G' w' b cells := by
  obtain ⟨cs, e, h1, h2, h3, h4⟩ := hx
  exact ⟨cs, e, by rw [(h.β b hl).2, hw]; exact h1, h2, h3, fun j x u hx hu => (h4 j x u hx hu).step h (hp j)⟩

theorem OwnAt.data {G : Gh} {w : World} {p : Pos} {e sz : Nat} {l : List PD} {v : Value} (h : OwnAt G w p e sz l v) : RepD G.im w (.sl sz l) v := h.1
theorem RepC.bC {P : Program} {G : Gh} {w : World} {p : Pos} (q : Pos) {x : PV} {v : Value} (h : RepC P G w p x v) : RepC P G w q x.bC v := by
  cases x <;> first | exact h | exact ⟨OwnAt.data h, rfl⟩ | exact ⟨h.1.keep (Mine.im G w p), h.2⟩
theorem RepV.bV {P : Program} {G : Gh} {w : World} {loc : Loc} {i : Nat} (loc' : Loc) (i' : Nat) {x : PV} {v : Value} (h : RepV P G w loc i x v) : RepV P G w loc' i' x.bV v := by
  cases x
  case agg l =>
    obtain ⟨cs, hv, hl, h1, hr⟩ := h
    refine ⟨cs, hv, by simpa using hl, h1, fun j x u hx hu => ?_⟩
    rw [List.getElem?_map] at hx
    obtain ⟨y, hy, rfl⟩ := Option.map_eq_some_iff.1 hx
    exact (hr j y u hy hu).bC _
  case dp y => exact RepC.bC (P := P) (p := (loc, i, 0)) (loc', i', 0) (x := .dp y) h
  all_goals first | exact h | exact ⟨OwnAt.data h, rfl⟩
theorem RepT.bT {P : Program} {G : Gh} {w : World} {loc : Loc} (loc' : Loc) {x : PV} {v : Value} (h : RepT P G w loc x v) : RepT P G w loc' x.bT v := by
  cases x
  case tup l =>
    obtain ⟨vs, hv, hl, hr⟩ := h
    refine ⟨vs, hv, by simpa using hl, fun j x u hx hu => ?_⟩
    rw [List.getElem?_map] at hx
    obtain ⟨y, hy, rfl⟩ := Option.map_eq_some_iff.1 hx
    exact (hr j y u hy hu).bV _ _
  case agg l => exact RepV.bV loc' 0 (x := .agg l) h
  case dp y => exact RepV.bV (P := P) (loc := loc) (i := 0) loc' 0 (x := .dp y) h
  all_goals first | exact h | exact ⟨OwnAt.data h, rfl⟩

end Go.Bee
