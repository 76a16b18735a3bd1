/-
The logic and the walks, part 1. No condition.
-/
import Derived.WalkKit
import Derived.Lib.LaidTab
import Derived.Lib.ItoaNum
import Derived.Laws.IdiomStrings
namespace Go.Bee
set_option linter.unusedVariables false

inductive PD where
  | bool (b : Bool)
  | int (k : IntKind) (n : Int)
  | str (l : List UInt8)
  | sl (sz : Nat) (l : List PD)
  | agg (cells : List PD)
  deriving Inhabited

def PD.scalar : PD → Bool
  | .agg _ => false
  | _ => true
def PD.cells : PD → List PD
  | .agg cs => cs
  | x => [x]
def flat (l : List PD) : List PD := l.flatMap PD.cells

theorem flat_nil : flat [] = [] := rfl
theorem flat_append (a b : List PD) : flat (a ++ b) = flat a ++ flat b := by simp [flat]
theorem flat_cons (x : PD) (l : List PD) : flat (x :: l) = x.cells ++ flat l := by simp [flat]
theorem flat_length {sz : Nat} {l : List PD} (h : ∀ e ∈ l, e.cells.length = sz) : (flat l).length = l.length * sz := by
  induction l with
  | nil => simp [flat]
  | cons x l ih =>
    rw [flat_cons, List.length_append, ih (fun e he => h e (List.mem_cons_of_mem _ he)), h x (List.mem_cons_self ..), List.length_cons, Nat.add_mul]
    omega
theorem flat_take {sz : Nat} : ∀ {l : List PD} (h : ∀ e ∈ l, e.cells.length = sz) (n : Nat), (flat l).take (n * sz) = flat (l.take n)
  | [], _, n => by simp [flat]
  | x :: l, h, 0 => by simp [flat]
  | x :: l, h, n + 1 => by
    have hx := h x (List.mem_cons_self ..)
    rw [flat_cons, List.take_succ_cons, flat_cons, ← flat_take (fun e he => h e (List.mem_cons_of_mem _ he)) n, List.take_append, hx,
      List.take_of_length_le (by rw [hx, Nat.add_mul]; omega)]
    congr 2
    rw [Nat.add_mul]; omega
theorem flat_drop {sz : Nat} : ∀ {l : List PD} (h : ∀ e ∈ l, e.cells.length = sz) (n : Nat), (flat l).drop (n * sz) = flat (l.drop n)
  | [], _, n => by simp [flat]
  | x :: l, h, 0 => by simp [flat]
  | x :: l, h, n + 1 => by
    have hx := h x (List.mem_cons_self ..)
    rw [flat_cons, List.drop_succ_cons, ← flat_drop (fun e he => h e (List.mem_cons_of_mem _ he)) n, List.drop_append, hx,
      List.drop_of_length_le (by rw [hx, Nat.add_mul]; omega), List.nil_append]
    congr 1
    rw [Nat.add_mul]; omega
theorem flat_elem {sz : Nat} {l : List PD} (h : ∀ e ∈ l, e.cells.length = sz) {i : Nat} {x : PD} (hx : l[i]? = some x) :
    ((flat l).drop (i * sz)).take sz = x.cells := by
  rw [flat_drop h]
  obtain ⟨hi, rfl⟩ := List.getElem?_eq_some_iff.1 hx
  rw [List.drop_eq_getElem_cons hi, flat_cons]
  have := h l[i] (List.getElem_mem hi)
  rw [List.take_append, List.take_of_length_le (by omega), this]
  simp

inductive RepD (S : Nat → Nat → Prop) (w : World) : PD → Value → Prop
  | bool (b : Bool) : RepD S w (.bool b) (.bool b)
  | int (k : IntKind) (n : Int) : RepD S w (.int k n) (.int k n)
  | str (l : List UInt8) (hb : l.length ≤ 140737488355328) : RepD S w (.str l) (.string ⟨l.toArray⟩)
  | nil (sz : Nat) : RepD S w (.sl sz []) (.slice none 0 0)
  | sl (sz : Nat) (l : List PD) (g o c : Nat) (vs : List Value) (hb : l.length ≤ 140737488355328) (hc : l.length ≤ c) (hu : ∀ e ∈ l, e.cells.length = sz) (hs : ∀ x ∈ flat l, x.scalar = true)
      (hl : vs.length = (flat l).length) (hv : ∀ (i : Nat) v, vs[i]? = some v → S g (o + i) ∧ w.cell? ⟨g, o + i, none⟩ = some v)
      (hr : ∀ (i : Nat) x v, (flat l)[i]? = some x → vs[i]? = some v → RepD S w x v) : RepD S w (.sl sz l) (.slice (some ⟨g, o, none⟩) l.length c)
  | emp (sz : Nat) (a : Addr) (c : Nat) : RepD S w (.sl sz []) (.slice (some a) 0 c)
  | agg (cs : List PD) (vs : Array Value) (hl : vs.size = cs.length) (hs : ∀ x ∈ cs, x.scalar = true)
      (hr : ∀ (i : Nat) x v, cs[i]? = some x → vs[i]? = some v → RepD S w x v) : RepD S w (.agg cs) (.agg vs)

def Keep (S : Nat → Nat → Prop) (w : World) (S' : Nat → Nat → Prop) (w' : World) : Prop :=
  ∀ b o, S b o → S' b o ∧ w'.cell? ⟨b, o, none⟩ = w.cell? ⟨b, o, none⟩
theorem Keep.refl (S : Nat → Nat → Prop) (w : World) : Keep S w S w := fun _ _ h => ⟨h, rfl⟩
theorem Keep.trans {S S' S'' : Nat → Nat → Prop} {w w' w'' : World} (h : Keep S w S' w') (k : Keep S' w' S'' w'') : Keep S w S'' w'' :=
  fun b o hb => ⟨(k b o (h b o hb).1).1, (k b o (h b o hb).1).2.trans (h b o hb).2⟩
theorem RepD.keep {S S' : Nat → Nat → Prop} {w w' : World} (hk : Keep S w S' w') {x : PD} {v : Value} (h : RepD S w x v) : RepD S' w' x v := by
  induction h with
  | bool b => exact .bool b
  | int k n => exact .int k n
  | str l hb => exact .str l hb
  | nil sz => exact .nil sz
  | sl sz l g o c vs hb hc hu hs hl hv hr ih =>
    exact .sl sz l g o c vs hb hc hu hs hl (fun i v hi => ⟨(hk _ _ (hv i v hi).1).1, (hk _ _ (hv i v hi).1).2.trans (hv i v hi).2⟩) ih
  | emp sz a c => exact .emp sz a c
  | agg cs vs hl hs hr ih => exact .agg cs vs hl hs ih
theorem RepD.oneCell {S : Nat → Nat → Prop} {w : World} {x : PD} {v : Value} (h : RepD S w x v) (hs : x.scalar = true) : v.oneCell' = true := by
  cases h <;> first | rfl | simp [PD.scalar] at hs

def RepRun (S : Nat → Nat → Prop) (w : World) (g o : Nat) (cells : List PD) : Prop :=
  ∃ vs : List Value, vs.length = cells.length ∧ (∀ x ∈ cells, x.scalar = true) ∧ (∀ (i : Nat) v, vs[i]? = some v → S g (o + i) ∧ w.cell? ⟨g, o + i, none⟩ = some v) ∧
    ∀ (i : Nat) x v, cells[i]? = some x → vs[i]? = some v → RepD S w x v
theorem RepRun.keep {S S' : Nat → Nat → Prop} {w w' : World} (hk : Keep S w S' w') {g o : Nat} {cells : List PD} (h : RepRun S w g o cells) : RepRun S' w' g o cells := by
  obtain ⟨vs, hl, hs, hv, hr⟩ := h
  exact ⟨vs, hl, hs, fun i v hi => ⟨(hk _ _ (hv i v hi).1).1, (hk _ _ (hv i v hi).1).2.trans (hv i v hi).2⟩, fun i x v hx hy => (hr i x v hx hy).keep hk⟩
theorem RepRun.drop {S : Nat → Nat → Prop} {w : World} {g o : Nat} {cells : List PD} (h : RepRun S w g o cells) (n : Nat) : RepRun S w g (o + n) (cells.drop n) := by
  obtain ⟨vs, hl, hs, hv, hr⟩ := h
  refine ⟨vs.drop n, by simp [hl], fun x hx => hs x (List.mem_of_mem_drop hx), fun i v hi => ?_, fun i x v hx hy => ?_⟩
  · rw [List.getElem?_drop] at hi
    have := hv _ _ hi
    rwa [← Nat.add_assoc] at this
  · rw [List.getElem?_drop] at hx hy
    exact hr _ _ _ hx hy
theorem RepRun.take {S : Nat → Nat → Prop} {w : World} {g o : Nat} {cells : List PD} (h : RepRun S w g o cells) (n : Nat) : RepRun S w g o (cells.take n) := by
  obtain ⟨vs, hl, hs, hv, hr⟩ := h
  refine ⟨vs.take n, by simp [hl], fun x hx => hs x (List.mem_of_mem_take hx), fun i v hi => ?_, fun i x v hx hy => ?_⟩
  · rw [List.getElem?_take] at hi
    split at hi
    · exact hv _ _ hi
    · cases hi
  · rw [List.getElem?_take] at hx hy
    split at hx
    · rename_i hlt; rw [if_pos hlt] at hy; exact hr _ _ _ hx hy
    · cases hx
theorem RepD.run {S : Nat → Nat → Prop} {w : World} {sz : Nat} {l : List PD} {g o n c : Nat} (h : RepD S w (.sl sz l) (.slice (some ⟨g, o, none⟩) n c)) :
    n = l.length ∧ (l ≠ [] → n ≤ c) ∧ (∀ e ∈ l, e.cells.length = sz) ∧ RepRun S w g o (flat l) := by
  cases h with
  | sl _ _ _ _ _ vs hb hc hu hs hl hv hr => exact ⟨rfl, fun _ => hc, hu, vs, hl, hs, hv, hr⟩
  | emp => exact ⟨rfl, fun h => absurd rfl h, by simp, [], by simp [flat_nil], by simp [flat_nil], by simp, by simp [flat_nil]⟩
theorem RepD.sl_shape {S : Nat → Nat → Prop} {w : World} {sz : Nat} {l : List PD} {v : Value} (h : RepD S w (.sl sz l) v) :
    (l = [] ∧ v = .slice none 0 0) ∨ (∃ g o c, v = .slice (some ⟨g, o, none⟩) l.length c ∧ l.length ≤ c ∧ (∀ e ∈ l, e.cells.length = sz) ∧ RepRun S w g o (flat l)) ∨ (l = [] ∧ ∃ a c, v = .slice (some a) 0 c) := by
  cases h with
  | nil => exact .inl ⟨rfl, rfl⟩
  | sl _ _ g o c vs hb hc hu hs hl hv hr => exact .inr (.inl ⟨g, o, c, rfl, hc, hu, vs, hl, hs, hv, hr⟩)
  | emp sz a c => exact .inr (.inr ⟨rfl, a, c, rfl⟩)
theorem RepD.of_run {S : Nat → Nat → Prop} {w : World} {sz : Nat} {l : List PD} {g o c : Nat} (hb : l.length ≤ 140737488355328) (hc : l.length ≤ c) (hu : ∀ e ∈ l, e.cells.length = sz) (h : RepRun S w g o (flat l)) :
    RepD S w (.sl sz l) (.slice (some ⟨g, o, none⟩) l.length c) := by
  obtain ⟨vs, hl, hs, hv, hr⟩ := h
  exact .sl sz l g o c vs hb hc hu hs hl hv hr
theorem RepD.len {S : Nat → Nat → Prop} {w : World} {sz : Nat} {l : List PD} {v : Value} (h : RepD S w (.sl sz l) v) : l.length ≤ 140737488355328 := by
  cases h with
  | nil => simp
  | emp => simp
  | sl _ _ _ _ _ vs hb => exact hb
theorem RepD.slen {S : Nat → Nat → Prop} {w : World} {l : List UInt8} {v : Value} (h : RepD S w (.str l) v) : l.length ≤ 140737488355328 := by
  cases h with
  | str _ hb => exact hb

inductive BN where
  | t (n : Nat)
  | a (n : Nat)
  deriving DecidableEq, Inhabited
inductive Loc where
  | t (n : Nat)
  | b (n : BN)
  | res
  | q
  deriving DecidableEq, Inhabited

inductive PV where
  | d (x : PD)
  | nilS
  | nn (sz : Nat) (l : List PD)
  | own (e sz : Nat) (l : List PD)
  | ptr (b : BN) (o : Nat)
  | rsl (b : BN) (e sz n : Nat)
  | eptr (cells : List PD)
  | efn (K : List PD → Option PD)
  | dp (x : PD)
  | rsv (b : BN) (sz n : Nat)
  | q (x : PD)
  | zs (x : PD)
  | zp (cells : List PD)
  | one
  | er (b : Bool)
  | clo (f : Nat) (caps : List PV)
  | fn (K : List PD → Option PD)
  | junk
  | und
  | agg (l : List PV)
  | tup (l : List PV)
  deriving Inhabited

abbrev PV.int (n : Int) : PV := .d (.int .i64 n)
abbrev PV.bool (b : Bool) : PV := .d (.bool b)
abbrev PV.str (l : List UInt8) : PV := .d (.str l)

structure Ext (S : Nat → Nat → Prop) (w : World) (S' : Nat → Nat → Prop) (w' : World) (Wr : Nat → Prop) : Prop where
  os : w'.os = w.os
  tape : w'.tape = w.tape
  output : w'.output = w.output
  size : w.heap.size ≤ w'.heap.size
  old : ∀ b, b < w.heap.size → ¬ Wr b → w'.heap[b]? = w.heap[b]?
  keep : Keep S w S' w'
  new : ∀ b o, S' b o → S b o ∨ w.heap.size ≤ b ∨ Wr b
theorem Ext.refl (S : Nat → Nat → Prop) (w : World) (Wr : Nat → Prop) : Ext S w S w Wr :=
  ⟨rfl, rfl, rfl, Nat.le_refl _, fun _ _ _ => rfl, Keep.refl S w, fun _ _ h => .inl h⟩
theorem Ext.trans {S S' S'' : Nat → Nat → Prop} {w w' w'' : World} {Wr Wr' : Nat → Prop} (h : Ext S w S' w' Wr) (k : Ext S' w' S'' w'' Wr')
    (hw : ∀ b, Wr' b → w.heap.size ≤ b ∨ Wr b) : Ext S w S'' w'' Wr := by
  refine ⟨k.os.trans h.os, k.tape.trans h.tape, k.output.trans h.output, Nat.le_trans h.size k.size, fun b hb hn => ?_, h.keep.trans k.keep, fun b o hb => ?_⟩
  · rw [k.old b (Nat.lt_of_lt_of_le hb h.size) (fun hw' => (hw b hw').elim (fun h => by omega) hn)]
    exact h.old b hb hn
  · rcases k.new b o hb with h1 | h1 | h1
    · exact h.new b o h1
    · have := h.size; exact .inr (.inl (by omega))
    · exact .inr (hw b h1)

def PD.plain : PD → Bool
  | .bool _ => true
  | .int _ _ => true
  | .str _ => true
  | .sl _ _ => false
  | .agg cs => cs.all fun x => match x with | .bool _ => true | .int _ _ => true | .str _ => true | _ => false

def isFn (P : Program) (f : Nat) : Bool :=
  match P.funcs[f]? with
  | some fn => fn.name != "runtime.NumGoroutine" && fn.body.isSome
  | none => false
def FnOk (P : Program) (S : Nat → Nat → Prop) (fz : Nat → Prop) (w : World) (K : List PD → Option PD) (v : Value) : Prop :=
  ∃ (f : Nat) (caps : Array Value), v = .func (.func f) #[] caps ∧ isFn P f = true ∧
    ∀ xs r, K xs = some r → r.plain = true ∧ ∀ S1 w1, Keep S w S1 w1 → (∀ g, fz g → w1.heap[g]? = w.heap[g]?) → w.heap.size ≤ w1.heap.size → (∀ b o, S1 b o → b < w1.heap.size) → ∀ vs : Array Value, vs.size = xs.length →
      (∀ (i : Nat) x u, xs[i]? = some x → vs[i]? = some u → RepD S1 w1 x u) →
      Calls P f (vs ++ caps) w1 fun e w2 => ∃ u, e = .returned u ∧ Ext S1 w1 S1 w2 (fun _ => False) ∧ RepD S1 w2 r u
theorem FnOk.keep {P : Program} {S S' : Nat → Nat → Prop} {fz : Nat → Prop} {w w' : World} (hk : Keep S w S' w') (hz : ∀ g, fz g → w'.heap[g]? = w.heap[g]?) (hs : w.heap.size ≤ w'.heap.size)
    {K : List PD → Option PD} {v : Value} (h : FnOk P S fz w K v) : FnOk P S' fz w' K v := by
  obtain ⟨f, caps, hv, hf, h⟩ := h
  exact ⟨f, caps, hv, hf, fun xs r hK => ⟨(h xs r hK).1, fun S1 w1 hk1 hz1 hs1 => (h xs r hK).2 S1 w1 (hk.trans hk1) (fun g hg => (hz1 g hg).trans (hz g hg)) (Nat.le_trans hs hs1)⟩⟩

structure Gh where
  im : Nat → Nat → Prop
  β : BN → Nat
  live : BN → Prop
  own : Nat → Option (Loc × Nat × Nat)
  fz : Nat → Prop

def RepAt (G : Gh) (w : World) : PV → Value → Prop
  | .d x, v => RepD G.im w x v ∧ x.scalar = true
  | .nilS, v => v = .slice none 0 0
  | .und, v => v = undef
  | .nn sz l, v => RepD G.im w (.sl sz l) v ∧ ∀ n c, v ≠ .slice none n c
  | .ptr b o, v => v = .pointer (some ⟨G.β b, o, none⟩) ∧ G.live b
  | .eptr cells, v => ∃ g o, v = .pointer (some ⟨g, o, none⟩) ∧ RepRun G.im w g o cells
  | _, _ => False
def Full (n : Nat) (v : Value) : Prop := v = .slice none n n ∨ ∃ g, v = .slice (some ⟨g, 0, none⟩) n n
theorem Full.ex {n : Nat} {v : Value} (h : Full n v) : ∃ b, v = .slice b n n := h.elim (fun h => ⟨_, h⟩) fun ⟨_, h⟩ => ⟨_, h⟩
def OwnAt (G : Gh) (w : World) (p : Loc × Nat × Nat) (e sz : Nat) (l : List PD) (v : Value) : Prop :=
  RepD G.im w (.sl sz l) v ∧ ((Full l.length v ∧ (l ≠ [] → ∀ g, v.ownBlock = some g → G.own g = some p ∧ ∃ cs e', w.heap[g]? = some (.cells cs e' (0, 0)))) ∨ ∃ vs, w.ownsRow 0 e sz v l.length vs ∧ (l ≠ [] ∧ ∀ x ∈ l, x.cells.length = sz) ∧
    ∀ g, v.ownBlock = some g → G.own g = some p ∧ (∀ i, i < vs.length → G.im g i) ∧ ∀ i, vs.length ≤ i → ¬ G.im g i)
def Mine (G : Gh) (w : World) (p : Loc × Nat × Nat) : Nat → Nat → Prop := fun b o => G.im b o ∧ G.own b = some p ∧ ∃ cs e, w.heap[b]? = some (.cells cs e (0, 0))
def FreeO (G : Gh) (w : World) (o : Option (Loc × Nat × Nat)) (g : Nat) : Prop := (∃ cs e, w.heap[g]? = some (.cells cs e (0, 0))) ∧ G.own g = o ∧ (∀ b, G.live b → G.β b ≠ g) ∧ (∀ o, ¬ G.im g o) ∧ ¬ G.fz g
abbrev FreeB (G : Gh) (w : World) (g : Nat) : Prop := FreeO G w none g
def qpos : Loc × Nat × Nat := (.q, 0, 0)
abbrev FreeQ (G : Gh) (w : World) (g : Nat) : Prop := FreeO G w (some qpos) g
def PD.isSl : PD → Bool
  | .sl _ _ => true
  | _ => false
def isSlV : Value → Bool
  | .slice _ _ _ => true
  | _ => false
inductive ZD (S : Nat → Prop) (w : World) : PD → Value → Prop
  | sc (x : PD) (v : Value) (hx : x.isSl = false) (h1 : v.oneCell' = true) (h2 : isSlV v = false) : ZD S w x v
  | nil (sz : Nat) : ZD S w (.sl sz []) (.slice none 0 0)
  | sl (sz : Nat) (l : List PD) (g o c : Nat) (vs : List Value) (hb : l.length ≤ 140737488355328) (hc : l.length ≤ c) (hu : ∀ e ∈ l, e.cells.length = sz) (hs : ∀ x ∈ flat l, x.scalar = true)
      (hl : vs.length = (flat l).length) (hv : ∀ (i : Nat) v, vs[i]? = some v → S g ∧ w.cell? ⟨g, o + i, none⟩ = some v)
      (hr : ∀ (i : Nat) x v, (flat l)[i]? = some x → vs[i]? = some v → ZD S w x v) : ZD S w (.sl sz l) (.slice (some ⟨g, o, none⟩) l.length c)
  | emp (sz : Nat) (a : Addr) (c : Nat) : ZD S w (.sl sz []) (.slice (some a) 0 c)
theorem ZD.keep {S S' : Nat → Prop} {w w' : World} (hk : ∀ g, S g → S' g ∧ ∀ o, w'.cell? ⟨g, o, none⟩ = w.cell? ⟨g, o, none⟩) {x : PD} {v : Value} (h : ZD S w x v) : ZD S' w' x v := by
  induction h with
  | sc x v hx h1 h2 => exact .sc x v hx h1 h2
  | nil sz => exact .nil sz
  | sl sz l g o c vs hb hc hu hs hl hv hr ih => exact .sl sz l g o c vs hb hc hu hs hl (fun i v hi => ⟨(hk _ (hv i v hi).1).1, ((hk _ (hv i v hi).1).2 _).trans (hv i v hi).2⟩) ih
  | emp sz a c => exact .emp sz a c
theorem RepD.zd {S : Nat → Nat → Prop} {S' : Nat → Prop} {w : World} (hS : ∀ b o, S b o → S' b) {x : PD} {v : Value} (h : RepD S w x v) : x.scalar = true → ZD S' w x v := by
  induction h with
  | bool b => exact fun _ => .sc _ _ rfl rfl rfl
  | int k n => exact fun _ => .sc _ _ rfl rfl rfl
  | str l hb => exact fun _ => .sc _ _ rfl rfl rfl
  | nil sz => exact fun _ => .nil sz
  | sl sz l g o c vs hb hc hu hs hl hv hr ih =>
    exact fun _ => .sl sz l g o c vs hb hc hu hs hl (fun i v hi => ⟨hS _ _ (hv i v hi).1, (hv i v hi).2⟩) (fun i x v hx hv => ih i x v hx hv (hs x (List.mem_of_getElem? hx)))
  | emp sz a c => exact fun _ => .emp sz a c
  | agg cs vs hl hs hr ih => exact fun h => by cases h
def ZRun (S : Nat → Prop) (w : World) (g o : Nat) (cells : List PD) : Prop :=
  ∃ vs : List Value, vs.length = cells.length ∧ (∀ x ∈ cells, x.scalar = true) ∧ (∀ (i : Nat) v, vs[i]? = some v → S g ∧ w.cell? ⟨g, o + i, none⟩ = some v) ∧
    ∀ (i : Nat) x v, cells[i]? = some x → vs[i]? = some v → ZD S w x v
theorem ZRun.keep {S S' : Nat → Prop} {w w' : World} (hk : ∀ g, S g → S' g ∧ ∀ o, w'.cell? ⟨g, o, none⟩ = w.cell? ⟨g, o, none⟩) {g o : Nat} {cells : List PD} (h : ZRun S w g o cells) : ZRun S' w' g o cells := by
  obtain ⟨vs, hl, hs, hv, hr⟩ := h
  exact ⟨vs, hl, hs, fun i v hi => ⟨(hk _ (hv i v hi).1).1, ((hk _ (hv i v hi).1).2 _).trans (hv i v hi).2⟩, fun i x v hx hy => (hr i x v hx hy).keep hk⟩
def KindSame (w w' : World) (g : Nat) : Prop := ∀ o u, w.cell? ⟨g, o, none⟩ = some u → u.oneCell' = true → if isSlV u = true then w'.cell? ⟨g, o, none⟩ = some u else ∃ u', w'.cell? ⟨g, o, none⟩ = some u' ∧ isSlV u' = false ∧ u'.oneCell' = true
theorem KindSame.refl (w : World) (g : Nat) : KindSame w w g := fun o u h h1 => by
  split
  · exact h
  · rename_i hn; exact ⟨u, h, by simpa using hn, h1⟩
theorem KindSame.trans {w w' w'' : World} {g : Nat} (h : KindSame w w' g) (k : KindSame w' w'' g) : KindSame w w'' g := fun o u hu h1 => by
  have h2 := h o u hu h1
  split at h2
  · rename_i hs
    have h3 := k o u h2 h1
    rw [if_pos hs] at h3 ⊢; exact h3
  · rename_i hs
    obtain ⟨u', h4, h5, h6⟩ := h2
    have h3 := k o u' h4 h6
    rw [if_neg (by simp [h5])] at h3
    rw [if_neg hs]; exact h3
theorem KindSame.of_heap {w w' : World} {g : Nat} (h : w'.heap[g]? = w.heap[g]?) : KindSame w w' g := fun o u hu h1 => by
  have e := World.cell?_of_block (w := w) (w' := w') (a := ⟨g, o, none⟩) h
  exact (by rw [e]; exact KindSame.refl w g o u hu h1)
theorem ZD.kind {S S' : Nat → Prop} {w w' : World} (hk : ∀ g, S g → S' g ∧ KindSame w w' g) {x : PD} {v : Value} (h : ZD S w x v) : ZD S' w' x v := by
  induction h with
  | sc x v hx h1 h2 => exact .sc x v hx h1 h2
  | nil sz => exact .nil sz
  | emp sz a c => exact .emp sz a c
  | sl sz l g o c vs hb hc hu hs hl hv hr ih =>
    have one : ∀ (i : Nat) x v, (flat l)[i]? = some x → vs[i]? = some v → ∃ v', (S' g ∧ w'.cell? ⟨g, o + i, none⟩ = some v') ∧ ZD S' w' x v' := by
      intro i x v hx hvi
      have hz := hr i x v hx hvi
      have h1 : v.oneCell' = true := by cases hz <;> first | assumption | rfl
      have hc := (hk g (hv i v hvi).1).2 (o + i) v (hv i v hvi).2 h1
      split at hc
      · exact ⟨v, ⟨(hk g (hv i v hvi).1).1, hc⟩, ih i x v hx hvi⟩
      · rename_i hn
        obtain ⟨u, h3, h4, h5⟩ := hc
        refine ⟨u, ⟨(hk g (hv i v hvi).1).1, h3⟩, .sc x u ?_ h5 h4⟩
        cases hz <;> first | assumption | exact absurd rfl hn
    have ex : ∃ vs' : List Value, vs'.length = vs.length ∧ ∀ (i : Nat) x v, (flat l)[i]? = some x → vs'[i]? = some v → (S' g ∧ w'.cell? ⟨g, o + i, none⟩ = some v) ∧ ZD S' w' x v := by
      refine ⟨(List.range vs.length).map fun i => (w'.cell? ⟨g, o + i, none⟩).getD undef, by simp, fun i x v hx hv' => ?_⟩
      have hi : i < vs.length := by rw [hl]; exact (List.getElem?_eq_some_iff.1 hx).1
      rw [List.getElem?_map, List.getElem?_range hi] at hv'
      obtain ⟨v', h1, h2⟩ := one i x vs[i] hx (List.getElem?_eq_getElem hi)
      simp only [Option.map_some, h1.2, Option.getD_some, Option.some.injEq] at hv'
      subst hv'
      exact ⟨h1, h2⟩
    obtain ⟨vs', e1, e2⟩ := ex
    refine .sl sz l g o c vs' hb hc hu hs (e1.trans hl) (fun i v hi => ?_) (fun i x v hx hi => (e2 i x v hx hi).2)
    have hi' : i < (flat l).length := by rw [← hl, ← e1]; exact (List.getElem?_eq_some_iff.1 hi).1
    exact (e2 i _ v (List.getElem?_eq_getElem hi') hi).1
theorem ZD.oneCell {S : Nat → Prop} {w : World} {x : PD} {v : Value} (h : ZD S w x v) : v.oneCell' = true := by cases h <;> first | assumption | rfl
theorem ZRun.kind {S S' : Nat → Prop} {w w' : World} (hk : ∀ g, S g → S' g ∧ KindSame w w' g) {g o : Nat} {cells : List PD} (h : ZRun S w g o cells) : ZRun S' w' g o cells := by
  obtain ⟨vs, hl, hs, hv, hr⟩ := h
  have one : ∀ (i : Nat) x v, cells[i]? = some x → vs[i]? = some v → ∃ v', (S' g ∧ w'.cell? ⟨g, o + i, none⟩ = some v') ∧ ZD S' w' x v' := by
    intro i x v hx hvi
    have hz := hr i x v hx hvi
    have h1 : v.oneCell' = true := hz.oneCell
    have hc := (hk g (hv i v hvi).1).2 (o + i) v (hv i v hvi).2 h1
    split at hc
    · exact ⟨v, ⟨(hk g (hv i v hvi).1).1, hc⟩, hz.kind hk⟩
    · rename_i hn
      obtain ⟨u, h3, h4, h5⟩ := hc
      refine ⟨u, ⟨(hk g (hv i v hvi).1).1, h3⟩, .sc x u ?_ h5 h4⟩
      cases hz <;> first | assumption | exact absurd rfl hn
  refine ⟨(List.range vs.length).map fun i => (w'.cell? ⟨g, o + i, none⟩).getD undef, by simp [hl], hs, fun i v hi => ?_, fun i x v hx hv' => ?_⟩
  · have hi2 : i < vs.length := by simpa using (List.getElem?_eq_some_iff.1 hi).1
    rw [List.getElem?_map, List.getElem?_range hi2] at hi
    obtain ⟨v', h1, h2⟩ := one i cells[i] vs[i] (List.getElem?_eq_getElem (by omega)) (List.getElem?_eq_getElem hi2)
    simp only [Option.map_some, h1.2, Option.getD_some, Option.some.injEq] at hi
    subst hi
    exact h1
  · have hi : i < vs.length := by rw [hl]; exact (List.getElem?_eq_some_iff.1 hx).1
    rw [List.getElem?_map, List.getElem?_range hi] at hv'
    obtain ⟨v', h1, h2⟩ := one i x vs[i] hx (List.getElem?_eq_getElem hi)
    simp only [Option.map_some, h1.2, Option.getD_some, Option.some.injEq] at hv'
    subst hv'
    exact h2
inductive SameO (w w' : World) (g : Nat) : Option (Loc × Nat × Nat) → Prop
  | heap {o : Option (Loc × Nat × Nat)} (h : w'.heap[g]? = w.heap[g]?) : SameO w w' g o
  | kind (h : KindSame w w' g) : SameO w w' g none
theorem SameO.kindN {w w' : World} {g : Nat} (h : SameO w w' g none) : KindSame w w' g := by
  cases h with
  | heap h => exact .of_heap h
  | kind h => exact h
theorem SameO.heapQ {w w' : World} {g : Nat} {p : Loc × Nat × Nat} (h : SameO w w' g (some p)) : w'.heap[g]? = w.heap[g]? := by
  cases h with
  | heap h => exact h
def isEr (b : Bool) (v : Value) : Prop := (b = true ∧ v = .nilIface) ∨ (b = false ∧ ∃ t p, v = .iface t p)
def RepC (P : Program) (G : Gh) (w : World) (p : Loc × Nat × Nat) : PV → Value → Prop
  | .own e sz l, v => OwnAt G w p e sz l v
  | .clo f caps, v => ∃ vs : Array Value, v = .func (.func f) #[] vs ∧ vs.size = caps.length ∧ ∀ (i : Nat) x u, caps[i]? = some x → vs[i]? = some u → RepAt G w x u
  | .fn K, v => FnOk P G.im G.fz w K v
  | .efn K, v => ∃ g o u, v = .pointer (some ⟨g, o, none⟩) ∧ G.im g o ∧ w.cell? ⟨g, o, none⟩ = some u ∧ FnOk P G.im G.fz w K u
  | .dp x, v => RepD (Mine G w p) w x v ∧ x.scalar = true
  | .rsv b _ n, v => ∃ c, n ≤ c ∧ v = .slice (some ⟨G.β b, 0, none⟩) n c ∧ G.live b ∧ n ≤ 140737488355328
  | .q x, v => RepD (fun b _ => FreeQ G w b) w x v ∧ x.scalar = true
  | .zs x, v => ZD (FreeB G w) w x v ∧ x.scalar = true
  | .zp cells, v => ∃ g o, v = .pointer (some ⟨g, o, none⟩) ∧ ZRun (FreeB G w) w g o cells
  | .one, v => v.oneCell' = true
  | .er b, v => isEr b v
  | .junk, _ => True
  | .rsl b e sz n, v => v = .slice (some ⟨G.β b, 0, none⟩) n n ∧ G.live b ∧ n ≤ 140737488355328
  | .agg _, _ => False
  | .tup _, _ => False
  | .d x, v => RepAt G w (.d x) v
  | .nilS, v => RepAt G w .nilS v
  | .und, v => RepAt G w .und v
  | .nn sz l, v => RepAt G w (.nn sz l) v
  | .ptr b o, v => RepAt G w (.ptr b o) v
  | .eptr cs, v => RepAt G w (.eptr cs) v
def RepV (P : Program) (G : Gh) (w : World) (loc : Loc) (i : Nat) : PV → Value → Prop
  | .agg l, v => ∃ cs : Array Value, v = .agg cs ∧ cs.size = l.length ∧ (∀ u ∈ cs, u.oneCell' = true) ∧ ∀ (j : Nat) x u, l[j]? = some x → cs[j]? = some u → RepC P G w (loc, i, j) x u
  | x, v => RepC P G w (loc, i, 0) x v
def RepT (P : Program) (G : Gh) (w : World) (loc : Loc) : PV → Value → Prop
  | .tup l, v => ∃ vs : Array Value, v = .tuple vs ∧ vs.size = l.length ∧ ∀ (i : Nat) x u, l[i]? = some x → vs[i]? = some u → RepV P G w loc i x u
  | x, v => RepV P G w loc 0 x v
def BoxAt (P : Program) (G : Gh) (w : World) (b : BN) (cells : List PV) : Prop :=
  ∃ (cs : Array Value) (e : TypeId), w.heap[G.β b]? = some (.cells cs e (0, 0)) ∧ cells.length ≤ cs.size ∧ (∀ (j : Nat) u, j < cells.length → cs[j]? = some u → u.oneCell' = true) ∧
    ∀ (j : Nat) x u, cells[j]? = some x → cs[j]? = some u → RepC P G w (.b b, 0, j) x u

structure St where
  tm : Nat → PV
  bx : BN → Option (List PV)

structure Hp (P : Program) (G : Gh) (w : World) (B : BN → Option (List PV)) : Prop where
  bx : ∀ b cells, B b = some cells → BoxAt P G w b cells
  live : ∀ b, G.live b ↔ (B b).isSome = true
  inj : ∀ b b', G.live b → G.live b' → G.β b = G.β b' → b = b'
  imlt : ∀ g o, G.im g o → g < w.heap.size
  ownlt : ∀ g p, G.own g = some p → g < w.heap.size
  boxim : ∀ b, G.live b → ∀ o, ¬ G.im (G.β b) o
  boxown : ∀ b, G.live b → G.own (G.β b) = none

structure Fr where
  nt : Nat
  S0 : Nat → Nat → Prop
  w0 : World
  Wr : Nat → Prop
  βa : Nat → Nat
  Z : Nat → Prop
structure Since (F : Fr) (G : Gh) (w : World) : Prop where
  ext : Ext F.S0 F.w0 G.im w F.Wr
  own : ∀ g p, G.own g = some p → F.w0.heap.size ≤ g ∨ F.Wr g
  box : ∀ b, G.live b → F.w0.heap.size ≤ G.β b ∨ F.Wr (G.β b)
  βa : ∀ k, G.β (.a k) = F.βa k
  fz : ∀ g, G.fz g → g < F.w0.heap.size ∧ ¬ F.Wr g
  fzm : ∀ g, g < F.w0.heap.size → ¬ F.Wr g → G.fz g

inductive Tab where
  | nums (k : IntKind) (zs : List Int)
  | err
  | num
def tabs : List (String × Tab) := [("internal/strconv.uint64pow10", .nums .u64 Lib.pow10Tab), ("strconv.ErrSyntax", .err), ("strconv.ErrRange", .err), ("internal/bytealg.MaxLen", .num)]
def isTab (P : Program) (g : Nat) : Prop := ∃ x ∈ tabs, P.globalNamed x.1 = some g
def TabHas (P : Program) (w : World) (name : String) : Tab → Prop
  | .nums k zs => Lib.TabIs P w name k zs
  | .err => ∃ tp p, w.var? P name = some #[.iface tp p]
  | .num => ∃ m, w.var? P name = some #[.int .i64 m]
def TabOk (P : Program) (fz : Nat → Prop) (w : World) : Prop := ∀ x ∈ tabs, ∀ g, P.globalNamed x.1 = some g → fz g ∧ TabHas P w x.1 x.2
theorem TabHas.var {P : Program} {w : World} {name : String} {k : Tab} (h : TabHas P w name k) : ∃ cs, w.var? P name = some cs := by
  cases k with
  | nums k zs => exact ⟨_, h⟩
  | err => obtain ⟨_, _, h⟩ := h; exact ⟨_, h⟩
  | num => obtain ⟨_, h⟩ := h; exact ⟨_, h⟩
theorem TabHas.lt {P : Program} {w : World} {name : String} {k : Tab} {g : Nat} (h : TabHas P w name k) (hg : P.globalNamed name = some g) : g < w.heap.size := by
  obtain ⟨cs, h⟩ := h.var
  unfold World.var? at h
  rw [hg] at h
  simp only [Option.bind_some] at h
  split at h
  · rename_i cs _ _ hc; exact (Array.getElem?_eq_some_iff.1 hc).1
  · cases h
theorem var_same {P : Program} {w w' : World} {name : String} {g : Nat} (hg : P.globalNamed name = some g) (hw : w'.heap[g]? = w.heap[g]?) : w'.var? P name = w.var? P name := by
  unfold World.var?
  rw [hg]
  simp only [Option.bind_some]
  rw [hw]
theorem TabHas.same {P : Program} {w w' : World} {name : String} {k : Tab} {g : Nat} (h : TabHas P w name k) (hg : P.globalNamed name = some g) (hw : w'.heap[g]? = w.heap[g]?) : TabHas P w' name k := by
  have e := var_same hg hw
  cases k with
  | nums k zs => exact e.trans h
  | err => obtain ⟨a, b, h⟩ := h; exact ⟨a, b, e.trans h⟩
  | num => obtain ⟨a, h⟩ := h; exact ⟨a, e.trans h⟩
theorem TabOk.mono {P : Program} {fz fz' : Nat → Prop} {w w' : World} (h : TabOk P fz w) (hz : ∀ g, fz g → w'.heap[g]? = w.heap[g]?) (hfz : ∀ g, fz g → g < w.heap.size → fz' g) : TabOk P fz' w' := fun x hx g hg =>
  ⟨hfz g (h x hx g hg).1 (TabHas.lt (h x hx g hg).2 hg), TabHas.same (h x hx g hg).2 hg (hz g (h x hx g hg).1)⟩
theorem TabOk.none {P : Program} (hP : ∀ x ∈ tabs, P.globalNamed x.1 = Option.none) (fz : Nat → Prop) (w : World) : TabOk P fz w := fun x hx g hg => by rw [hP x hx] at hg; cases hg
structure Rel (P : Program) (F : Fr) (G : Gh) (st : St) (a : Act) (w : World) : Prop where
  tm : ∀ t, RepT P G w (.t t) (st.tm t) (a.tmps.getD t undef)
  hp : Hp P G w st.bx
  sn : Since F G w
  nt : a.tmps.size = F.nt
  defers : a.defers = []
  z : ∀ g, F.Z g → FreeB G w g ∧ KindSame F.w0 w g
  tab : TabOk P G.fz w

abbrev Pos := Loc × Nat × Nat
def PV.bC : PV → PV
  | .own _ sz l => .d (.sl sz l)
  | .dp x => .d x
  | x => x
def PV.bV : PV → PV
  | .agg l => .agg (l.map PV.bC)
  | x => x.bC
def PV.bT : PV → PV
  | .tup l => .tup (l.map PV.bV)
  | x => x.bV
def Gh.relabel (G : Gh) (f : Pos → Pos) : Gh := { G with own := fun g => (G.own g).map f }

structure GStep (G : Gh) (w : World) (G' : Gh) (w' : World) (kp : Pos → Pos → Prop) : Prop where
  keep : Keep G.im w G'.im w'
  β : ∀ b, G.live b → G'.live b ∧ G'.β b = G.β b
  fz : G'.fz = G.fz
  hz : ∀ g, G.fz g → w'.heap[g]? = w.heap[g]?
  size : w.heap.size ≤ w'.heap.size
  own : ∀ g p q, G.own g = some p → kp p q → G'.own g = some q ∧ w'.heap[g]? = w.heap[g]? ∧ ∀ o, G'.im g o → G.im g o
  free : ∀ o g, (o = none ∨ o = some qpos) → FreeO G w o g → FreeO G' w' o g ∧ SameO w w' g o
theorem cell_of_heap {w w' : World} {g : Nat} (h : w'.heap[g]? = w.heap[g]?) (o : Nat) : w'.cell? ⟨g, o, none⟩ = w.cell? ⟨g, o, none⟩ := World.cell?_of_block (w := w) (w' := w') (a := ⟨g, o, none⟩) h
theorem GStep.freeK {G G' : Gh} {w w' : World} {kp : Pos → Pos → Prop} (h : GStep G w G' w' kp) : ∀ g, FreeB G w g → FreeB G' w' g ∧ KindSame w w' g :=
  fun g hg => ⟨(h.free _ g (.inl rfl) hg).1, (h.free _ g (.inl rfl) hg).2.kindN⟩
theorem GStep.freeQ {G G' : Gh} {w w' : World} {kp : Pos → Pos → Prop} (h : GStep G w G' w' kp) : Keep (fun b _ => FreeQ G w b) w (fun b _ => FreeQ G' w' b) w' := fun b o hb => ⟨(h.free _ b (.inr rfl) hb).1, cell_of_heap (h.free _ b (.inr rfl) hb).2.heapQ o⟩

theorem RepAt.step {G G' : Gh} {w w' : World} {kp : Pos → Pos → Prop} (h : GStep G w G' w' kp) {x : PV} {v : Value} (hx : RepAt G w x v) : RepAt G' w' x v := by
  cases x <;> simp only [RepAt] at hx ⊢
  case d x => exact ⟨hx.1.keep h.keep, hx.2⟩
  case nilS => exact hx
  case und => exact hx
  case nn sz l => exact ⟨hx.1.keep h.keep, hx.2⟩
  case ptr b o => exact ⟨by rw [(h.β b hx.2).2]; exact hx.1, (h.β b hx.2).1⟩
  case eptr cs => obtain ⟨g, o, hv, hr⟩ := hx; exact ⟨g, o, hv, hr.keep h.keep⟩
theorem OwnAt.step {G G' : Gh} {w w' : World} {kp : Pos → Pos → Prop} (h : GStep G w G' w' kp) {p q : Pos} (hp : kp p q) {e sz : Nat} {l : List PD} {v : Value}
    (hx : OwnAt G w p e sz l v) : OwnAt G' w' q e sz l v := by
  refine ⟨hx.1.keep h.keep, hx.2.imp (fun ⟨h1, h2⟩ => ⟨h1, fun hl g hg => ⟨(h.own g p q (h2 hl g hg).1 hp).1, by rw [(h.own g p q (h2 hl g hg).1 hp).2.1]; exact (h2 hl g hg).2⟩⟩) fun ⟨vs, ho, hu, hg⟩ => ⟨vs, ⟨ho.1, ?_⟩, hu, fun g hvg => ?_⟩⟩
  · rcases ho.2 with hn | ⟨g, cap, cur, rfl, hb, hgg, rest⟩
    · exact .inl hn
    · exact .inr ⟨g, cap, cur, rfl, hb, by rw [(h.own g p q (hg g rfl).1 hp).2.1]; exact hgg, rest⟩
  · obtain ⟨h1, h2, h3⟩ := hg g hvg
    obtain ⟨k1, k2, k3⟩ := h.own g p q h1 hp
    exact ⟨k1, fun i hi => (h.keep g i (h2 i hi)).1, fun i hi hc => h3 i hi (k3 i hc)⟩
theorem Mine.step {G G' : Gh} {w w' : World} {kp : Pos → Pos → Prop} (h : GStep G w G' w' kp) {p q : Pos} (hp : kp p q) : Keep (Mine G w p) w (Mine G' w' q) w' := fun b o ⟨h1, h2, cs, e, h3⟩ =>
  ⟨⟨(h.keep b o h1).1, (h.own b p q h2 hp).1, cs, e, by rw [(h.own b p q h2 hp).2.1]; exact h3⟩, (h.keep b o h1).2⟩
theorem Mine.im (G : Gh) (w : World) (p : Pos) : Keep (Mine G w p) w G.im w := fun b o h => ⟨h.1, rfl⟩
theorem RepC.step {P : Program} {G G' : Gh} {w w' : World} {kp : Pos → Pos → Prop} (h : GStep G w G' w' kp) {p q : Pos} (hp : kp p q) {x : PV} {v : Value}
    (hx : RepC P G w p x v) : RepC P G' w' q x v := by
  cases x <;> simp only [RepC] at hx ⊢
  case own e sz l => exact hx.step h hp
  case clo f caps => obtain ⟨vs, hv, hl, hr⟩ := hx; exact ⟨vs, hv, hl, fun i x u h1 h2 => (hr i x u h1 h2).step h⟩
  case fn K => rw [h.fz]; exact hx.keep h.keep h.hz h.size
  case efn K => obtain ⟨g, o, u, h1, h2, h3, h4⟩ := hx; exact ⟨g, o, u, h1, (h.keep g o h2).1, (h.keep g o h2).2.trans h3, by rw [h.fz]; exact h4.keep h.keep h.hz h.size⟩
  case dp x => exact ⟨hx.1.keep (Mine.step h hp), hx.2⟩
  case one => exact hx
  case er b => exact hx
  case rsl b e sz n => exact ⟨by rw [(h.β b hx.2.1).2]; exact hx.1, (h.β b hx.2.1).1, hx.2.2⟩
  case rsv b sz n => obtain ⟨c, h1, h2, h3, h4⟩ := hx; exact ⟨c, h1, by rw [(h.β b h3).2]; exact h2, (h.β b h3).1, h4⟩
  case q x => exact ⟨hx.1.keep h.freeQ, hx.2⟩
  case zs x => exact ⟨hx.1.kind h.freeK, hx.2⟩
  case zp cs => obtain ⟨g, o, h1, h2⟩ := hx; exact ⟨g, o, h1, h2.kind h.freeK⟩
  all_goals exact hx.step h
theorem RepV.step {P : Program} {G G' : Gh} {w w' : World} {kp : Pos → Pos → Prop} (h : GStep G w G' w' kp) {loc loc' : Loc} {i i' : Nat} (hp : ∀ j, kp (loc, i, j) (loc', i', j)) {x : PV} {v : Value}
    (hx : RepV P G w loc i x v) : RepV P G' w' loc' i' x v := by
  cases x <;> simp only [RepV] at hx ⊢
  case agg l => obtain ⟨cs, hv, hl, h1, hr⟩ := hx; exact ⟨cs, hv, hl, h1, fun j x u h1 h2 => (hr j x u h1 h2).step h (hp j)⟩
  all_goals exact RepC.step h (hp 0) hx
theorem RepT.step {P : Program} {G G' : Gh} {w w' : World} {kp : Pos → Pos → Prop} (h : GStep G w G' w' kp) {loc loc' : Loc} (hp : ∀ i j, kp (loc, i, j) (loc', i, j)) {x : PV} {v : Value}
    (hx : RepT P G w loc x v) : RepT P G' w' loc' x v := by
  cases x <;> simp only [RepT] at hx ⊢
  case tup l => obtain ⟨vs, hv, hl, hr⟩ := hx; exact ⟨vs, hv, hl, fun i x u h1 h2 => (hr i x u h1 h2).step h (hp i)⟩
  all_goals exact RepV.step h (hp 0) hx
theorem BoxAt.step {P : Program} {G G' : Gh} {w w' : World} {kp : Pos → Pos → Prop} (h : GStep G w G' w' kp) {b : BN} (hl : G.live b) (hp : ∀ j, kp (.b b, 0, j) (.b b, 0, j)) (hw : w'.heap[G.β b]? = w.heap[G.β b]?)
    {cells : List PV} (hx : BoxAt P G w b cells) : BoxAt P G' w' b cells := by
  obtain ⟨cs, e, h1, h2, h3, h4⟩ := hx
  exact ⟨cs, e, by rw [(h.β b hl).2, hw]; exact h1, h2, h3, fun j x u hx hu => (h4 j x u hx hu).step h (hp j)⟩

theorem OwnAt.full0 {G : Gh} {w : World} {p : Pos} {e sz : Nat} {v : Value} (h : OwnAt G w p e sz [] v) : Full 0 v := by
  rcases h.2 with ⟨h1, -⟩ | ⟨vs, -, h2, -⟩
  · exact h1
  · exact absurd rfl h2.1
theorem OwnAt.any0 {G : Gh} {w : World} {p : Pos} {e sz : Nat} {v : Value} (h : OwnAt G w p e sz [] v) (q : Pos) : OwnAt G w q e sz [] v := ⟨h.1, .inl ⟨h.full0, fun h => absurd rfl h⟩⟩
theorem OwnAt.data {G : Gh} {w : World} {p : Pos} {e sz : Nat} {l : List PD} {v : Value} (h : OwnAt G w p e sz l v) : RepD G.im w (.sl sz l) v := h.1
theorem RepC.bC {P : Program} {G : Gh} {w : World} {p : Pos} (q : Pos) {x : PV} {v : Value} (h : RepC P G w p x v) : RepC P G w q x.bC v := by
  cases x <;> first | exact h | exact ⟨OwnAt.data h, rfl⟩ | exact ⟨h.1.keep (Mine.im G w p), h.2⟩
theorem RepV.bV {P : Program} {G : Gh} {w : World} {loc : Loc} {i : Nat} (loc' : Loc) (i' : Nat) {x : PV} {v : Value} (h : RepV P G w loc i x v) : RepV P G w loc' i' x.bV v := by
  cases x
  case agg l =>
    obtain ⟨cs, hv, hl, h1, hr⟩ := h
    refine ⟨cs, hv, by simpa using hl, h1, fun j x u hx hu => ?_⟩
    rw [List.getElem?_map] at hx
    obtain ⟨y, hy, rfl⟩ := Option.map_eq_some_iff.1 hx
    exact (hr j y u hy hu).bC _
  case dp y => exact RepC.bC (P := P) (p := (loc, i, 0)) (loc', i', 0) (x := .dp y) h
  all_goals first | exact h | exact ⟨OwnAt.data h, rfl⟩
theorem RepT.bT {P : Program} {G : Gh} {w : World} {loc : Loc} (loc' : Loc) {x : PV} {v : Value} (h : RepT P G w loc x v) : RepT P G w loc' x.bT v := by
  cases x
  case tup l =>
    obtain ⟨vs, hv, hl, hr⟩ := h
    refine ⟨vs, hv, by simpa using hl, fun j x u hx hu => ?_⟩
    rw [List.getElem?_map] at hx
    obtain ⟨y, hy, rfl⟩ := Option.map_eq_some_iff.1 hx
    exact (hr j y u hy hu).bV _ _
  case agg l => exact RepV.bV loc' 0 (x := .agg l) h
  case dp y => exact RepV.bV (P := P) (loc := loc) (i := 0) loc' 0 (x := .dp y) h
  all_goals first | exact h | exact ⟨OwnAt.data h, rfl⟩

end Go.Bee


namespace Go.Bee
set_option linter.unusedVariables false

def St.upd (st : St) (ts : List Nat) (d : Option Nat) (x : PV) (bx : BN → Option (List PV)) : St :=
  ⟨fun t => if some t = d then x else if t ∈ ts then (st.tm t).bT else st.tm t, bx⟩

theorem RepC.stepB {P : Program} {G G' : Gh} {w w' : World} {kp : Pos → Pos → Prop} (h : GStep G w G' w' kp) {p : Pos} (q : Pos) {x : PV} {v : Value} (hx : RepC P G w p x v) : RepC P G' w' q x.bC v := by
  cases x
  case own e sz l => exact ⟨(OwnAt.data hx).keep h.keep, rfl⟩
  case clo f caps => obtain ⟨vs, hv, hl, hr⟩ := hx; exact ⟨vs, hv, hl, fun i x u h1 h2 => (hr i x u h1 h2).step h⟩
  case fn K => simp only [RepC, PV.bC] at hx ⊢; rw [h.fz]; exact hx.keep h.keep h.hz h.size
  case efn K => obtain ⟨g, o, u, h1, h2, h3, h4⟩ := hx; exact ⟨g, o, u, h1, (h.keep g o h2).1, (h.keep g o h2).2.trans h3, by rw [h.fz]; exact h4.keep h.keep h.hz h.size⟩
  case dp x => exact ⟨hx.1.keep ((Mine.im G w p).trans h.keep), hx.2⟩
  case one => exact hx
  case er b => exact hx
  case junk => exact hx
  case agg l => exact hx
  case tup l => exact hx
  case rsl b e sz n => exact ⟨by rw [(h.β b hx.2.1).2]; exact hx.1, (h.β b hx.2.1).1, hx.2.2⟩
  case rsv b sz n => obtain ⟨c, h1, h2, h3, h4⟩ := hx; exact ⟨c, h1, by rw [(h.β b h3).2]; exact h2, (h.β b h3).1, h4⟩
  case q x => exact ⟨hx.1.keep h.freeQ, hx.2⟩
  case zs x => exact ⟨hx.1.kind h.freeK, hx.2⟩
  case zp cs => obtain ⟨g, o, h1, h2⟩ := hx; exact ⟨g, o, h1, h2.kind h.freeK⟩
  all_goals (simp only [RepC, PV.bC] at hx ⊢; exact RepAt.step h hx)
theorem RepV.stepB {P : Program} {G G' : Gh} {w w' : World} {kp : Pos → Pos → Prop} (h : GStep G w G' w' kp) {loc : Loc} {i : Nat} (loc' : Loc) (i' : Nat) {x : PV} {v : Value} (hx : RepV P G w loc i x v) : RepV P G' w' loc' i' x.bV v := by
  cases x
  case agg l =>
    obtain ⟨cs, hv, hl, h1, hr⟩ := hx
    refine ⟨cs, hv, by simpa using hl, h1, fun j x u hx hu => ?_⟩
    rw [List.getElem?_map] at hx
    obtain ⟨y, hy, rfl⟩ := Option.map_eq_some_iff.1 hx
    exact (hr j y u hy hu).stepB h _
  case own e sz l => exact RepC.stepB (P := P) (p := (loc, i, 0)) (x := .own e sz l) h (loc', i', 0) hx
  case clo f caps => exact RepC.stepB (P := P) (p := (loc, i, 0)) (x := .clo f caps) h (loc', i', 0) hx
  case fn K => exact RepC.stepB (P := P) (p := (loc, i, 0)) (x := .fn K) h (loc', i', 0) hx
  case efn K => exact RepC.stepB (P := P) (p := (loc, i, 0)) (x := .efn K) h (loc', i', 0) hx
  case dp y => exact RepC.stepB (P := P) (p := (loc, i, 0)) (x := .dp y) h (loc', i', 0) hx
  case one => exact hx
  case er b => exact hx
  case junk => exact hx
  case tup l => exact hx
  case d y => exact RepC.stepB (P := P) (p := (loc, i, 0)) (x := .d y) h (loc', i', 0) hx
  case nilS => exact RepC.stepB (P := P) (p := (loc, i, 0)) (x := .nilS) h (loc', i', 0) hx
  case und => exact RepC.stepB (P := P) (p := (loc, i, 0)) (x := .und) h (loc', i', 0) hx
  case nn sz l => exact RepC.stepB (P := P) (p := (loc, i, 0)) (x := .nn sz l) h (loc', i', 0) hx
  case rsl b e sz n => exact RepC.stepB (P := P) (p := (loc, i, 0)) (x := .rsl b e sz n) h (loc', i', 0) hx
  case rsv b sz n => exact RepC.stepB (P := P) (p := (loc, i, 0)) (x := .rsv b sz n) h (loc', i', 0) hx
  case q y => exact RepC.stepB (P := P) (p := (loc, i, 0)) (x := .q y) h (loc', i', 0) hx
  case zs y => exact RepC.stepB (P := P) (p := (loc, i, 0)) (x := .zs y) h (loc', i', 0) hx
  case zp y => exact RepC.stepB (P := P) (p := (loc, i, 0)) (x := .zp y) h (loc', i', 0) hx
  case ptr b o => exact RepC.stepB (P := P) (p := (loc, i, 0)) (x := .ptr b o) h (loc', i', 0) hx
  case eptr cs => exact RepC.stepB (P := P) (p := (loc, i, 0)) (x := .eptr cs) h (loc', i', 0) hx
theorem RepT.stepB {P : Program} {G G' : Gh} {w w' : World} {kp : Pos → Pos → Prop} (h : GStep G w G' w' kp) {loc : Loc} (loc' : Loc) {x : PV} {v : Value} (hx : RepT P G w loc x v) : RepT P G' w' loc' x.bT v := by
  cases x
  case tup l =>
    obtain ⟨vs, hv, hl, hr⟩ := hx
    refine ⟨vs, hv, by simpa using hl, fun j x u hx hu => ?_⟩
    rw [List.getElem?_map] at hx
    obtain ⟨y, hy, rfl⟩ := Option.map_eq_some_iff.1 hx
    exact (hr j y u hy hu).stepB h _ _
  case own e sz l => exact RepV.stepB (P := P) (loc := loc) (i := 0) (x := .own e sz l) h loc' 0 hx
  case clo f caps => exact RepV.stepB (P := P) (loc := loc) (i := 0) (x := .clo f caps) h loc' 0 hx
  case fn K => exact RepV.stepB (P := P) (loc := loc) (i := 0) (x := .fn K) h loc' 0 hx
  case efn K => exact RepV.stepB (P := P) (loc := loc) (i := 0) (x := .efn K) h loc' 0 hx
  case dp y => exact RepV.stepB (P := P) (loc := loc) (i := 0) (x := .dp y) h loc' 0 hx
  case one => exact hx
  case er b => exact hx
  case junk => exact hx
  case agg l => exact RepV.stepB (P := P) (loc := loc) (i := 0) (x := .agg l) h loc' 0 hx
  case d y => exact RepV.stepB (P := P) (loc := loc) (i := 0) (x := .d y) h loc' 0 hx
  case nilS => exact RepV.stepB (P := P) (loc := loc) (i := 0) (x := .nilS) h loc' 0 hx
  case und => exact RepV.stepB (P := P) (loc := loc) (i := 0) (x := .und) h loc' 0 hx
  case nn sz l => exact RepV.stepB (P := P) (loc := loc) (i := 0) (x := .nn sz l) h loc' 0 hx
  case rsl b e sz n => exact RepV.stepB (P := P) (loc := loc) (i := 0) (x := .rsl b e sz n) h loc' 0 hx
  case rsv b sz n => exact RepV.stepB (P := P) (loc := loc) (i := 0) (x := .rsv b sz n) h loc' 0 hx
  case q y => exact RepV.stepB (P := P) (loc := loc) (i := 0) (x := .q y) h loc' 0 hx
  case zs y => exact RepV.stepB (P := P) (loc := loc) (i := 0) (x := .zs y) h loc' 0 hx
  case zp y => exact RepV.stepB (P := P) (loc := loc) (i := 0) (x := .zp y) h loc' 0 hx
  case ptr b o => exact RepV.stepB (P := P) (loc := loc) (i := 0) (x := .ptr b o) h loc' 0 hx
  case eptr cs => exact RepV.stepB (P := P) (loc := loc) (i := 0) (x := .eptr cs) h loc' 0 hx
theorem GStep.refl (G : Gh) (w : World) : GStep G w G w (fun p q => p = q) :=
  ⟨Keep.refl _ _, fun _ h => ⟨h, rfl⟩, rfl, fun _ _ => rfl, Nat.le_refl _, fun g p q h e => ⟨by rw [h, e], rfl, fun _ h => h⟩, fun o g _ h => ⟨h, .heap rfl⟩⟩
theorem FreeO.relabel {G : Gh} {w : World} {o : Option Pos} {g : Nat} (h : FreeO G w o g) {f : Pos → Pos} (hf : f qpos = qpos) (ho : o = none ∨ o = some qpos) : FreeO (G.relabel f) w o g :=
  ⟨h.1, by rcases ho with rfl | rfl <;> simp [Gh.relabel, h.2.1, hf], h.2.2⟩
theorem GStep.relabel (G : Gh) (w : World) (f : Pos → Pos) (hf : f qpos = qpos) : GStep G w (G.relabel f) w (fun p q => q = f p) :=
  ⟨Keep.refl _ _, fun _ h => ⟨h, rfl⟩, rfl, fun _ _ => rfl, Nat.le_refl _, fun g p q h e => ⟨by simp [Gh.relabel, h, e], rfl, fun _ h => h⟩, fun o g ho h => ⟨h.relabel hf ho, .heap rfl⟩⟩

theorem Rel.next {P : Program} {F : Fr} {G : Gh} {st : St} {a : Act} {w : World} (h : Rel P F G st a w) {G' : Gh} {w' : World} {kp : Pos → Pos → Prop} (hg : GStep G w G' w' kp)
    {ts : List Nat} {d : Option Nat} {x : PV} {v : Value} {bx : BN → Option (List PV)}
    (hk : ∀ t, t ∉ ts → some t ≠ d → ∀ i j, kp (.t t, i, j) (.t t, i, j)) (hx : ∀ d', d = some d' → RepT P G' w' (.t d') x v) (hd : ∀ d', d = some d' → d' < F.nt)
    (hp : Hp P G' w' bx) (sn : Since F G' w') : Rel P F G' (st.upd ts d x bx) (a.put d v) w' := by
  have hsz : (a.put d v).tmps.size = a.tmps.size := by cases d <;> simp [Act.put]
  refine ⟨fun t => ?_, hp, sn, hsz.trans h.nt, by cases d <;> simpa [Act.put] using h.defers, fun g hz => ⟨(hg.free _ g (.inl rfl) (h.z g hz).1).1, (h.z g hz).2.trans (hg.free _ g (.inl rfl) (h.z g hz).1).2.kindN⟩, h.tab.mono hg.hz (fun g h1 _ => by rw [hg.fz]; exact h1)⟩
  have hother : some t ≠ d → (a.put d v).tmps.getD t undef = a.tmps.getD t undef := by
    intro hne
    cases d with
    | none => rfl
    | some d' =>
      have : d' ≠ t := fun e => hne (by rw [e])
      simp [Act.put, Array.getD_eq_getD_getElem?, this]
  simp only [St.upd]
  by_cases htd : some t = d
  · rw [if_pos htd]
    obtain rfl := htd.symm
    have hlt := hd t rfl
    have : (a.put (some t) v).tmps.getD t undef = v := by
      simp [Act.put, Array.getD_eq_getD_getElem?, h.nt, hlt]
    rw [this]
    exact hx t rfl
  · rw [if_neg htd, hother htd]
    by_cases hts : t ∈ ts
    · rw [if_pos hts]; exact (h.tm t).stepB hg _
    · rw [if_neg hts]; exact (h.tm t).step hg (hk t hts htd)

theorem Hp.relabel {P : Program} {G : Gh} {w : World} {B : BN → Option (List PV)} (h : Hp P G w B) (f : Pos → Pos) (hf : ∀ b j, f (.b b, 0, j) = (.b b, 0, j)) (hq : f qpos = qpos) : Hp P (G.relabel f) w B := by
  refine ⟨fun b cells hb => (h.bx b cells hb).step (GStep.relabel G w f hq) ((h.live b).2 (by simp [hb])) (fun j => (hf b j).symm) rfl, h.live, h.inj, h.imlt, fun g p hg => ?_, h.boxim, fun b hb => ?_⟩
  · simp only [Gh.relabel, Option.map_eq_some_iff] at hg
    obtain ⟨q, hq, _⟩ := hg
    exact h.ownlt g q hq
  · simp [Gh.relabel, h.boxown b hb]
theorem Since.relabel {F : Fr} {G : Gh} {w : World} (h : Since F G w) (f : Pos → Pos) : Since F (G.relabel f) w := by
  refine ⟨h.ext, fun g p hg => ?_, h.box, h.βa, h.fz, h.fzm⟩
  simp only [Gh.relabel, Option.map_eq_some_iff] at hg
  obtain ⟨q, hq, _⟩ := hg
  exact h.own g q hq

def mvT (s d : Nat) (p : Pos) : Pos := if p.1 = .t s then (.t d, p.2) else p
end Go.Bee


namespace Go.Bee
set_option linter.unusedVariables false

def PV.isJunk : PV → Bool
  | .junk => true
  | _ => false
def cpc : Value → PV
  | .bool b => .d (.bool b)
  | .int k n => .d (.int k n)
  | .string s => if s.data.toList.length ≤ 140737488355328 then .d (.str s.data.toList) else .junk
  | .slice none n c => if n = 0 ∧ c = 0 then .nilS else .junk
  | .func (.func f) first caps => if first.toList = [] ∧ caps.toList = [] then .clo f [] else .junk
  | .nilFunc => .one
  | .pointer none => .one
  | .nilIface => .one
  | _ => .junk
def cpv : Value → PV
  | .agg _ => .junk
  | .tuple _ => .junk
  | v => cpc v
theorem cpc_rep {P : Program} {G : Gh} {w : World} (p : Pos) (v : Value) : RepC P G w p (cpc v) v := by
  unfold cpc
  split
  · exact ⟨.bool _, rfl⟩
  · exact ⟨.int _ _, rfl⟩
  · rename_i s
    split
    · rename_i hb
      refine ⟨?_, rfl⟩
      have := RepD.str (S := G.im) (w := w) s.data.toList hb
      simpa using this
    · trivial
  · split
    · rename_i h; obtain ⟨rfl, rfl⟩ := h; exact rfl
    · trivial
  · split
    · rename_i f a b h
      obtain ⟨h1, h2⟩ := h
      obtain rfl : a = #[] := by simpa using h1
      obtain rfl : b = #[] := by simpa using h2
      exact ⟨#[], rfl, rfl, by intro i x u h; simp at h⟩
    · trivial
  · rfl
  · rfl
  · rfl
  · trivial
theorem cpc_cell {v : Value} (h : (cpc v).isJunk = false) : v.oneCell' = true := by
  unfold cpc at h
  split at h <;> first | rfl | (simp [PV.isJunk] at h; done)
theorem cpv_rep {P : Program} {G : Gh} {w : World} (loc : Loc) (v : Value) : RepT P G w loc (cpv v) v := by
  have key : RepT P G w loc (cpc v) v := by
    have h := cpc_rep (P := P) (G := G) (w := w) (loc, 0, 0) v
    generalize hx : cpc v = x at h
    cases x <;> first | exact h | (simp only [RepC] at h)
  unfold cpv
  split
  · trivial
  · trivial
  · exact key

def St.ev (st : St) : Operand → PV
  | .tmp t => st.tm t
  | .const v => cpv v
  | .global _ => .junk
  | .func f => .clo f []
def opLoc : Operand → Loc
  | .tmp t => .t t
  | _ => .res
theorem Rel.ev {P : Program} {F : Fr} {G : Gh} {st : St} {a : Act} {w : World} (h : Rel P F G st a w) (x : Operand) : RepT P G w (opLoc x) (st.ev x) (a.eval x) := by
  cases x with
  | tmp t => exact h.tm t
  | const v => exact cpv_rep _ v
  | global g => trivial
  | func f => exact ⟨#[], rfl, rfl, by intro i x u h; simp at h⟩

structure TI where
  sz : Nat
  by_ : Nat
  agg : Bool
  el : Option TypeId
  str : Bool
  bool : Bool
  ref : Bool
  ptr : Bool
  int : Option IntKind
  fl : List (Option (Nat × Nat × Bool))
  zero : List PV
def tyi (P : Program) (t : TypeId) : Option TI :=
  match P.info? t, P.underlying t with
  | some i, some d => some {
      sz := i.size, by_ := i.bytes,
      agg := (match d with | .struct _ => true | .array _ _ => true | _ => false),
      el := (match d with | .slice e => some e | _ => none),
      str := (match d with | .string => true | _ => false),
      bool := (match d with | .bool => true | _ => false),
      ref := (match d with | .bool => false | .int _ => false | .string => false | .slice _ => false | .struct _ => false | _ => true),
      ptr := (match d with | .pointer _ => true | _ => false),
      int := (match d with | .int k => some k | _ => none),
      fl := (match d with
        | .struct fs => fs.toList.map (fun f => match P.info? f.type, P.underlying f.type with
          | some i, some d => some (f.offset, i.size, match d with | .struct _ => true | .array _ _ => true | _ => false)
          | _, _ => none)
        | _ => []),
      zero := ((i.zero.map fun v => v.cells.toList.map cpc).getD [])  }
  | _, _ => none

theorem tyi_spec {P : Program} {t : TypeId} {i : TI} (h : tyi P t = some i) : ∃ i' d, P.info? t = some i' ∧ P.underlying t = some d ∧ i.sz = i'.size ∧ i.by_ = i'.bytes ∧
    i.agg = (match d with | .struct _ => true | .array _ _ => true | _ => false) ∧ i.el = (match d with | .slice e => some e | _ => none) ∧ i.str = (match d with | .string => true | _ => false) ∧
    i.int = (match d with | .int k => some k | _ => none) ∧ i.zero = ((i'.zero.map fun v => v.cells.toList.map cpc).getD []) ∧
    i.fl = (match d with
        | .struct fs => fs.toList.map (fun f => match P.info? f.type, P.underlying f.type with
          | some i, some d => some (f.offset, i.size, match d with | .struct _ => true | .array _ _ => true | _ => false)
          | _, _ => none)
        | _ => []) := by
  unfold tyi at h
  split at h
  · rename_i i' d h1 h2
    cases h
    exact ⟨i', d, h1, h2, rfl, rfl, rfl, rfl, rfl, rfl, rfl, rfl⟩
  · cases h
theorem tyi_size {P : Program} {t : TypeId} {i : TI} (h : tyi P t = some i) (w : World) : (sizeOf t).run P w = .ok i.sz w := by
  obtain ⟨i', d, h1, h2, h3, -⟩ := tyi_spec h
  simp [sizeOf, typeInfo, h1, h3]
theorem tyi_agg {P : Program} {t : TypeId} {i : TI} (h : tyi P t = some i) (w : World) : (isAgg t).run P w = .ok i.agg w := by
  obtain ⟨i', d, h1, h2, h3, h4, h5, -⟩ := tyi_spec h
  rw [h5]
  simp only [isAgg, Sem.run_bind, run_underlying h2, Result.andThen_ok]
  cases d <;> rfl

def pdOnly : List PV → Option (List PD)
  | [] => some []
  | .d x :: l => (pdOnly l).map fun ys => x :: ys
  | _ :: _ => none
def eqFs (P : Program) (E : TypeId → List PD → List PD → Option Bool) : List Field → List PD → List PD → Option Bool
  | [], _, _ => some true
  | f :: fs, xs, ys => if f.name = "_" then none else (tyi P f.type).bind fun i => if ¬ (f.offset + i.sz ≤ xs.length ∧ f.offset + i.sz ≤ ys.length ∧ (i.agg = true ∨ i.sz = 1)) then none else
      (E f.type ((xs.drop f.offset).take i.sz) ((ys.drop f.offset).take i.sz)).bind fun r => (eqFs P E fs xs ys).map fun r' => r && r'
def eqAt (P : Program) : Nat → TypeId → List PD → List PD → Option Bool
  | 0, _, _, _ => none
  | d + 1, t, xs, ys => match P.underlying t with
    | some .bool => match xs, ys with
      | [.bool a], [.bool b] => some (a == b)
      | _, _ => none
    | some (.int _) => match xs, ys with
      | [.int k a], [.int k' b] => if k = k' then some (a == b) else none
      | _, _ => none
    | some .string => match xs, ys with
      | [.str a], [.str b] => some (a == b)
      | _, _ => none
    | some (.struct fs) => if P.stoodInHeld t = true then none else eqFs P (eqAt P d) fs.toList xs ys
    | _ => none
def AsV (P : Program) (S : Nat → Nat → Prop) (w : World) (t : TypeId) (xs : List PD) (u : Value) : Prop :=
  ∀ i, tyi P t = some i → (i.agg = true → ∃ cs : Array Value, u = .agg cs ∧ cs.size = xs.length ∧ ∀ (j : Nat) x v, xs[j]? = some x → cs[j]? = some v → RepD S w x v) ∧ (i.agg = false → ∀ x, xs = [x] → RepD S w x u)
theorem part_ok {P : Program} {S : Nat → Nat → Prop} {w : World} {t : TypeId} {ti : TI} {off : Nat} {zs : List PD} {cz : Array Value} (hti : tyi P t = some ti) (hle : off + ti.sz ≤ zs.length) (hz : ti.agg = true ∨ ti.sz = 1) (hz1 : cz.size = zs.length)
    (hz2 : ∀ (j : Nat) x v, zs[j]? = some x → cz[j]? = some v → RepD S w x v) : ∃ pv, (part t cz off).run P w = .ok pv w ∧ AsV P S w t ((zs.drop off).take ti.sz) pv := by
  cases hg : ti.agg
  · have h1 : ti.sz = 1 := hz.resolve_left (by rw [hg]; simp)
    have hlt : off < cz.size := by omega
    have hlz : off < zs.length := by omega
    refine ⟨cz[off], by simp [part, tyi_agg hti, hg, Array.getElem?_eq_getElem hlt], fun i' hi' => ?_⟩
    rw [hti] at hi'; cases hi'
    refine ⟨fun h => (by rw [hg] at h; cases h), fun _ y hy => ?_⟩
    rw [h1, List.drop_eq_getElem_cons hlz, List.take_succ_cons, List.take_zero] at hy
    obtain rfl := (List.cons.inj hy).1
    exact hz2 off _ _ (List.getElem?_eq_getElem hlz) (Array.getElem?_eq_getElem hlt)
  · refine ⟨.agg (cz.extract off (off + ti.sz)), by simp [part, tyi_agg hti, hg, tyi_size hti], fun i' hi' => ?_⟩
    rw [hti] at hi'; cases hi'
    refine ⟨fun _ => ⟨_, rfl, by simp; omega, fun j x v hx hv => ?_⟩, fun h => by rw [hg] at h; cases h⟩
    rw [List.getElem?_take] at hx
    split at hx
    · rw [List.getElem?_drop] at hx
      rw [Array.getElem?_extract] at hv
      split at hv
      · exact hz2 _ _ _ hx hv
      · cases hv
    · cases hx
theorem eqAt_ok {P : Program} {S : Nat → Nat → Prop} {w : World} : ∀ (d : Nat) (t : TypeId) (xs ys : List PD) (r : Bool), eqAt P d t xs ys = some r → ∀ (k : Nat) (u v : Value), (tyi P t).isSome = true → AsV P S w t xs u → AsV P S w t ys v →
    (Op.equalIn (k + d) t u v).run P w = .ok r w
  | 0, t, xs, ys, r, h, k, u, v, _, _, _ => by simp [eqAt] at h
  | d + 1, t, xs, ys, r, h, k, u, v, hi, hu, hv => by
    obtain ⟨i, hi⟩ := Option.isSome_iff_exists.1 hi
    obtain ⟨i', dd, h1, h2, h3, h4, h5, -⟩ := tyi_spec hi
    unfold eqAt at h
    rw [h2] at h
    rw [show k + (d + 1) = (k + d) + 1 from rfl]
    split at h
    · rename_i e
      cases e
      have hag : i.agg = false := h5
      split at h
      · cases h
        have a1 := (hu i hi).2 hag _ rfl
        have a2 := (hv i hi).2 hag _ rfl
        cases a1; cases a2
        exact run_equalIn_bool' w _ t _ _ h2
      · cases h
    · rename_i q e
      cases e
      have hag : i.agg = false := h5
      split at h
      · split at h
        · rename_i hk; subst hk
          cases h
          have a1 := (hu i hi).2 hag _ rfl
          have a2 := (hv i hi).2 hag _ rfl
          cases a1; cases a2
          exact run_equalIn_int w _ t _ _ _ _ h2
        · cases h
      · cases h
    · rename_i e
      cases e
      have hag : i.agg = false := h5
      split at h
      · cases h
        have a1 := (hu i hi).2 hag _ rfl
        have a2 := (hv i hi).2 hag _ rfl
        cases a1; cases a2
        rw [run_equalIn_string w _ t _ _ h2]
        simp
      · cases h
    · rename_i fs e
      cases e
      have hag : i.agg = true := h5
      split at h
      · cases h
      · rename_i hst
        obtain ⟨cs, rfl, hc1, hc2⟩ := (hu i hi).1 hag
        obtain ⟨cs', rfl, hc1', hc2'⟩ := (hv i hi).1 hag
        have hfo : P.fieldsOf t = fs := by simp [Program.fieldsOf, h2]
        rw [run_equalIn_struct w _ t cs cs' (by rw [hfo]; exact h2) (by simpa using hst), hfo]
        generalize fs.toList = l at h
        clear hfo h5 h2
        induction l generalizing r with
        | nil => simp only [eqFs, Option.some.injEq] at h; subst h; simp [Op.eqFields]
        | cons f l ih =>
          unfold eqFs at h
          split at h
          · cases h
          · rename_i hn
            simp only [Option.bind_eq_some_iff] at h
            obtain ⟨ti, hti, h⟩ := h
            split at h
            · cases h
            · rename_i hck
              simp only [Decidable.not_not] at hck
              obtain ⟨hx1, hy1, hz1⟩ := hck
              simp only [Option.bind_eq_some_iff, Option.map_eq_some_iff] at h
              obtain ⟨r1, hr1, r2, hr2, rfl⟩ := h
              obtain ⟨pa, e1, e2⟩ := part_ok hti hx1 hz1 hc1 hc2
              obtain ⟨pb, e3, e4⟩ := part_ok hti hy1 hz1 hc1' hc2'
              have e5 := eqAt_ok d f.type _ _ r1 hr1 k pa pb (by rw [hti]; rfl) e2 e4
              simp only [Op.eqFields, hn, ne_eq, not_false_eq_true, if_true, Sem.run_bind, e1, e3, e5, Result.andThen_ok]
              cases r1
              · simp
              · simpa using ih r2 hr2
    · cases h

structure AF where
  mv : Bool
  bt : Bool
  be : Bool

abbrev Bx := BN → Option (List PV)
def Bx.set (B : Bx) (b : BN) (cells : List PV) : Bx := fun c => if c = b then some cells else B c

def pvCells : PV → Option (List PV)
  | .agg l => some l
  | .tup _ => none
  | .junk => none
  | .und => none
  | x => some [x]
def mvd (mv : Bool) (x : PV) : PV := if mv then x else x.bT

def pick2 (c : Bool) : PV → PV → PV
  | .d (.bool x), .d (.bool y) => .d (.bool (if c then x else y))
  | x, y => if c then x else y

def evEq (P : Program) (op : BinOp) (t : TypeId) (xs ys : List PV) : Option PV :=
  if P.eqGuardType P.depth t = true then none else (tyi P t).bind fun i => if i.agg = false then none else (pdOnly xs).bind fun ps => (pdOnly ys).bind fun qs => (eqAt P 8 t ps qs).bind fun r =>
    match op with | .eql => some (.d (.bool r)) | .neq => some (.d (.bool (!r))) | _ => none
theorem pdOnly_get : ∀ {l : List PV} {ys : List PD}, pdOnly l = some ys → ys.length = l.length ∧ ∀ (i : Nat) y, ys[i]? = some y → l[i]? = some (.d y)
  | [], ys, h => by simp [pdOnly] at h; subst h; simp
  | x :: xs, ys, h => by
    cases x <;> simp only [pdOnly, reduceCtorEq, Option.map_eq_some_iff] at h
    obtain ⟨zs, hz, rfl⟩ := h
    obtain ⟨h1, h2⟩ := pdOnly_get hz
    refine ⟨by simp [h1], fun i y hy => ?_⟩
    cases i with
    | zero => simp at hy; subst hy; rfl
    | succ i => simp at hy; simpa using h2 i y hy
def bAnd (k : IntKind) (a b : Int) : Int := k.wrap (BitVec.ofInt k.bits a &&& BitVec.ofInt k.bits b).toNat
def bShr (k : IntKind) (a b : Int) : Int := a.fdiv (2 ^ min b.toNat k.bits)
def evBin (P : Program) (op : BinOp) (t : TypeId) : PV → PV → Option PV
  | .d (.int k a), .d (.int k' b) =>
    if k = k' then
      match op with
      | .add => some (.d (.int k (k.wrap (a + b))))
      | .sub => some (.d (.int k (k.wrap (a - b))))
      | .mul => some (.d (.int k (k.wrap (a * b))))
      | .quo => if b = 0 then none else some (.d (.int k (k.wrap (a.tdiv b))))
      | .rem => if b = 0 then none else some (.d (.int k (a.tmod b)))
      | .and => some (.d (.int k (bAnd k a b)))
      | .shr => if b < 0 then none else some (.d (.int k (bShr k a b)))
      | .eql => some (.d (.bool (a == b)))
      | .neq => some (.d (.bool (a != b)))
      | .lss => some (.d (.bool (decide (a < b))))
      | .leq => some (.d (.bool (decide (a ≤ b))))
      | .gtr => some (.d (.bool (decide (a > b))))
      | .geq => some (.d (.bool (decide (a ≥ b))))
      | _ => none
    else none
  | .d (.str a), .d (.str b) =>
    match op with
    | .add => if a.length + b.length ≤ 140737488355328 then some (.d (.str (a ++ b))) else none
    | .eql => some (.d (.bool (a == b)))
    | .neq => some (.d (.bool (!(a == b))))
    | .lss => some (.d (.bool (Op.bytesLess a b)))
    | .leq => some (.d (.bool (Op.bytesLess a b || a == b)))
    | .gtr => some (.d (.bool (!(Op.bytesLess a b || a == b))))
    | .geq => some (.d (.bool (!(Op.bytesLess a b))))
    | _ => none
  | .d (.bool a), .d (.bool b) =>
    match tyi P t with
    | some i => if i.bool then (match op with | .eql => some (.d (.bool (a == b))) | .neq => some (.d (.bool (!(a == b)))) | _ => none) else none
    | none => none
  | .nilS, .nilS => match tyi P t with
    | some i => if i.el.isSome then (match op with | .eql => some (.d (.bool true)) | .neq => some (.d (.bool false)) | _ => none) else none
    | none => none
  | .nn _ _, .nilS => match tyi P t with
    | some i => if i.el.isSome then (match op with | .eql => some (.d (.bool false)) | .neq => some (.d (.bool true)) | _ => none) else none
    | none => none
  | .agg xs, .agg ys => evEq P op t xs ys
  | _, _ => none
theorem run_eq_nil {P : Program} (w : World) (d : Nat) {t e : TypeId} (hu : P.underlying t = some (.slice e)) (n c m k : Nat) : (Op.equalIn (d + 1) t (.slice none n c) (.slice none m k)).run P w = .ok true w := by
  simp [Op.equalIn, run_underlying hu]
theorem run_eq_nn {P : Program} (w : World) (d : Nat) {t e : TypeId} (hu : P.underlying t = some (.slice e)) (a : Addr) (n c m k : Nat) : (Op.equalIn (d + 1) t (.slice (some a) n c) (.slice none m k)).run P w = .ok false w := by
  simp [Op.equalIn, run_underlying hu]
def isNilV : Value → Bool
  | .nilIface => true
  | _ => false
def isNilC : Operand → Bool
  | .const v => isNilV v
  | _ => false
def isIf (P : Program) (t : TypeId) : Bool := match P.underlying t with
  | some (.interface _) => true
  | _ => false
def evErr (op : BinOp) : PV → Option PV
  | .er b => match op with
    | .eql => some (.d (.bool b))
    | .neq => some (.d (.bool (!b)))
    | _ => none
  | _ => none
def evBinO (P : Program) (op : BinOp) (t : TypeId) (Y : Operand) (x y : PV) : Option PV := if isNilC Y = true then (if isIf P t = true then evErr op x else none) else evBin P op t x y
theorem evBin_ok {P : Program} {G : Gh} {w : World} {op : BinOp} {t : TypeId} {x y r : PV} {u v : Value} {l1 l2 : Loc} (loc : Loc) (X Y : Operand) (hx : RepT P G w l1 x u) (hy : RepT P G w l2 y v)
    (h : evBin P op t x y = some r) : ∃ rv, ((do eqGuard op t X Y u v; binOp op t u v : Sem Value)).run P w = .ok rv w ∧ RepT P G w loc r rv := by
  unfold evBin at h
  split at h
  · obtain ⟨hx, -⟩ := hx; obtain ⟨hy, -⟩ := hy
    cases hx; cases hy
    rename_i k a k' b
    split at h
    · rename_i hk; subst hk
      cases op <;> simp only [Option.some.injEq, reduceCtorEq] at h <;> first
        | (subst h; refine ⟨_, ?_, ⟨by first | exact .int _ _ | exact .bool _, rfl⟩⟩; simp [eqGuard, binOp, Op.intArith, Op.intCmp, Op.intBits, bAnd]; done)
        | (split at h
           · cases h
           · rename_i h0; cases h; refine ⟨_, ?_, ⟨.int _ _, rfl⟩⟩; simp [eqGuard, binOp, Op.intDiv, Op.shift, bShr, h0])
    · cases h
  · obtain ⟨hx, -⟩ := hx; obtain ⟨hy, -⟩ := hy
    cases hx; cases hy
    rename_i a b ha hb
    cases op <;> simp only [Option.some.injEq, reduceCtorEq] at h <;> first
      | (subst h; refine ⟨_, ?_, ⟨.bool _, rfl⟩⟩; simp [eqGuard, binOp, Op.stringOp]; done)
      | (split at h
         · rename_i hl
           cases h
           refine ⟨.string ⟨(a ++ b).toArray⟩, ?_, ⟨.str _ (by simpa using hl), rfl⟩⟩
           have h1 : ((⟨a.toArray⟩ : ByteArray).size) = a.length := by simp [ByteArray.size]
           have h2 : ((⟨b.toArray⟩ : ByteArray).size) = b.length := by simp [ByteArray.size]
           have h3 : (⟨a.toArray⟩ ++ ⟨b.toArray⟩ : ByteArray) = ⟨(a ++ b).toArray⟩ := by
             apply ByteArray.ext; simp
           have h4 : ¬ (((a.length + b.length : Nat) : Int) > 9223372036854775807) := by omega
           simp only [eqGuard, binOp, Op.stringOp, h1, h2, h3, IntKind.max_i64]
           simp only [h4]
           simp
         · cases h)
  · obtain ⟨hx, -⟩ := hx; obtain ⟨hy, -⟩ := hy
    cases hx; cases hy
    rename_i a b
    split at h
    · rename_i i hi
      split at h
      · rename_i hbool
        have hu : P.underlying t = some .bool := by
          unfold tyi at hi
          split at hi
          · rename_i i' d h1 h2
            cases hi
            simp only at hbool
            cases d <;> simp at hbool
            exact h2
          · cases hi
        cases op <;> simp only [Option.some.injEq, reduceCtorEq] at h <;> (subst h; refine ⟨_, ?_, ⟨.bool _, rfl⟩⟩)
        · simp [eqGuard, binOp, Op.equal, Op.maxDepth, run_equalIn_bool' (P := P) w _ t a b hu]
        · simp [eqGuard, binOp, Op.equal, Op.maxDepth, run_equalIn_bool' (P := P) w _ t a b hu]
      · cases h
    · cases h
  · split at h
    · rename_i i hi
      split at h
      · rename_i hel
        obtain ⟨e, he⟩ := Option.isSome_iff_exists.1 hel
        have hu : P.underlying t = some (.slice e) := by
          unfold tyi at hi
          split at hi
          · rename_i i' d h1 h2
            cases hi
            simp only at he
            cases d <;> simp at he
            subst he
            exact h2
          · cases hi
        obtain rfl : u = .slice none 0 0 := hx
        obtain rfl : v = .slice none 0 0 := hy
        cases op <;> simp only [Option.some.injEq, reduceCtorEq] at h <;> (subst h; refine ⟨_, ?_, ⟨.bool _, rfl⟩⟩)
        · simp [eqGuard, binOp, Op.equal, Op.maxDepth, run_eq_nil w 9999 hu]
        · simp [eqGuard, binOp, Op.equal, Op.maxDepth, run_eq_nil w 9999 hu]
      · cases h
    · cases h
  · split at h
    · rename_i i hi
      split at h
      · rename_i hel
        obtain ⟨e, he⟩ := Option.isSome_iff_exists.1 hel
        have hu : P.underlying t = some (.slice e) := by
          unfold tyi at hi
          split at hi
          · rename_i i' d h1 h2
            cases hi
            simp only at he
            cases d <;> simp at he
            subst he
            exact h2
          · cases hi
        obtain ⟨hd, hne⟩ := hx
        obtain rfl : v = .slice none 0 0 := hy
        have : ∃ a n c, u = .slice (some a) n c := by
          cases hd
          · exact absurd rfl (hne 0 0)
          · exact ⟨_, _, _, rfl⟩
          · exact ⟨_, _, _, rfl⟩
        obtain ⟨a, n, c, rfl⟩ := this
        cases op <;> simp only [Option.some.injEq, reduceCtorEq] at h <;> (subst h; refine ⟨_, ?_, ⟨.bool _, rfl⟩⟩)
        · simp [eqGuard, binOp, Op.equal, Op.maxDepth, run_eq_nn w 9999 hu]
        · simp [eqGuard, binOp, Op.equal, Op.maxDepth, run_eq_nn w 9999 hu]
      · cases h
    · cases h
  · rename_i xs ys
    unfold evEq at h
    split at h
    · cases h
    · rename_i hgd
      simp only [Option.bind_eq_some_iff] at h
      obtain ⟨i, hi, h⟩ := h
      split at h
      · cases h
      · rename_i hag
        simp only [Bool.not_eq_false] at hag
        simp only [Option.bind_eq_some_iff] at h
        obtain ⟨ps, hps, qs, hqs, b, hb, h⟩ := h
        obtain ⟨cs, rfl, hc1, -, hc2⟩ := hx
        obtain ⟨cs', rfl, hc1', -, hc2'⟩ := hy
        obtain ⟨hp1, hp2⟩ := pdOnly_get hps
        obtain ⟨hq1, hq2⟩ := pdOnly_get hqs
        have hrun := eqAt_ok (S := G.im) (w := w) 8 t ps qs b hb 9992 (.agg cs) (.agg cs') (by rw [hi]; rfl)
          (fun i' hi' => by
            rw [hi] at hi'; cases hi'
            exact ⟨fun _ => ⟨cs, rfl, by omega, fun j x v hx hv => (hc2 j _ v (hp2 j x hx) hv).1⟩, fun h => by rw [hag] at h; cases h⟩)
          (fun i' hi' => by
            rw [hi] at hi'; cases hi'
            exact ⟨fun _ => ⟨cs', rfl, by omega, fun j x v hx hv => (hc2' j _ v (hq2 j x hx) hv).1⟩, fun h => by rw [hag] at h; cases h⟩)
        have hg := run_eqGuard_agg (P := P) w op t X Y cs cs' (by simpa using hgd)
        cases op <;> simp only [Option.some.injEq, reduceCtorEq] at h <;> (subst h; refine ⟨_, ?_, ⟨.bool _, rfl⟩⟩)
        · simp only [Sem.run_bind, hg, Result.andThen_ok, run_eql_struct, hrun]
        · simp only [Sem.run_bind, hg, Result.andThen_ok, run_neq_struct, hrun]
  · cases h

theorem run_eq_err {P : Program} (w : World) (d : Nat) {t : TypeId} {ms : Array (String × TypeId)} (hu : P.underlying t = some (.interface ms)) : (Op.equalIn (d + 1) t .nilIface .nilIface).run P w = .ok true w ∧ ∀ te p, (Op.equalIn (d + 1) t (.iface te p) .nilIface).run P w = .ok false w := by
  constructor
  · simp [Op.equalIn, run_underlying hu]
  · intro te p
    simp [Op.equalIn, run_underlying hu]
theorem isIf_u {P : Program} {t : TypeId} (h : isIf P t = true) : ∃ ms, P.underlying t = some (.interface ms) := by
  unfold isIf at h
  split at h
  · rename_i ms hm; exact ⟨ms, hm⟩
  · cases h
theorem evBinO_ok {P : Program} {G : Gh} {w : World} {op : BinOp} {t : TypeId} {x y r : PV} {u v : Value} {l1 l2 : Loc} (loc : Loc) (X Y : Operand) (hY : ∀ c, Y = .const c → v = c) (hx : RepT P G w l1 x u) (hy : RepT P G w l2 y v)
    (h : evBinO P op t Y x y = some r) : ∃ rv, ((do eqGuard op t X Y u v; binOp op t u v : Sem Value)).run P w = .ok rv w ∧ RepT P G w loc r rv := by
  unfold evBinO at h
  split at h
  · rename_i hn
    split at h
    · rename_i hi
      obtain ⟨ms, hu⟩ := isIf_u hi
      cases Y <;> simp only [isNilC, Bool.false_eq_true] at hn
      rename_i c
      cases c <;> simp only [isNilV, Bool.false_eq_true] at hn
      obtain rfl : v = .nilIface := hY _ rfl
      cases x <;> simp only [evErr, reduceCtorEq] at h
      rename_i b
      rcases (show isEr b u from hx) with ⟨rfl, rfl⟩ | ⟨rfl, te, p, rfl⟩
      · cases op <;> simp only [Option.some.injEq, reduceCtorEq] at h <;> (subst h; refine ⟨_, ?_, ⟨.bool _, rfl⟩⟩; simp [eqGuard, binOp, Op.equal, Op.maxDepth, (run_eq_err (P := P) w 9999 hu).1])
      · cases op <;> simp only [Option.some.injEq, reduceCtorEq] at h <;> (subst h; refine ⟨_, ?_, ⟨.bool _, rfl⟩⟩; simp [eqGuard, binOp, Op.equal, Op.maxDepth, (run_eq_err (P := P) w 9999 hu).2])
    · cases h
  · exact evBin_ok loc X Y hx hy h
end Go.Bee


namespace Go.Bee
set_option linter.unusedVariables false

theorem tyi_el {P : Program} {t e : TypeId} {i : TI} (h : tyi P t = some i) (he : i.el = some e) : P.underlying t = some (.slice e) := by
  obtain ⟨i', d, h1, h2, h3, h4, h5, h6, -⟩ := tyi_spec h
  rw [h6] at he
  cases d <;> simp at he
  subst he; exact h2
theorem tyi_str {P : Program} {t : TypeId} {i : TI} (h : tyi P t = some i) (he : i.str = true) : P.underlying t = some .string := by
  obtain ⟨i', d, h1, h2, h3, h4, h5, h6, h7, -⟩ := tyi_spec h
  rw [h7] at he
  cases d <;> simp at he
  exact h2
theorem tyi_int {P : Program} {t : TypeId} {k : IntKind} {i : TI} (h : tyi P t = some i) (he : i.int = some k) : P.underlying t = some (.int k) := by
  obtain ⟨i', d, h1, h2, h3, h4, h5, h6, h7, h8, -⟩ := tyi_spec h
  rw [h8] at he
  cases d <;> simp at he
  subst he; exact h2
theorem tyi_fl {P : Program} {t : TypeId} {i : TI} (h : tyi P t = some i) {f off sz : Nat} {ag : Bool} (he : i.fl[f]? = some (some (off, sz, ag))) :
    ∃ fs fd, P.underlying t = some (.struct fs) ∧ fs[f]? = some fd ∧ fd.offset = off ∧ (∀ w, (sizeOf fd.type).run P w = .ok sz w) ∧ ∀ w, (isAgg fd.type).run P w = .ok ag w := by
  obtain ⟨i', d, h1, h2, h3, h4, h5, h6, h7, h8, h9, h10⟩ := tyi_spec h
  rw [h10] at he
  cases d <;> simp at he
  rename_i fs
  obtain ⟨fd, hfd, he⟩ := he
  split at he
  · rename_i j dd k1 k2
    simp only [Option.some.injEq, Prod.mk.injEq] at he
    obtain ⟨rfl, rfl, he⟩ := he
    refine ⟨fs, fd, h2, hfd, rfl, fun w => by simp [sizeOf, typeInfo, k1], fun w => ?_⟩
    rw [← he]
    simp only [isAgg, Sem.run_bind, run_underlying k2, Result.andThen_ok]
    cases dd <;> rfl
  · cases he

def PV.list : PV → Option (Nat × List PD)
  | .d (.sl sz l) => some (sz, l)
  | .own _ sz l => some (sz, l)
  | .nn sz l => some (sz, l)
  | .dp (.sl sz l) => some (sz, l)
  | _ => none
theorem RepT.list {P : Program} {G : Gh} {w : World} {loc : Loc} {x : PV} {v : Value} {sz : Nat} {l : List PD} (h : RepT P G w loc x v) (hx : x.list = some (sz, l)) : RepD G.im w (.sl sz l) v := by
  cases x <;> simp only [PV.list, reduceCtorEq] at hx
  · rename_i y
    cases y <;> simp only [reduceCtorEq, Option.some.injEq, Prod.mk.injEq] at hx
    obtain ⟨rfl, rfl⟩ := hx
    exact h.1
  · simp only [Option.some.injEq, Prod.mk.injEq] at hx
    obtain ⟨rfl, rfl⟩ := hx
    exact h.1
  · simp only [Option.some.injEq, Prod.mk.injEq] at hx
    obtain ⟨rfl, rfl⟩ := hx
    exact OwnAt.data h
  · rename_i y
    cases y <;> simp only [reduceCtorEq, Option.some.injEq, Prod.mk.injEq] at hx
    obtain ⟨rfl, rfl⟩ := hx
    exact (RepC.bC (P := P) (p := (loc, 0, 0)) (loc, 0, 0) (x := .dp (.sl _ _)) h).1

def evUn (op : UnOp) : PV → Option PV
  | .d (.bool b) => match op with | .not => some (.d (.bool !b)) | _ => none
  | .d (.int k n) => match op with | .neg => some (.d (.int k (k.wrap (0 - n)))) | _ => none
  | _ => none
theorem evUn_ok {P : Program} {G : Gh} {w : World} {op : UnOp} {x r : PV} {u : Value} {l1 : Loc} (loc : Loc) (hx : RepT P G w l1 x u) (h : evUn op x = some r) :
    ∃ rv, (Op.unary op u).run P w = .ok rv w ∧ RepT P G w loc r rv := by
  unfold evUn at h
  split at h
  · obtain ⟨hx, -⟩ := hx; cases hx
    cases op <;> simp at h
    subst h; exact ⟨_, rfl, ⟨.bool _, rfl⟩⟩
  · obtain ⟨hx, -⟩ := hx; cases hx
    cases op <;> simp only [Option.some.injEq, reduceCtorEq] at h
    subst h; exact ⟨_, rfl, ⟨.int _ _, rfl⟩⟩
  · cases h

def evConv (P : Program) (dst : TypeId) : PV → Option PV
  | .d (.int k n) => (tyi P dst).bind fun i => i.int.map fun k' => .d (.int k' (k'.wrap n))
  | .d (.str l) => (tyi P dst).bind fun i => if i.str then some (.d (.str l)) else none
  | _ => none
theorem evConv_ok {P : Program} {G : Gh} {w : World} {src dst : TypeId} {x r : PV} {u : Value} {l1 : Loc} (loc : Loc) (hs : (tyi P src).isSome = true) (hx : RepT P G w l1 x u) (h : evConv P dst x = some r) :
    ∃ rv, (convert src dst u).run P w = .ok rv w ∧ RepT P G w loc r rv := by
  obtain ⟨i0, hi0⟩ := Option.isSome_iff_exists.1 hs
  obtain ⟨_, d0, -, hd0, -⟩ := tyi_spec hi0
  unfold evConv at h
  split at h
  · obtain ⟨hx, -⟩ := hx; cases hx
    simp only [Option.bind_eq_some_iff, Option.map_eq_some_iff] at h
    obtain ⟨i, hi, k', hk, rfl⟩ := h
    have hu := tyi_int hi hk
    refine ⟨_, ?_, ⟨.int _ _, rfl⟩⟩
    simp [convert, run_underlying hd0, run_underlying hu, Conv.intToInt]
  · obtain ⟨hx, -⟩ := hx; cases hx
    rename_i l hb
    simp only [Option.bind_eq_some_iff] at h
    obtain ⟨i, hi, h⟩ := h
    split at h
    · rename_i hstr
      cases h
      have hu := tyi_str hi hstr
      refine ⟨_, ?_, ⟨.str _ hb, rfl⟩⟩
      simp [convert, run_underlying hd0, run_underlying hu]
    · cases h
  · cases h

def u8s : List PD → Option (List UInt8)
  | [] => some []
  | .int .u8 n :: l => if 0 ≤ n ∧ n < 256 then (u8s l).map (UInt8.ofNat n.toNat :: ·) else none
  | _ => none
theorem u8s_get : ∀ {l : List PD} {bs : List UInt8}, u8s l = some bs → bs.length = l.length ∧ ∀ (j : Nat) b, bs[j]? = some b → l[j]? = some (.int .u8 (b.toNat : Int))
  | [], bs, h => by simp [u8s] at h; subst h; exact ⟨rfl, fun j b h => by simp at h⟩
  | x :: l, bs, h => by
    unfold u8s at h
    split at h
    · rename_i e; cases e
    · rename_i n l' e
      cases e
      split at h
      · rename_i hn
        obtain ⟨bs', h1, rfl⟩ := Option.map_eq_some_iff.1 h
        obtain ⟨h2, h3⟩ := u8s_get h1
        refine ⟨by simp [h2], fun j b hj => ?_⟩
        cases j with
        | zero =>
          simp at hj; subst hj
          have : (UInt8.ofNat n.toNat).toNat = n.toNat := by simp [UInt8.toNat_ofNat']; omega
          simp [this]; omega
        | succ j => simp at hj ⊢; exact h3 j b hj
      · cases h
    · cases h
def evConv2 (P : Program) (src dst : TypeId) (x : PV) : Option PV :=
  match x.list with
  | some (sz, l) => (tyi P src).bind fun si => si.el.bind fun e => (tyi P e).bind fun te => (tyi P dst).bind fun i => (u8s l).bind fun bs =>
      if te.int = some .u8 ∧ i.str = true ∧ sz = 1 ∧ l ≠ [] then some (.d (.str bs)) else none
  | none => evConv P dst x
theorem flat_ints : ∀ {l : List PD} {bs : List UInt8}, u8s l = some bs → flat l = l
  | [], _, _ => rfl
  | x :: l, bs, h => by
    unfold u8s at h
    split at h
    · rename_i e; cases e
    · rename_i n l' e
      cases e
      split at h
      · obtain ⟨bs', h1, -⟩ := Option.map_eq_some_iff.1 h
        rw [flat_cons, flat_ints h1]; rfl
      · cases h
    · cases h
theorem evConv2_ok {P : Program} {G : Gh} {w : World} {src dst : TypeId} {x r : PV} {u : Value} {l1 : Loc} (loc : Loc) (hs : (tyi P src).isSome = true) (hx : RepT P G w l1 x u) (h : evConv2 P src dst x = some r) :
    ∃ rv, (convert src dst u).run P w = .ok rv w ∧ RepT P G w loc r rv := by
  unfold evConv2 at h
  split at h
  · rename_i sz l hl
    simp only [Option.bind_eq_some_iff] at h
    obtain ⟨si, hsi, e, he, te, hte, i, hi, bs, hbs, h⟩ := h
    split at h
    · rename_i hc
      obtain ⟨hu8, hstr, rfl, hne⟩ := hc
      cases h
      have hd := hx.list hl
      obtain ⟨hbl, hbg⟩ := u8s_get hbs
      rcases hd.sl_shape with ⟨h1, -⟩ | ⟨g, o, c, rfl, hlc, hu, hrun⟩ | ⟨h1, -⟩
      · exact absurd h1 hne
      rotate_left
      · exact absurd h1 hne
      obtain ⟨vs, hv1, hv2, hv3, hv4⟩ := hrun
      rw [flat_ints hbs] at hv1 hv4
      have hrun := run_convert_bytes_back (P := P) w src dst e ⟨g, o, none⟩ c bs (tyi_el hsi he) (tyi_int hte hu8) (tyi_str hi hstr) (fun j hj => by
        have hj2 : j < vs.length := by omega
        have hlj := hbg j _ (List.getElem?_eq_getElem hj)
        have hr := hv4 j _ _ hlj (List.getElem?_eq_getElem hj2)
        have hcell := (hv3 j _ (List.getElem?_eq_getElem hj2)).2
        generalize vs[j] = z at hr hcell
        cases hr
        rw [Addr.add_lit]; exact hcell)
      rw [hbl] at hrun
      exact ⟨_, hrun, ⟨.str _ (by rw [hbl]; exact hd.len), rfl⟩⟩
    · cases h
  · exact evConv_ok loc hs hx h
def evIdxAddr (P : Program) (t : TypeId) (x i : PV) : Option PV :=
  match x.list, i with
  | some (sz, l), .d (.int _ n) => (tyi P t).bind fun ti => ti.el.bind fun e => (tyi P e).bind fun te =>
      if te.sz = sz ∧ 0 ≤ n then (l[n.toNat]?).map fun y => .eptr y.cells else none
  | _, _ => none
theorem evIdxAddr_ok {P : Program} {G : Gh} {w : World} {t : TypeId} {x y r : PV} {u v : Value} {l1 l2 : Loc} (loc : Loc) (hx : RepT P G w l1 x u) (hy : RepT P G w l2 y v) (h : evIdxAddr P t x y = some r) :
    ∃ rv, (Instr.indexAt t u v).run P w = .ok rv w ∧ RepT P G w loc r rv := by
  unfold evIdxAddr at h
  split at h
  · rename_i sz l k n hl
    obtain ⟨hy, -⟩ := hy; cases hy
    have hd := hx.list hl
    simp only [Option.bind_eq_some_iff] at h
    obtain ⟨ti, hti, e, he, te, hte, h⟩ := h
    split at h
    · rename_i hc
      obtain ⟨rfl, hn⟩ := hc
      simp only [Option.map_eq_some_iff] at h
      obtain ⟨y, hy, rfl⟩ := h
      obtain ⟨hlt, hy'⟩ := List.getElem?_eq_some_iff.1 hy
      rcases hd.sl_shape with ⟨rfl, -⟩ | ⟨g, o, c, rfl, hlc, hu, hrun⟩ | ⟨rfl, -⟩
      · simp at hlt
      rotate_left
      · simp at hlt
      · have hel := tyi_el hti he
        refine ⟨.pointer (some ⟨g, o + n.toNat * te.sz, none⟩), ?_, ⟨g, _, rfl, ?_⟩⟩
        · have hlt' : n < (l.length : Int) := by omega
          simp [Instr.indexAt, asIntOf, run_underlying hel, hn, hlt', tyi_size hte, Addr.add_lit]
        · have := (hrun.drop (n.toNat * te.sz)).take te.sz
          rwa [flat_elem hu hy] at this
    · cases h
  · cases h

def evIdxR (P : Program) (t : TypeId) (b : BN) (sz m : Nat) (i : PV) : Option PV :=
  match i with
  | .d (.int _ n) => (tyi P t).bind fun ti => ti.el.bind fun e => (tyi P e).bind fun te => if te.sz = sz ∧ 0 ≤ n ∧ n < (m : Int) then some (.ptr b (n.toNat * sz)) else none
  | _ => none
def evIdxZ (P : Program) (t : TypeId) (sz : Nat) (l : List PD) (i : PV) : Option PV :=
  match i with
  | .d (.int _ n) => (tyi P t).bind fun ti => ti.el.bind fun e => (tyi P e).bind fun te =>
      if te.sz = sz ∧ 0 ≤ n then (l[n.toNat]?).map fun y => .zp y.cells else none
  | _ => none
theorem evIdxZ_ok {P : Program} {G : Gh} {w : World} {t : TypeId} {sz : Nat} {l : List PD} {y r : PV} {u v : Value} {l1 l2 : Loc} (loc : Loc) (hx : RepT P G w l1 (.zs (.sl sz l)) u) (hy : RepT P G w l2 y v) (h : evIdxZ P t sz l y = some r) :
    ∃ rv, (Instr.indexAt t u v).run P w = .ok rv w ∧ RepT P G w loc r rv := by
  unfold evIdxZ at h
  split at h
  · rename_i k n
    obtain ⟨hy, -⟩ := hy; cases hy
    obtain ⟨hx, -⟩ := hx
    simp only [Option.bind_eq_some_iff] at h
    obtain ⟨ti, hti, e, he, te, hte, h⟩ := h
    split at h
    · rename_i hc
      obtain ⟨rfl, hn⟩ := hc
      simp only [Option.map_eq_some_iff] at h
      obtain ⟨y, hy, rfl⟩ := h
      obtain ⟨hlt, hy'⟩ := List.getElem?_eq_some_iff.1 hy
      have hel := tyi_el hti he
      cases hx with
      | sc _ _ hx => cases hx
      | nil => simp at hlt
      | emp => simp at hlt
      | sl _ _ g o c vs hb hcc hu hs hl hv hr =>
        refine ⟨.pointer (some ⟨g, o + n.toNat * te.sz, none⟩), ?_, ⟨g, _, rfl, ?_⟩⟩
        · have hlt' : n < (l.length : Int) := by omega
          simp [Instr.indexAt, asIntOf, run_underlying hel, hn, hlt', tyi_size hte, Addr.add_lit]
        · have hfe := flat_elem hu hy
          have hyl : y.cells.length = te.sz := hu y (List.mem_of_getElem? hy)
          have hall : (n.toNat + 1) * te.sz ≤ (flat l).length := by rw [flat_length hu]; exact Nat.mul_le_mul_right _ hlt
          rw [Nat.add_mul, Nat.one_mul] at hall
          refine ⟨(vs.drop (n.toNat * te.sz)).take te.sz, by simp; omega, fun x hx => hs x ?_, fun i v hi => ?_, fun i x v hx hi => ?_⟩
          · rw [← hfe] at hx; exact List.mem_of_mem_drop (List.mem_of_mem_take hx)
          · rw [List.getElem?_take] at hi
            split at hi
            · rw [List.getElem?_drop] at hi
              have := hv _ v hi
              rwa [← Nat.add_assoc] at this
            · cases hi
          · rw [← hfe, List.getElem?_take] at hx
            rw [List.getElem?_take] at hi
            split at hi
            · rename_i hlt2
              rw [if_pos hlt2, List.getElem?_drop] at hx
              rw [List.getElem?_drop] at hi
              exact hr _ x v hx hi
            · cases hi
    · cases h
  · cases h
def evIA (P : Program) (t : TypeId) (x i : PV) : Option PV :=
  match x with
  | .rsl b _ sz m => evIdxR P t b sz m i
  | .rsv b sz m => evIdxR P t b sz m i
  | .zs (.sl sz l) => evIdxZ P t sz l i
  | x => evIdxAddr P t x i
theorem evIA_ok {P : Program} {G : Gh} {w : World} {t : TypeId} {x y r : PV} {u v : Value} {l1 l2 : Loc} (loc : Loc) (hx : RepT P G w l1 x u) (hy : RepT P G w l2 y v) (h : evIA P t x y = some r) :
    ∃ rv, (Instr.indexAt t u v).run P w = .ok rv w ∧ RepT P G w loc r rv := by
  unfold evIA at h
  split at h
  · rename_i b e sz m
    unfold evIdxR at h
    split at h
    · rename_i k n
      obtain ⟨hy, -⟩ := hy; cases hy
      obtain ⟨hv, hl, -⟩ := hx
      simp only [Option.bind_eq_some_iff] at h
      obtain ⟨ti, hti, e', he, te, hte, h⟩ := h
      split at h
      · rename_i hc
        obtain ⟨rfl, hn, hlt⟩ := hc
        cases h
        have hel := tyi_el hti he
        refine ⟨_, ?_, rfl, hl⟩
        rw [hv]
        simp [Instr.indexAt, asIntOf, run_underlying hel, hn, hlt, tyi_size hte, Addr.add_lit]
      · cases h
    · cases h
  · rename_i b sz m
    unfold evIdxR at h
    split at h
    · rename_i k n
      obtain ⟨hy, -⟩ := hy; cases hy
      obtain ⟨c, hnc, hv, hl, -⟩ := hx
      simp only [Option.bind_eq_some_iff] at h
      obtain ⟨ti, hti, e', he, te, hte, h⟩ := h
      split at h
      · rename_i hc
        obtain ⟨rfl, hn, hlt⟩ := hc
        cases h
        have hel := tyi_el hti he
        refine ⟨_, ?_, rfl, hl⟩
        rw [hv]
        simp [Instr.indexAt, asIntOf, run_underlying hel, hn, hlt, tyi_size hte, Addr.add_lit]
      · cases h
    · cases h
  · exact evIdxZ_ok loc hx hy h
  · exact evIdxAddr_ok loc hx hy h

def evIdx (P : Program) (t : TypeId) (x i : PV) : Option PV :=
  match x, i with
  | .d (.str l), .d (.int _ n) => (tyi P t).bind fun ti => if ti.str = true ∧ 0 ≤ n then (l[n.toNat]?).map fun b => .d (.int .u8 (b.toNat : Int)) else none
  | _, _ => none
theorem evIdx_ok {P : Program} {G : Gh} {w : World} {t : TypeId} {x y r : PV} {u v : Value} {l1 l2 : Loc} (loc : Loc) (hx : RepT P G w l1 x u) (hy : RepT P G w l2 y v) (h : evIdx P t x y = some r) :
    ∃ rv, (Instr.index t u v).run P w = .ok rv w ∧ RepT P G w loc r rv := by
  unfold evIdx at h
  split at h
  · obtain ⟨hy, -⟩ := hy; cases hy
    obtain ⟨hx, -⟩ := hx; cases hx
    rename_i l k n hb
    simp only [Option.bind_eq_some_iff] at h
    obtain ⟨ti, hti, h⟩ := h
    split at h
    · rename_i hc
      obtain ⟨hs, hn⟩ := hc
      simp only [Option.map_eq_some_iff] at h
      obtain ⟨b, hb', rfl⟩ := h
      have hu := tyi_str hti hs
      refine ⟨_, ?_, ⟨.int _ _, rfl⟩⟩
      have hg : (⟨l.toArray⟩ : ByteArray)[n.toNat]? = some b := by
        obtain ⟨hlt, rfl⟩ := List.getElem?_eq_some_iff.1 hb'
        have hsz : n.toNat < (⟨l.toArray⟩ : ByteArray).size := by simpa [ByteArray.size] using hlt
        rw [ByteArray.getElem?_lt' _ _ hsz]
        rfl
      simp [Instr.index, asIntOf, run_underlying hu, hn, hg]
    · cases h
  · cases h

def evFldAddr (P : Program) (t : TypeId) (f : Nat) : PV → Option PV
  | .ptr b o => (tyi P t).bind fun i => (i.fl[f]?.getD none).bind fun q => if q.2.1 = 0 then none else some (.ptr b (o + q.1))
  | .eptr cs => (tyi P t).bind fun i => (i.fl[f]?.getD none).bind fun q => if q.2.1 = 0 then none else some (.eptr (cs.drop q.1))
  | .zp cs => (tyi P t).bind fun i => (i.fl[f]?.getD none).bind fun q => if q.2.1 = 0 then none else some (.zp (cs.drop q.1))
  | _ => none
theorem ZRun.drop {S : Nat → Prop} {w : World} {g o : Nat} {cells : List PD} (h : ZRun S w g o cells) (n : Nat) : ZRun S w g (o + n) (cells.drop n) := by
  obtain ⟨vs, hl, hs, hv, hr⟩ := h
  refine ⟨vs.drop n, by simp [hl], fun x hx => hs x (List.mem_of_mem_drop hx), fun i v hi => ?_, fun i x v hx hy => ?_⟩
  · rw [List.getElem?_drop] at hi
    have := hv _ _ hi
    rwa [← Nat.add_assoc] at this
  · rw [List.getElem?_drop] at hx hy
    exact hr _ _ _ hx hy
theorem run_fieldAt {P : Program} {w : World} {t : TypeId} {f : Nat} {i : TI} {q : Nat × Nat × Bool} (hi : tyi P t = some i) (hq : i.fl[f]?.getD none = some q) (h0 : q.2.1 ≠ 0) (g o : Nat) :
    (Instr.fieldAt t (.pointer (some ⟨g, o, none⟩)) f).run P w = .ok (.pointer (some ⟨g, o + q.1, none⟩)) w := by
  obtain ⟨off, sz, ag⟩ := q
  have hq' : i.fl[f]? = some (some (off, sz, ag)) := by
    cases hh : i.fl[f]? <;> simp [hh] at hq
    exact congrArg some hq
  obtain ⟨fs, fd, h1, h2, h3, h4, h5⟩ := tyi_fl hi hq'
  simp only at h0
  simp [Instr.fieldAt, run_underlying h1, h2, Instr.sureAddr, fieldPlace, h4, h0, Addr.add_lit, h3]
theorem evFldAddr_ok {P : Program} {G : Gh} {w : World} {t : TypeId} {f : Nat} {x r : PV} {u : Value} {l1 : Loc} (loc : Loc) (hx : RepT P G w l1 x u) (h : evFldAddr P t f x = some r) :
    ∃ rv, (Instr.fieldAt t u f).run P w = .ok rv w ∧ RepT P G w loc r rv := by
  unfold evFldAddr at h
  split at h
  · obtain ⟨rfl, hl⟩ := hx
    simp only [Option.bind_eq_some_iff] at h
    obtain ⟨i, hi, q, hq, h⟩ := h
    split at h
    · cases h
    · rename_i h0
      cases h
      exact ⟨_, run_fieldAt hi hq h0 _ _, rfl, hl⟩
  · obtain ⟨g, o, rfl, hr⟩ := hx
    simp only [Option.bind_eq_some_iff] at h
    obtain ⟨i, hi, q, hq, h⟩ := h
    split at h
    · cases h
    · rename_i h0
      cases h
      exact ⟨_, run_fieldAt hi hq h0 _ _, g, _, rfl, hr.drop _⟩
  · obtain ⟨g, o, rfl, hr⟩ := hx
    simp only [Option.bind_eq_some_iff] at h
    obtain ⟨i, hi, q, hq, h⟩ := h
    split at h
    · cases h
    · rename_i h0
      cases h
      exact ⟨_, run_fieldAt hi hq h0 _ _, g, _, rfl, ZRun.drop hr _⟩
  · cases h

def evFld (P : Program) (t : TypeId) (f : Nat) : PV → Option PV
  | .agg l => (tyi P t).bind fun i => (i.fl[f]?.getD none).bind fun q => if q.2.2 then (if q.1 + q.2.1 ≤ l.length then some (.agg (((l.drop q.1).take q.2.1).map PV.bC)) else none) else (l[q.1]?).map PV.bC
  | _ => none
theorem RepC.toT {P : Program} {G : Gh} {w : World} {p : Pos} {x : PV} {v : Value} (h : RepC P G w p x v) (loc : Loc) (hp : p = (loc, 0, 0)) : RepT P G w loc x v := by
  subst hp
  cases x <;> first | exact h | (simp only [RepC] at h)
theorem evFld_ok {P : Program} {G : Gh} {w : World} {t : TypeId} {f : Nat} {x r : PV} {u : Value} {l1 : Loc} (loc : Loc) (hx : RepT P G w l1 x u) (h : evFld P t f x = some r) :
    ∃ rv, (Instr.field t u f).run P w = .ok rv w ∧ RepT P G w loc r rv := by
  unfold evFld at h
  split at h
  · rename_i l
    obtain ⟨cs, rfl, hsz, h1, hr⟩ := hx
    simp only [Option.bind_eq_some_iff] at h
    obtain ⟨i, hi, q, hq, h⟩ := h
    obtain ⟨off, sz, ag⟩ := q
    have hq' : i.fl[f]? = some (some (off, sz, ag)) := by
      cases hh : i.fl[f]? <;> simp [hh] at hq
      exact congrArg some hq
    obtain ⟨fs, fd, k1, k2, k3, k4, k5⟩ := tyi_fl hi hq'
    cases ag
    · simp only [Bool.false_eq_true, if_false, Option.map_eq_some_iff] at h
      obtain ⟨y, hy, rfl⟩ := h
      have hlt : off < cs.size := by rw [hsz]; exact (List.getElem?_eq_some_iff.1 hy).1
      have hc : cs[off]? = some cs[off] := Array.getElem?_eq_getElem hlt
      refine ⟨cs[off], ?_, ((hr off y _ hy hc).bC (loc, 0, 0)).toT loc rfl⟩
      simp [Instr.field, run_underlying k1, k2, asAgg, part, k5, k3, hc]
    · simp only [if_true] at h
      split at h
      · rename_i hle
        cases h
        refine ⟨.agg (cs.extract off (off + sz)), ?_, ⟨_, rfl, ?_, ?_, ?_⟩⟩
        · simp [Instr.field, run_underlying k1, k2, asAgg, part, k5, k3, k4]
        · simp; omega
        · intro u hu
          obtain ⟨j, hj, rfl⟩ := Array.mem_iff_getElem.1 hu
          rw [Array.getElem_extract]
          exact h1 _ (Array.getElem_mem _)
        · intro j x u hx hu
          rw [List.getElem?_map] at hx
          obtain ⟨y, hy, rfl⟩ := Option.map_eq_some_iff.1 hx
          rw [List.getElem?_take] at hy
          split at hy
          · rename_i hj
            rw [List.getElem?_drop] at hy
            rw [Array.getElem?_extract] at hu
            split at hu
            · exact (hr _ _ _ hy hu).bC _
            · cases hu
          · cases hy
      · cases h
  · cases h

def evLen (P : Program) (t : TypeId) (x : PV) : Option PV :=
  match x with
  | .d (.str l) => (tyi P t).bind fun i => if i.str then some (.int l.length) else none
  | .nilS => (tyi P t).bind fun i => i.el.map fun _ => .int 0
  | .rsl _ _ _ n => (tyi P t).bind fun i => i.el.map fun _ => .int n
  | .rsv _ _ n => (tyi P t).bind fun i => i.el.map fun _ => .int n
  | .zs (.sl _ l) => (tyi P t).bind fun i => i.el.map fun _ => .int l.length
  | x => x.list.bind fun q => (tyi P t).bind fun i => i.el.map fun _ => .int q.2.length
theorem evLen_ok {P : Program} {G : Gh} {w : World} {t ty : TypeId} {x r : PV} {u : Value} {l1 : Loc} (loc : Loc) (hx : RepT P G w l1 x u) (h : evLen P t x = some r) :
    ∃ rv, (Builtin.len_ #[t] ty #[u]).run P w = .ok rv w ∧ RepT P G w loc r rv := by
  unfold evLen at h
  split at h
  · obtain ⟨hx, -⟩ := hx; cases hx
    rename_i l hb
    simp only [Option.bind_eq_some_iff] at h
    obtain ⟨i, hi, h⟩ := h
    split at h
    · rename_i hs
      cases h
      have hu := tyi_str hi hs
      refine ⟨_, ?_, ⟨.int _ _, rfl⟩⟩
      rw [run_len_string _ _ _ _ hu]
      simp [goInt, ByteArray.size]
    · cases h
  · simp only [Option.bind_eq_some_iff, Option.map_eq_some_iff] at h
    obtain ⟨i, hi, e, he, rfl⟩ := h
    have hu := tyi_el hi he
    obtain rfl : u = .slice none 0 0 := hx
    refine ⟨_, ?_, ⟨.int _ _, rfl⟩⟩
    simp [Builtin.len_, run_underlying hu, goInt]
  · simp only [Option.bind_eq_some_iff, Option.map_eq_some_iff] at h
    obtain ⟨i, hi, e, he, rfl⟩ := h
    have hu := tyi_el hi he
    obtain ⟨hv, -⟩ := hx
    refine ⟨_, ?_, ⟨.int _ _, rfl⟩⟩
    rw [hv]
    simp [Builtin.len_, run_underlying hu, goInt]
  · simp only [Option.bind_eq_some_iff, Option.map_eq_some_iff] at h
    obtain ⟨i, hi, e, he, rfl⟩ := h
    have hu := tyi_el hi he
    obtain ⟨c, -, hv, -⟩ := hx
    refine ⟨_, ?_, ⟨.int _ _, rfl⟩⟩
    rw [hv]
    simp [Builtin.len_, run_underlying hu, goInt]
  · simp only [Option.bind_eq_some_iff, Option.map_eq_some_iff] at h
    obtain ⟨i, hi, e, he, rfl⟩ := h
    have hu := tyi_el hi he
    obtain ⟨hx, -⟩ := hx
    rename_i sz l
    have key : ∃ a c, u = .slice a l.length c := by
      cases hx with
      | sc _ _ hx => cases hx
      | nil => exact ⟨_, _, rfl⟩
      | emp => exact ⟨_, _, rfl⟩
      | sl => exact ⟨_, _, rfl⟩
    obtain ⟨a, c, rfl⟩ := key
    refine ⟨.int .i64 l.length, ?_, ⟨.int _ _, rfl⟩⟩
    simp [Builtin.len_, run_underlying hu, goInt]
  · simp only [Option.bind_eq_some_iff, Option.map_eq_some_iff] at h
    obtain ⟨⟨sz, l⟩, hl, i, hi, e, he, rfl⟩ := h
    have hu := tyi_el hi he
    have hd := hx.list hl
    refine ⟨.int .i64 l.length, ?_, ⟨.int _ _, rfl⟩⟩
    rcases hd.sl_shape with ⟨rfl, rfl⟩ | ⟨g, o, c, rfl, -⟩ | ⟨rfl, a, c, rfl⟩
    rotate_left 2
    · simp [Builtin.len_, run_underlying hu, goInt]
    · simp [Builtin.len_, run_underlying hu, goInt]
    · simp [Builtin.len_, run_underlying hu, goInt]

end Go.Bee


namespace Go.Bee
set_option linter.unusedVariables false

def PV.int? : PV → Option Int
  | .d (.int _ n) => some n
  | _ => none
def sb (lo hi : Option PV) (n : Nat) : Option (Nat × Nat) :=
  (match hi with | none => some n | some p => p.int?.bind fun k => if 0 ≤ k ∧ k ≤ (n : Int) then some k.toNat else none).bind fun h =>
    (match lo with | none => some 0 | some p => p.int?.bind fun k => if 0 ≤ k ∧ k ≤ (h : Int) then some k.toNat else none).map fun l => (l, h)
def RepO (P : Program) (G : Gh) (w : World) : Option PV → Option Value → Prop
  | none, none => True
  | some p, some v => ∃ l, RepT P G w l p v
  | _, _ => False
theorem run_sb {P : Program} {G : Gh} {w : World} {lo hi : Option PV} {lv hv : Option Value} {n cap : Nat} {a b : Nat} (isS : Bool) (hl : RepO P G w lo lv) (hh : RepO P G w hi hv) (hc : n ≤ cap)
    (h : sb lo hi n = some (a, b)) : (Instr.sliceBounds isS n cap lv hv none).run P w = .ok (a, b, cap) w ∧ a ≤ b ∧ b ≤ n := by
  unfold sb at h
  simp only [Option.bind_eq_some_iff, Option.map_eq_some_iff, Prod.mk.injEq] at h
  obtain ⟨h', h1, l', h2, rfl, rfl⟩ := h
  have key : ∀ (p : PV) (v : Value) (m q : Nat) (code : BoundsCode), (∃ l, RepT P G w l p v) → (p.int?.bind fun k => if 0 ≤ k ∧ k ≤ (m : Int) then some k.toNat else none) = some q →
      (∀ M, m ≤ M → (Instr.sliceBound v M code).run P w = .ok q w) ∧ q ≤ m := by
    intro p v m q code ⟨l, hp⟩ hq
    simp only [Option.bind_eq_some_iff] at hq
    obtain ⟨k, hk, hq⟩ := hq
    cases p <;> simp only [PV.int?, reduceCtorEq] at hk
    rename_i y
    cases y <;> simp only [reduceCtorEq, Option.some.injEq] at hk
    subst hk
    obtain ⟨hp, -⟩ := hp; cases hp
    rename_i kk k
    split at hq
    · rename_i hc
      cases hq
      refine ⟨fun M hM => ?_, by omega⟩
      have h3 : k ≤ (M : Int) := by omega
      simp [Instr.sliceBound, asIntOf, hc.1, h3]
    · cases hq
  cases hi with
  | none =>
    cases hv with
    | some v => exact hh.elim
    | none =>
      simp only [Option.some.injEq] at h1
      subst h1
      cases lo with
      | none =>
        cases lv with
        | some v => exact hl.elim
        | none =>
          simp only [Option.some.injEq] at h2
          subst h2
          exact ⟨by simp [Instr.sliceBounds], by omega, by omega⟩
      | some p =>
        cases lv with
        | none => exact hl.elim
        | some v =>
          obtain ⟨k1, k2⟩ := key p v n _ .sliceB hl h2
          refine ⟨?_, k2, Nat.le_refl _⟩
          simp [Instr.sliceBounds, k1 n (Nat.le_refl _)]
  | some ph =>
    cases hv with
    | none => exact hh.elim
    | some v =>
      obtain ⟨k1, k2⟩ := key ph v n _ (if isS then .sliceAcap else .sliceAlen) hh h1
      have k1' := k1 cap hc
      cases lo with
      | none =>
        cases lv with
        | some v => exact hl.elim
        | none =>
          simp only [Option.some.injEq] at h2
          subst h2
          exact ⟨by simp [Instr.sliceBounds, k1'], by omega, k2⟩
      | some p =>
        cases lv with
        | none => exact hl.elim
        | some u =>
          obtain ⟨q1, q2⟩ := key p u h' _ .sliceB hl h2
          refine ⟨?_, q2, k2⟩
          simp [Instr.sliceBounds, k1', q1 _ (Nat.le_refl _)]

def evSliceR (P : Program) (t : TypeId) (b : BN) (e sz m : Nat) (lo hi : Option PV) : Option PV :=
  (tyi P t).bind fun i => i.el.bind fun e' => (tyi P e').bind fun te => if te.sz = sz ∧ sb lo hi m = some (0, m) then some (.rsl b e sz m) else none
def evSlice (P : Program) (t : TypeId) (x : PV) (lo hi : Option PV) : Option PV :=
  match x with
  | .rsl b e sz m => evSliceR P t b e sz m lo hi
  | .d (.str s) => (tyi P t).bind fun i => if i.str = true then (sb lo hi s.length).map fun q => .d (.str ((s.take q.2).drop q.1)) else none
  | x => x.list.bind fun s => (tyi P t).bind fun i => i.el.bind fun e => (tyi P e).bind fun te => if te.sz = s.1 then (sb lo hi s.2.length).map fun q => .d (.sl s.1 ((s.2.take q.2).drop q.1)) else none
theorem evSlice_ok {P : Program} {G : Gh} {w : World} {t : TypeId} {x r : PV} {u : Value} {l1 : Loc} (loc : Loc) {lo hi : Option PV} {lv hv : Option Value} (hx : RepT P G w l1 x u) (hlo : RepO P G w lo lv) (hhi : RepO P G w hi hv)
    (h : evSlice P t x lo hi = some r) : ∃ rv, (Instr.sliceAt t u lv hv none).run P w = .ok rv w ∧ RepT P G w loc r rv := by
  unfold evSlice at h
  split at h
  · rename_i b e sz m
    unfold evSliceR at h
    obtain ⟨rfl, hlv, hm⟩ := hx
    simp only [Option.bind_eq_some_iff] at h
    obtain ⟨i, hi', e', he, te, hte, h⟩ := h
    split at h
    · rename_i hc
      obtain ⟨rfl, hsb⟩ := hc
      cases h
      have hu := tyi_el hi' he
      obtain ⟨h1, h2, h3⟩ := run_sb (P := P) (w := w) true hlo hhi (Nat.le_refl _) hsb
      refine ⟨.slice (some ⟨G.β b, 0, none⟩) m m, ?_, rfl, hlv, hm⟩
      by_cases h0 : m = 0
      · subst h0
        simp [Instr.sliceAt, Instr.slice, run_underlying hu, h1, tyi_size hte]
      · simp [Instr.sliceAt, Instr.slice, run_underlying hu, h1, tyi_size hte, h0, Addr.add_lit]
    · cases h
  · obtain ⟨hx, -⟩ := hx; cases hx
    rename_i s hb
    simp only [Option.bind_eq_some_iff] at h
    obtain ⟨i, hi', h⟩ := h
    split at h
    · rename_i hs
      simp only [Option.map_eq_some_iff] at h
      obtain ⟨⟨a, b⟩, hab, rfl⟩ := h
      have hu := tyi_str hi' hs
      obtain ⟨h1, h2, h3⟩ := run_sb (P := P) (w := w) false hlo hhi (Nat.le_refl _) hab
      have hsz : (⟨s.toArray⟩ : ByteArray).size = s.length := by simp [ByteArray.size]
      refine ⟨.string ⟨((s.take b).drop a).toArray⟩, ?_, ⟨.str _ (by simp; omega), rfl⟩⟩
      have hx : (⟨s.toArray⟩ : ByteArray).extract a b = ⟨((s.take b).drop a).toArray⟩ := by
        apply ByteArray.ext
        simp [ByteArray.data_extract, List.extract_eq_take_drop, List.drop_take]
      simp [Instr.sliceAt, Instr.slice, run_underlying hu, hsz, h1, hx]
    · cases h
  · simp only [Option.bind_eq_some_iff] at h
    obtain ⟨⟨sz, s⟩, hl, i, hi', e, he, te, hte, h⟩ := h
    split at h
    · rename_i hsz
      simp only at hsz
      subst hsz
      simp only [Option.map_eq_some_iff] at h
      obtain ⟨⟨a, b⟩, hab, rfl⟩ := h
      have hu := tyi_el hi' he
      have hd := hx.list hl
      rcases hd.sl_shape with ⟨rfl, rfl⟩ | ⟨g, o, c, rfl, hlc, huni, hrun⟩ | ⟨rfl, ad, c, rfl⟩
      rotate_left 2
      · obtain ⟨h1, h2, h3⟩ := run_sb (P := P) (w := w) (cap := c) true hlo hhi (by simp) hab
        simp only [List.length_nil] at h1 h3
        obtain rfl : b = 0 := by omega
        obtain rfl : a = 0 := by omega
        refine ⟨.slice (some ad) 0 c, ?_, ⟨by simpa using RepD.emp te.sz ad c, rfl⟩⟩
        by_cases hc0 : c = 0
        · subst hc0; simp [Instr.sliceAt, Instr.slice, run_underlying hu, h1, tyi_size hte]
        · simp [Instr.sliceAt, Instr.slice, run_underlying hu, h1, tyi_size hte, hc0, Addr.add]
      · obtain ⟨h1, h2, h3⟩ := run_sb (P := P) (w := w) true hlo hhi (Nat.le_refl _) hab
        simp only [List.length_nil] at h1 h3
        obtain rfl : b = 0 := by omega
        obtain rfl : a = 0 := by omega
        refine ⟨.slice none 0 0, ?_, ⟨by simpa using RepD.nil te.sz, rfl⟩⟩
        simp [Instr.sliceAt, Instr.slice, run_underlying hu, h1, tyi_size hte]
      · obtain ⟨h1, h2, h3⟩ := run_sb (P := P) (w := w) true hlo hhi hlc hab
        have hbd := hd.len
        by_cases hcl : c = a
        · have hab' : b - a = 0 := by omega
          refine ⟨.slice (some ⟨g, o, none⟩) (b - a) (c - a), ?_, ?_, rfl⟩
          · rw [hcl] at h1 ⊢
            simp [Instr.sliceAt, Instr.slice, run_underlying hu, h1, tyi_size hte]
          · have hnil : (s.take b).drop a = [] := by apply List.drop_eq_nil_of_le; simp; omega
            rw [hnil]
            have := RepD.of_run (S := G.im) (w := w) (sz := te.sz) (l := []) (g := g) (o := o) (c := c - a) (by simp) (by simp) (by simp) ⟨[], by simp [flat_nil], by simp [flat_nil], by simp, by simp [flat_nil]⟩
            rw [hab']
            exact this
        · refine ⟨.slice (some ⟨g, o + a * te.sz, none⟩) (b - a) (c - a), ?_, ?_, rfl⟩
          · simp [Instr.sliceAt, Instr.slice, run_underlying hu, h1, tyi_size hte, hcl, Addr.add_lit]
          · have hlen : ((s.take b).drop a).length = b - a := by simp; omega
            rw [← hlen]
            refine RepD.of_run (by rw [hlen]; omega) (by rw [hlen]; omega) (fun x hx => huni x (List.mem_of_mem_take (List.mem_of_mem_drop hx))) ?_
            have := (hrun.take (b * te.sz)).drop (a * te.sz)
            rwa [flat_take huni, flat_drop (fun x hx => huni x (List.mem_of_mem_take hx))] at this
    · cases h

def bxRead (cells : List PV) (o sz : Nat) (ag : Bool) : Option PV :=
  if ag then (if o + sz ≤ cells.length then some (.agg ((cells.drop o).take sz)) else none) else cells[o]?
theorem BoxAt.cell {P : Program} {G : Gh} {w : World} {b : BN} {cells : List PV} (h : BoxAt P G w b cells) {j : Nat} {x : PV} (hx : cells[j]? = some x) :
    ∃ u, w.cell? ⟨G.β b, j, none⟩ = some u ∧ w.frozen? ⟨G.β b, j, none⟩ = false ∧ u.oneCell' = true ∧ RepC P G w (.b b, 0, j) x u := by
  obtain ⟨cs, e, h1, h2, h3, h4⟩ := h
  have hjl : j < cells.length := (List.getElem?_eq_some_iff.1 hx).1
  have hlt : j < cs.size := by omega
  refine ⟨cs[j], ?_, ?_, h3 j _ hjl (Array.getElem?_eq_getElem hlt), h4 j x _ hx (Array.getElem?_eq_getElem hlt)⟩
  · simp [World.cell?, h1, hlt]
  · simp [World.frozen?, h1]
def LoadRep (P : Program) (G : Gh) (w : World) (b : BN) (o : Nat) (ag : Bool) (r : PV) (rv : Value) : Prop :=
  match r with
  | .agg l => ag = true ∧ ∃ cs : Array Value, rv = .agg cs ∧ cs.size = l.length ∧ (∀ u ∈ cs, u.oneCell' = true) ∧ ∀ (j : Nat) x u, l[j]? = some x → cs[j]? = some u → RepC P G w (.b b, 0, o + j) x u
  | r => ag = false ∧ RepC P G w (.b b, 0, o) r rv ∧ rv.oneCell' = true
theorem run_loadBox {P : Program} {G : Gh} {w : World} {b : BN} {cells : List PV} (h : BoxAt P G w b cells) {t : TypeId} {i : TI} (hi : tyi P t = some i) {o : Nat} {r : PV}
    (hr : bxRead cells o i.sz i.agg = some r) : ∃ rv, (Instr.loadAt t (.pointer (some ⟨G.β b, o, none⟩))).run P w = .ok rv w ∧
      LoadRep P G w b o i.agg r rv := by
  unfold bxRead at hr
  split at hr
  · rename_i hag
    split at hr
    · rename_i hle
      cases hr
      obtain ⟨cs, e, h1, h2, h3, h4⟩ := h
      have hcell : ∀ (j : Nat) v, (cs.extract o (o + i.sz)).toList[j]? = some v → w.cell? ((⟨G.β b, o, none⟩ : Addr).add j) = some v := by
        intro j v hv
        rw [Array.getElem?_toList, Array.getElem?_extract] at hv
        split at hv
        · simp [Addr.add_lit, World.cell?, h1, hv]
        · cases hv
      have hlen : (cs.extract o (o + i.sz)).toList.length = i.sz := by simp; omega
      have hrun := run_loadCells_list (P := P) w ⟨G.β b, o, none⟩ (cs.extract o (o + i.sz)).toList hcell
      rw [hlen, Array.toArray_toList] at hrun
      refine ⟨.agg (cs.extract o (o + i.sz)), ?_, hag, _, rfl, by simp; omega, ?_, ?_⟩
      · simp [Instr.loadAt, Instr.sureAddr, loadVar, tyi_agg hi, tyi_size hi, hag, hrun]
      · intro u hu
        obtain ⟨j, hj, rfl⟩ := Array.mem_iff_getElem.1 hu
        have hj2 : j < i.sz := by simp at hj; omega
        rw [Array.getElem_extract]
        exact h3 (o + j) _ (by omega) (Array.getElem?_eq_getElem (by omega))
      · intro j x u hx hu
        rw [List.getElem?_take] at hx
        split at hx
        · rw [List.getElem?_drop] at hx
          rw [Array.getElem?_extract] at hu
          split at hu
          · exact h4 _ _ _ hx hu
          · cases hu
        · cases hx
    · cases hr
  · rename_i hag
    obtain ⟨u, k1, k2, k3, k4⟩ := h.cell hr
    refine ⟨u, ?_, ?_⟩
    · simp only [Bool.not_eq_true] at hag
      simp [Instr.loadAt, Instr.sureAddr, loadVar, tyi_agg hi, hag, k1]
    · cases r <;> first | exact ⟨by simpa using hag, k4, k3⟩ | (simp only [RepC] at k4)

def evELoad (P : Program) (t : TypeId) (cs : List PD) : Option PV :=
  (tyi P t).bind fun i => if i.agg then (if i.sz ≤ cs.length then some (.agg ((cs.take i.sz).map .d)) else none) else cs.head?.map .d
theorem evELoad_ok {P : Program} {G : Gh} {w : World} {t : TypeId} {cs : List PD} {r : PV} {u : Value} {l1 : Loc} (loc : Loc) (hx : RepT P G w l1 (.eptr cs) u) (h : evELoad P t cs = some r) :
    ∃ rv, (Instr.loadAt t u).run P w = .ok rv w ∧ RepT P G w loc r rv := by
  obtain ⟨g, o, rfl, vs, hl, hs, hv, hr⟩ := hx
  unfold evELoad at h
  simp only [Option.bind_eq_some_iff] at h
  obtain ⟨i, hi, h⟩ := h
  split at h
  · rename_i hag
    split at h
    · rename_i hle
      cases h
      have hcell : ∀ (j : Nat) v, (vs.take i.sz)[j]? = some v → w.cell? ((⟨g, o, none⟩ : Addr).add j) = some v := by
        intro j v hj
        rw [List.getElem?_take] at hj
        split at hj
        · rw [Addr.add_lit]; exact (hv j v hj).2
        · cases hj
      have hrun := run_loadCells_list (P := P) w ⟨g, o, none⟩ (vs.take i.sz) hcell
      have hlen : (vs.take i.sz).length = i.sz := by simp; omega
      rw [hlen] at hrun
      refine ⟨.agg (vs.take i.sz).toArray, ?_, _, rfl, by simp; omega, ?_, ?_⟩
      · simp [Instr.loadAt, Instr.sureAddr, loadVar, tyi_agg hi, tyi_size hi, hag, hrun]
      · intro u hu
        rw [List.mem_toArray] at hu
        obtain ⟨j, hj, rfl⟩ := List.mem_iff_getElem.1 hu
        simp only [List.length_take] at hj
        have hj2 : j < cs.length := by omega
        rw [List.getElem_take]
        exact (hr j cs[j] _ (List.getElem?_eq_getElem hj2) (List.getElem?_eq_getElem _)).oneCell (hs _ (List.getElem_mem hj2))
      · intro j x u hx hu
        rw [List.getElem?_map, List.getElem?_take] at hx
        simp only [List.getElem?_toArray, List.getElem?_take] at hu
        split at hx
        · rename_i hj
          rw [if_pos hj] at hu
          obtain ⟨y, hy, rfl⟩ := Option.map_eq_some_iff.1 hx
          exact ⟨hr j y u hy hu, hs y (List.mem_of_getElem? hy)⟩
        · cases hx
    · cases h
  · rename_i hag
    simp only [Bool.not_eq_true] at hag
    simp only [Option.map_eq_some_iff] at h
    obtain ⟨y, hy, rfl⟩ := h
    cases cs with
    | nil => cases hy
    | cons c rest =>
      cases hy
      cases vs with
      | nil => simp at hl
      | cons v vs' =>
        have h0 := hv 0 v rfl
        refine ⟨v, ?_, hr 0 y v rfl rfl, hs _ (List.mem_cons_self ..)⟩
        simp [Instr.loadAt, Instr.sureAddr, loadVar, tyi_agg hi, hag]
        rw [show (⟨g, o, none⟩ : Addr) = ⟨g, o + 0, none⟩ from rfl, h0.2]

end Go.Bee

