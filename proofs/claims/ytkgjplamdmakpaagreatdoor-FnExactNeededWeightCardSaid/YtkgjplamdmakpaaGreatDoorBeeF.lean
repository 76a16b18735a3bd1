/-
The logic's operations that make memory or write to it. No condition.
-/
import Derived.Test.YtkgjplamdmakpaaGreatDoorBeeE
namespace Go.Bee
set_option linter.unusedVariables false

theorem cell_alloc_lt {w : World} {o : Obj} {b k : Nat} (h : b < w.heap.size) : (w.alloc o).cell? ⟨b, k, none⟩ = w.cell? ⟨b, k, none⟩ := World.cell?_alloc_lt _ _ _ h
theorem BoxAt.lt {P : Program} {G : Gh} {w : World} {b : BN} {cells : List PV} (h : BoxAt P G w b cells) : G.β b < w.heap.size := by
  obtain ⟨cs, e, h1, -⟩ := h
  exact (Array.getElem?_eq_some_iff.1 h1).1
theorem Hp.box {P : Program} {G : Gh} {w : World} {B : Bx} (h : Hp P G w B) {b : BN} (hl : G.live b) : ∃ cells, B b = some cells ∧ BoxAt P G w b cells := by
  obtain ⟨cells, hc⟩ := Option.isSome_iff_exists.1 ((h.live b).1 hl)
  exact ⟨cells, hc, h.bx b cells hc⟩

/-- A step of memory: new blocks, and writes to block z alone. -/
structure MStep (w w' : World) (z : Option Nat) : Prop where
  os : w'.os = w.os
  tape : w'.tape = w.tape
  output : w'.output = w.output
  size : w.heap.size ≤ w'.heap.size
  old : ∀ b, b < w.heap.size → some b ≠ z → w'.heap[b]? = w.heap[b]?
theorem MStep.alloc (w : World) (o : Obj) (z : Option Nat) : MStep w (w.alloc o) z := ⟨rfl, rfl, rfl, by simp, fun b hb _ => heap_alloc_old w o hb⟩
theorem MStep.setRow (w : World) (g : Nat) (cs : Array Value) : MStep w (w.setRow g cs) (some g) :=
  ⟨rfl, rfl, rfl, by simp [World.setRow], fun b _ hb => setRow_other w g b cs (fun e => hb (by rw [e]))⟩
theorem MStep.drew {w w' : World} {z : Option Nat} (h : MStep w.drew w' z) : MStep w w' z := ⟨h.os, h.tape, h.output, h.size, h.old⟩

/-- The ghost's next state, where im grows by cells of new blocks or of the block that is written. -/
theorem Since.next {F : Fr} {G G' : Gh} {w w' : World} {z : Option Nat} (h : Since F G w) (hm : MStep w w' z) (hz : ∀ g, z = some g → F.w0.heap.size ≤ g ∨ F.Wr g) (hk : Keep G.im w G'.im w')
    (hn : ∀ b o, G'.im b o → G.im b o ∨ w.heap.size ≤ b ∨ z = some b) (ho : ∀ g p, G'.own g = some p → (∃ q, G.own g = some q) ∨ w.heap.size ≤ g) (hb : ∀ b, G'.live b → (G.live b ∧ G'.β b = G.β b) ∨ w.heap.size ≤ G'.β b)
    (ha : ∀ k, G'.β (.a k) = G.β (.a k)) (hf : G'.fz = G.fz) : Since F G' w' := by
  have hs := h.ext.size
  refine ⟨h.ext.trans (Wr' := fun g => z = some g) ⟨hm.os, hm.tape, hm.output, hm.size, fun b hb hn => hm.old b hb (fun e => hn e.symm), hk, hn⟩ (fun b hb => hz b hb), fun g p hg => ?_, fun b hl => ?_, fun k => (ha k).trans (h.βa k), fun g hg => h.fz g (by rwa [hf] at hg)⟩
  · rcases ho g p hg with ⟨q, hq⟩ | hlt
    · exact h.own g q hq
    · left; omega
  · rcases hb b hl with ⟨h1, h2⟩ | hlt
    · rw [h2]; exact h.box b h1
    · left; omega
theorem Since.fz_same {F : Fr} {G : Gh} {w w' : World} {z : Option Nat} (h : Since F G w) (hm : MStep w w' z) (hz : ∀ g, z = some g → F.w0.heap.size ≤ g ∨ F.Wr g) : ∀ g, G.fz g → w'.heap[g]? = w.heap[g]? := by
  intro g hg
  obtain ⟨h1, h2⟩ := h.fz g hg
  refine hm.old g (by have := h.ext.size; omega) (fun e => ?_)
  rcases hz g e.symm with h3 | h3
  · omega
  · exact h2 h3

/-- Which positions a move turns into which. -/
def relF (f : Pos → Pos) (p q : Pos) : Prop := q = f p

theorem Rel.newBox {P : Program} {F : Fr} {G : Gh} {st : St} {a : Act} {w : World} (h : Rel P F G st a w) {d : Nat} (hd : d < F.nt) (hb : st.bx (.t d) = none) {cs : Array Value} {e : TypeId} {cells : List PV}
    (f : Pos → Pos) (ts : List Nat) (hf : ∀ t, t ∉ ts → ∀ i j, f (.t t, i, j) = (.t t, i, j)) (hfb : ∀ c j, f (.b c, 0, j) = (.b c, 0, j)) (hsz : cs.size = cells.length) (hone : ∀ u ∈ cs, u.oneCell' = true)
    (hrep : ∀ (j : Nat) x u, cells[j]? = some x → cs[j]? = some u → ∃ p, RepC P G w p x u ∧ f p = (.b (.t d), 0, j)) :
    ∃ G', Rel P F G' (st.upd ts (some d) (.ptr (.t d) 0) (Bx.set st.bx (.t d) cells)) (a.put (some d) (.pointer (some ⟨w.heap.size, 0, none⟩))) (w.alloc (.cells cs e)) := by
  have hnl : ¬ G.live (.t d) := fun hl => by have := (h.hp.live _).1 hl; simp [hb] at this
  have hm : MStep w (w.alloc (.cells cs e)) none := MStep.alloc w _ none
  let G' : Gh := { im := G.im, β := fun c => if c = .t d then w.heap.size else G.β c, live := fun c => c = .t d ∨ G.live c, own := fun g => (G.own g).map f, fz := G.fz }
  have hkeep : Keep G.im w G.im (w.alloc (.cells cs e)) := fun b o hbo => ⟨hbo, cell_alloc_lt (h.hp.imlt b o hbo)⟩
  have hg : GStep G w G' (w.alloc (.cells cs e)) (relF f) := by
    refine ⟨hkeep, fun b hl => ⟨.inr hl, by simp only [G']; rw [if_neg]; intro e; subst e; exact hnl hl⟩, rfl, h.sn.fz_same hm (by simp), by simp, fun g p q hg hq => ⟨?_, heap_alloc_old w _ (h.hp.ownlt g p hg), fun _ h => h⟩⟩
    have : q = f p := hq
    simp [G', hg, this]
  have hβlt : ∀ b, G.live b → G.β b < w.heap.size := fun b hl => by obtain ⟨c, _, hbx⟩ := h.hp.box hl; exact hbx.lt
  refine ⟨G', h.next hg (fun t ht _ i j => (hf t ht i j).symm) (fun d' ed => ?_) (fun d' ed => by cases ed; exact hd) ?_ ?_⟩
  · cases ed
    exact ⟨by simp [G'], .inl rfl⟩
  · refine ⟨fun b bcells hbc => ?_, fun b => ?_, fun b b' hl hl' he => ?_, fun g o hg => ?_, fun g p hg => ?_, fun b hl o => ?_, fun b hl => ?_⟩
    · by_cases hbd : b = .t d
      · subst hbd
        simp only [Bx.set, if_true, Option.some.injEq] at hbc
        subst hbc
        refine ⟨cs, e, by simp only [G', if_true]; exact heap_alloc_new w _, hsz, hone, fun j x u hx hu => ?_⟩
        obtain ⟨p, hp, hfp⟩ := hrep j x u hx hu
        exact hp.step hg hfp.symm
      · simp only [Bx.set, hbd, if_false] at hbc
        have hl := (h.hp.live b).2 (by simp [hbc])
        exact (h.hp.bx b bcells hbc).step hg hl (fun j => (hfb b j).symm) (heap_alloc_old w _ (hβlt b hl))
    · simp only [G', Bx.set]
      by_cases hbd : b = .t d
      · simp [hbd]
      · simp [hbd, h.hp.live b]
    · simp only [G'] at he hl hl'
      by_cases h1 : b = .t d <;> by_cases h2 : b' = .t d
      · rw [h1, h2]
      · have hl2 := hl'.resolve_left h2
        have := hβlt b' hl2
        simp [h1, h2] at he; omega
      · have hl2 := hl.resolve_left h1
        have := hβlt b hl2
        simp [h1, h2] at he; omega
      · simp only [h1, h2, if_false] at he
        exact h.hp.inj b b' (hl.resolve_left h1) (hl'.resolve_left h2) he
    · have := h.hp.imlt g o hg; simp; omega
    · simp only [G', Option.map_eq_some_iff] at hg
      obtain ⟨q, hq, _⟩ := hg
      have := h.hp.ownlt g q hq; simp; omega
    · intro him
      by_cases hbd : b = .t d
      · simp only [G', hbd, if_true] at him
        have := h.hp.imlt _ _ him; omega
      · simp only [G', hbd, if_false] at him
        exact h.hp.boxim b (hl.resolve_left hbd) o him
    · by_cases hbd : b = .t d
      · simp only [G', hbd, if_true, Option.map_eq_none_iff]
        cases ho : G.own w.heap.size with
        | none => rfl
        | some p => have := h.hp.ownlt _ _ ho; omega
      · simp only [G', hbd, if_false, Option.map_eq_none_iff]
        exact h.hp.boxown b (hl.resolve_left hbd)
  · refine h.sn.next hm (by simp) hkeep (fun b o hbo => .inl hbo) (fun g p hg => ?_) (fun b hl => ?_) (fun k => by simp [G']) rfl
    · simp only [G', Option.map_eq_some_iff] at hg
      obtain ⟨q, hq, _⟩ := hg
      exact .inl ⟨q, hq⟩
    · by_cases hbd : b = .t d
      · right; simp [G', hbd]
      · left; exact ⟨hl.resolve_left hbd, by simp [G', hbd]⟩

/-- A write to a variable in memory. -/
theorem Rel.store {P : Program} {F : Fr} {G : Gh} {st : St} {a : Act} {w : World} (h : Rel P F G st a w) {b : BN} {o : Nat} {cells new : List PV} (hb : st.bx b = some cells) {vs : List Value}
    (f : Pos → Pos) (ts : List Nat) (hf : ∀ t, t ∉ ts → ∀ i j, f (.t t, i, j) = (.t t, i, j)) (hfb : ∀ c j, f (.b c, 0, j) = (.b c, 0, j)) (hsz : vs.length = new.length) (hfit : o + new.length ≤ cells.length) (hone : ∀ u ∈ vs, u.oneCell' = true)
    (hrep : ∀ (j : Nat) x u, new[j]? = some x → vs[j]? = some u → ∃ p, RepC P G w p x u ∧ f p = (.b b, 0, o + j)) :
    ∃ G' w', (storeCells ⟨G.β b, o, none⟩ vs 0).run P w = .ok () w' ∧ Rel P F G' (st.upd ts none .junk (Bx.set st.bx b (cells.take o ++ new ++ cells.drop (o + new.length)))) (a.put none undef) w' := by
  have hl : G.live b := (h.hp.live b).2 (by simp [hb])
  obtain ⟨cs, e, h1, h2, h3, h4⟩ := h.hp.bx b cells hb
  have hrun := run_storeCells_at P (G.β b) o e vs 0 cs w h1 (by omega) hone
  simp only [Nat.add_zero] at hrun
  generalize hcs' : (cs.toList.take o ++ vs ++ cs.toList.drop (o + vs.length)).toArray = cs' at hrun
  have hm : MStep w (w.setRow (G.β b) cs') (some (G.β b)) := MStep.setRow w _ _
  have hzb : ∀ g, some (G.β b) = some g → F.w0.heap.size ≤ g ∨ F.Wr g := fun g hg => by cases hg; exact h.sn.box b hl
  have hkeep : Keep G.im w G.im (w.setRow (G.β b) cs') := fun g k hgk => ⟨hgk, by
    have hne : g ≠ G.β b := fun e => h.hp.boxim b hl k (e ▸ hgk)
    exact World.cell?_of_block (w := w) (w' := w.setRow (G.β b) cs') (a := ⟨g, k, none⟩) (setRow_other w _ g cs' hne)⟩
  have hg : GStep G w (G.relabel f) (w.setRow (G.β b) cs') (relF f) := by
    refine ⟨hkeep, fun b hl => ⟨hl, rfl⟩, rfl, h.sn.fz_same hm hzb, hm.size, fun g p q hg hq => ⟨?_, ?_, fun _ h => h⟩⟩
    · have : q = f p := hq
      simp [Gh.relabel, hg, this]
    · refine setRow_other w _ g cs' (fun e => ?_)
      have := h.hp.boxown b hl
      rw [← e, hg] at this; cases this
  refine ⟨G.relabel f, _, hrun, h.next hg (fun t ht _ i j => (hf t ht i j).symm) (fun d' ed => by cases ed) (fun d' ed => by cases ed) ?_ ?_⟩
  · refine ⟨fun c bcells hbc => ?_, fun c => ?_, h.hp.inj, fun g o hg => Nat.lt_of_lt_of_le (h.hp.imlt g o hg) hm.size, fun g p hg => ?_, h.hp.boxim, fun c hl => ?_⟩
    · by_cases hcb : c = b
      · subst hcb
        simp only [Bx.set, if_true, Option.some.injEq] at hbc
        subst hbc
        refine ⟨cs', e, setRow_heap w (G.β c) cs cs' e (0, 0) h1, ?_, ?_, fun j x u hx hu => ?_⟩
        · rw [← hcs']; simp [h2]; omega
        · intro u hu
          rw [← hcs'] at hu
          simp only [List.mem_toArray, List.mem_append] at hu
          rcases hu with (hu | hu) | hu
          · exact h3 u (by simpa using List.mem_of_mem_take hu)
          · exact hone u hu
          · exact h3 u (by simpa using List.mem_of_mem_drop hu)
        · rw [← hcs'] at hu
          simp only [List.getElem?_toArray] at hu
          have hol : o ≤ cells.length := by omega
          by_cases hj1 : j < o
          · rw [List.append_assoc, List.getElem?_append_left (by simp; omega), List.getElem?_take_of_lt hj1] at hx
            rw [List.append_assoc, List.getElem?_append_left (by simp; omega), List.getElem?_take_of_lt hj1] at hu
            exact (h4 j x u hx (by simpa using hu)).step hg (hfb c j).symm
          · by_cases hj2 : j < o + new.length
            · rw [List.append_assoc, List.getElem?_append_right (by simp; omega), List.getElem?_append_left (by simp; omega)] at hx
              rw [List.append_assoc, List.getElem?_append_right (by simp; omega), List.getElem?_append_left (by simp; omega)] at hu
              have e1 : (cells.take o).length = o := by simp; omega
              have e2 : (cs.toList.take o).length = o := by simp; omega
              rw [e1] at hx; rw [e2] at hu
              obtain ⟨p, hp, hfp⟩ := hrep (j - o) x u hx hu
              rw [show o + (j - o) = j from by omega] at hfp
              exact hp.step hg hfp.symm
            · rw [List.getElem?_append_right (by simp; omega), List.getElem?_drop] at hx
              rw [List.getElem?_append_right (by simp; omega), List.getElem?_drop] at hu
              have e1 : o + new.length + (j - (cells.take o ++ new).length) = j := by simp; omega
              have e2 : o + vs.length + (j - (cs.toList.take o ++ vs).length) = j := by simp; omega
              rw [e1] at hx; rw [e2] at hu
              exact (h4 j x u hx (by simpa using hu)).step hg (hfb c j).symm
      · simp only [Bx.set, hcb, if_false] at hbc
        have hlc := (h.hp.live c).2 (by simp [hbc])
        exact (h.hp.bx c bcells hbc).step hg hlc (fun j => (hfb c j).symm) (setRow_other w _ _ cs' (fun e => hcb (h.hp.inj c b hlc hl e)))
    · simp only [Gh.relabel, Bx.set]
      by_cases hcb : c = b
      · simp [hcb, hl]
      · simp [hcb, h.hp.live c]
    · simp only [Gh.relabel, Option.map_eq_some_iff] at hg
      obtain ⟨q, hq, _⟩ := hg
      exact Nat.lt_of_lt_of_le (h.hp.ownlt g q hq) hm.size
    · simp only [Gh.relabel, Option.map_eq_none_iff]
      exact h.hp.boxown c hl
  · refine h.sn.next hm hzb hkeep (fun b o hbo => .inl hbo) (fun g p hg => ?_) (fun b hl => .inl ⟨hl, rfl⟩) (fun k => rfl) rfl
    simp only [Gh.relabel, Option.map_eq_some_iff] at hg
    obtain ⟨q, hq, _⟩ := hg
    exact .inl ⟨q, hq⟩

end Go.Bee
