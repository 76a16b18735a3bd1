/-
The logic's operations that make memory or write to it. No condition.
-/
import Derived.Test.YtkgjplamdmakpaaGreatDoorBeeE
namespace Go.Bee
set_option linter.unusedVariables false

theorem cell_alloc_lt {w : World} {o : Obj} {b k : Nat} (h : b < w.heap.size) : (w.alloc o).cell? ⟨b, k, none⟩ = w.cell? ⟨b, k, none⟩ := World.cell?_alloc_lt _ _ _ h
theorem BoxAt.lt {P : Program} {G : Gh} {w : World} {b : BN} {cells : List PV} (h : BoxAt P G w b cells) : G.β b < w.heap.size := by
  obtain ⟨cs, e, h1, -⟩ := h
  exact (Array.getElem?_eq_some_iff.1 h1).1
theorem Hp.box {P : Program} {G : Gh} {w : World} {B : Bx} (h : Hp P G w B) {b : BN} (hl : G.live b) : ∃ cells, B b = some cells ∧ BoxAt P G w b cells := by
  obtain ⟨cells, hc⟩ := Option.isSome_iff_exists.1 ((h.live b).1 hl)
  exact ⟨cells, hc, h.bx b cells hc⟩

theorem FreeO.lt {G : Gh} {w : World} {o : Option Pos} {g : Nat} (h : FreeO G w o g) : g < w.heap.size := by
  obtain ⟨cs, e, h1⟩ := h.1
  exact (Array.getElem?_eq_some_iff.1 h1).1
/-- A step of memory: new blocks, and writes to block z alone. -/
structure MStep (w w' : World) (z : Option Nat) : Prop where
  os : w'.os = w.os
  tape : w'.tape = w.tape
  output : w'.output = w.output
  size : w.heap.size ≤ w'.heap.size
  old : ∀ b, b < w.heap.size → some b ≠ z → w'.heap[b]? = w.heap[b]?
theorem MStep.alloc (w : World) (o : Obj) (z : Option Nat) : MStep w (w.alloc o) z := ⟨rfl, rfl, rfl, by simp, fun b hb _ => heap_alloc_old w o hb⟩
theorem MStep.setRow (w : World) (g : Nat) (cs : Array Value) : MStep w (w.setRow g cs) (some g) :=
  ⟨rfl, rfl, rfl, by simp [World.setRow], fun b _ hb => setRow_other w g b cs (fun e => hb (by rw [e]))⟩
theorem MStep.drew {w w' : World} {z : Option Nat} (h : MStep w.drew w' z) : MStep w w' z := ⟨h.os, h.tape, h.output, h.size, h.old⟩

/-- The ghost's next state, where im grows by cells of new blocks or of the block that is written. -/
theorem Since.next {F : Fr} {G G' : Gh} {w w' : World} {z : Option Nat} (h : Since F G w) (hm : MStep w w' z) (hz : ∀ g, z = some g → F.w0.heap.size ≤ g ∨ F.Wr g) (hk : Keep G.im w G'.im w')
    (hn : ∀ b o, G'.im b o → G.im b o ∨ w.heap.size ≤ b ∨ z = some b) (ho : ∀ g p, G'.own g = some p → (∃ q, G.own g = some q) ∨ w.heap.size ≤ g) (hb : ∀ b, G'.live b → (G.live b ∧ G'.β b = G.β b) ∨ w.heap.size ≤ G'.β b)
    (ha : ∀ k, G'.β (.a k) = G.β (.a k)) (hf : G'.fz = G.fz) : Since F G' w' := by
  have hs := h.ext.size
  refine ⟨h.ext.trans (Wr' := fun g => z = some g) ⟨hm.os, hm.tape, hm.output, hm.size, fun b hb hn => hm.old b hb (fun e => hn e.symm), hk, hn⟩ (fun b hb => hz b hb), fun g p hg => ?_, fun b hl => ?_, fun k => (ha k).trans (h.βa k), fun g hg => h.fz g (by rwa [hf] at hg), fun g h1 h2 => by rw [hf]; exact h.fzm g h1 h2⟩
  · rcases ho g p hg with ⟨q, hq⟩ | hlt
    · exact h.own g q hq
    · left; omega
  · rcases hb b hl with ⟨h1, h2⟩ | hlt
    · rw [h2]; exact h.box b h1
    · left; omega
theorem Since.fz_same {F : Fr} {G : Gh} {w w' : World} {z : Option Nat} (h : Since F G w) (hm : MStep w w' z) (hz : ∀ g, z = some g → F.w0.heap.size ≤ g ∨ F.Wr g) : ∀ g, G.fz g → w'.heap[g]? = w.heap[g]? := by
  intro g hg
  obtain ⟨h1, h2⟩ := h.fz g hg
  refine hm.old g (by have := h.ext.size; omega) (fun e => ?_)
  rcases hz g e.symm with h3 | h3
  · omega
  · exact h2 h3

/-- Which positions a move turns into which. -/
def relF (f : Pos → Pos) (p q : Pos) : Prop := q = f p

theorem Rel.newBox {P : Program} {F : Fr} {G : Gh} {st : St} {a : Act} {w : World} (h : Rel P F G st a w) {d : Nat} (hd : d < F.nt) (hb : st.bx (.t d) = none) {cs : Array Value} {e : TypeId} {cells : List PV}
    (f : Pos → Pos) (ts : List Nat) (hf : ∀ t, t ∉ ts → ∀ i j, f (.t t, i, j) = (.t t, i, j)) (hfb : ∀ c j, f (.b c, 0, j) = (.b c, 0, j)) (hfq : f qpos = qpos) (hsz : cs.size = cells.length) (hone : ∀ u ∈ cs, u.oneCell' = true)
    (hrep : ∀ (j : Nat) x u, cells[j]? = some x → cs[j]? = some u → ∃ p, RepC P G w p x u ∧ f p = (.b (.t d), 0, j)) :
    ∃ G', Rel P F G' (st.upd ts (some d) (.ptr (.t d) 0) (Bx.set st.bx (.t d) cells)) (a.put (some d) (.pointer (some ⟨w.heap.size, 0, none⟩))) (w.alloc (.cells cs e)) := by
  have hnl : ¬ G.live (.t d) := fun hl => by have := (h.hp.live _).1 hl; simp [hb] at this
  have hm : MStep w (w.alloc (.cells cs e)) none := MStep.alloc w _ none
  let G' : Gh := { im := G.im, β := fun c => if c = .t d then w.heap.size else G.β c, live := fun c => c = .t d ∨ G.live c, own := fun g => (G.own g).map f, fz := G.fz }
  have hkeep : Keep G.im w G.im (w.alloc (.cells cs e)) := fun b o hbo => ⟨hbo, cell_alloc_lt (h.hp.imlt b o hbo)⟩
  have hg : GStep G w G' (w.alloc (.cells cs e)) (relF f) := by
    refine ⟨hkeep, fun b hl => ⟨.inr hl, by simp only [G']; rw [if_neg]; intro e; subst e; exact hnl hl⟩, rfl, h.sn.fz_same hm (by simp), by simp, fun g p q hg hq => ⟨?_, heap_alloc_old w _ (h.hp.ownlt g p hg), fun _ h => h⟩, fun o g ho hf => ?_⟩
    rotate_left
    · have hlt := hf.lt
      refine ⟨⟨by rw [heap_alloc_old w _ hlt]; exact hf.1, by rcases ho with rfl | rfl <;> simp [G', hf.2.1, hfq], fun c hl => ?_, hf.2.2.2.1, hf.2.2.2.2⟩, .heap (heap_alloc_old w _ hlt)⟩
      by_cases e : c = .t d
      · simp only [G', e, if_true]; omega
      · simp only [G', e, if_false]; exact hf.2.2.1 c (hl.resolve_left e)
    have : q = f p := hq
    simp [G', hg, this]
  have hβlt : ∀ b, G.live b → G.β b < w.heap.size := fun b hl => by obtain ⟨c, _, hbx⟩ := h.hp.box hl; exact hbx.lt
  refine ⟨G', h.next hg (fun t ht _ i j => (hf t ht i j).symm) (fun d' ed => ?_) (fun d' ed => by cases ed; exact hd) ?_ ?_⟩
  · cases ed
    exact ⟨by simp [G'], .inl rfl⟩
  · refine ⟨fun b bcells hbc => ?_, fun b => ?_, fun b b' hl hl' he => ?_, fun g o hg => ?_, fun g p hg => ?_, fun b hl o => ?_, fun b hl => ?_⟩
    · by_cases hbd : b = .t d
      · subst hbd
        simp only [Bx.set, if_true, Option.some.injEq] at hbc
        subst hbc
        refine ⟨cs, e, by simp only [G', if_true]; exact heap_alloc_new w _, by omega, fun j u _ hu => hone u (Array.mem_of_getElem? hu), fun j x u hx hu => ?_⟩
        obtain ⟨p, hp, hfp⟩ := hrep j x u hx hu
        exact hp.step hg hfp.symm
      · simp only [Bx.set, hbd, if_false] at hbc
        have hl := (h.hp.live b).2 (by simp [hbc])
        exact (h.hp.bx b bcells hbc).step hg hl (fun j => (hfb b j).symm) (heap_alloc_old w _ (hβlt b hl))
    · simp only [G', Bx.set]
      by_cases hbd : b = .t d
      · simp [hbd]
      · simp [hbd, h.hp.live b]
    · simp only [G'] at he hl hl'
      by_cases h1 : b = .t d <;> by_cases h2 : b' = .t d
      · rw [h1, h2]
      · have hl2 := hl'.resolve_left h2
        have := hβlt b' hl2
        simp [h1, h2] at he; omega
      · have hl2 := hl.resolve_left h1
        have := hβlt b hl2
        simp [h1, h2] at he; omega
      · simp only [h1, h2, if_false] at he
        exact h.hp.inj b b' (hl.resolve_left h1) (hl'.resolve_left h2) he
    · have := h.hp.imlt g o hg; simp; omega
    · simp only [G', Option.map_eq_some_iff] at hg
      obtain ⟨q, hq, _⟩ := hg
      have := h.hp.ownlt g q hq; simp; omega
    · intro him
      by_cases hbd : b = .t d
      · simp only [G', hbd, if_true] at him
        have := h.hp.imlt _ _ him; omega
      · simp only [G', hbd, if_false] at him
        exact h.hp.boxim b (hl.resolve_left hbd) o him
    · by_cases hbd : b = .t d
      · simp only [G', hbd, if_true, Option.map_eq_none_iff]
        cases ho : G.own w.heap.size with
        | none => rfl
        | some p => have := h.hp.ownlt _ _ ho; omega
      · simp only [G', hbd, if_false, Option.map_eq_none_iff]
        exact h.hp.boxown b (hl.resolve_left hbd)
  · refine h.sn.next hm (by simp) hkeep (fun b o hbo => .inl hbo) (fun g p hg => ?_) (fun b hl => ?_) (fun k => by simp [G']) rfl
    · simp only [G', Option.map_eq_some_iff] at hg
      obtain ⟨q, hq, _⟩ := hg
      exact .inl ⟨q, hq⟩
    · by_cases hbd : b = .t d
      · right; simp [G', hbd]
      · left; exact ⟨hl.resolve_left hbd, by simp [G', hbd]⟩

/-- A write to a variable in memory. -/
theorem Rel.store {P : Program} {F : Fr} {G : Gh} {st : St} {a : Act} {w : World} (h : Rel P F G st a w) {b : BN} {o : Nat} {cells new : List PV} (hb : st.bx b = some cells) {vs : List Value}
    (f : Pos → Pos) (ts : List Nat) (hf : ∀ t, t ∉ ts → ∀ i j, f (.t t, i, j) = (.t t, i, j)) (hfb : ∀ c j, f (.b c, 0, j) = (.b c, 0, j)) (hfq : f qpos = qpos) (hsz : vs.length = new.length) (hfit : o + new.length ≤ cells.length) (hone : ∀ u ∈ vs, u.oneCell' = true)
    (hrep : ∀ (j : Nat) x u, new[j]? = some x → vs[j]? = some u → ∃ p, RepC P G w p x u ∧ f p = (.b b, 0, o + j)) :
    ∃ G' w', (storeCells ⟨G.β b, o, none⟩ vs 0).run P w = .ok () w' ∧ Rel P F G' (st.upd ts none .junk (Bx.set st.bx b (cells.take o ++ new ++ cells.drop (o + new.length)))) (a.put none undef) w' := by
  have hl : G.live b := (h.hp.live b).2 (by simp [hb])
  obtain ⟨cs, e, h1, h2, h3, h4⟩ := h.hp.bx b cells hb
  have hrun := run_storeCells_at P (G.β b) o e vs 0 cs w h1 (by omega) hone
  simp only [Nat.add_zero] at hrun
  generalize hcs' : (cs.toList.take o ++ vs ++ cs.toList.drop (o + vs.length)).toArray = cs' at hrun
  have hm : MStep w (w.setRow (G.β b) cs') (some (G.β b)) := MStep.setRow w _ _
  have hzb : ∀ g, some (G.β b) = some g → F.w0.heap.size ≤ g ∨ F.Wr g := fun g hg => by cases hg; exact h.sn.box b hl
  have hkeep : Keep G.im w G.im (w.setRow (G.β b) cs') := fun g k hgk => ⟨hgk, by
    have hne : g ≠ G.β b := fun e => h.hp.boxim b hl k (e ▸ hgk)
    exact World.cell?_of_block (w := w) (w' := w.setRow (G.β b) cs') (a := ⟨g, k, none⟩) (setRow_other w _ g cs' hne)⟩
  have hg : GStep G w (G.relabel f) (w.setRow (G.β b) cs') (relF f) := by
    refine ⟨hkeep, fun b hl => ⟨hl, rfl⟩, rfl, h.sn.fz_same hm hzb, hm.size, fun g p q hg hq => ⟨?_, ?_, fun _ h => h⟩, fun o g ho hf => ⟨FreeO.relabel ⟨?_, hf.2⟩ hfq ho, .heap ?_⟩⟩
    rotate_left
    rotate_left
    · rw [setRow_other w _ g cs' (fun e => hf.2.2.1 b hl e.symm)]; exact hf.1
    · exact setRow_other w _ g cs' (fun e => hf.2.2.1 b hl e.symm)
    · have : q = f p := hq
      simp [Gh.relabel, hg, this]
    · refine setRow_other w _ g cs' (fun e => ?_)
      have := h.hp.boxown b hl
      rw [← e, hg] at this; cases this
  refine ⟨G.relabel f, _, hrun, h.next hg (fun t ht _ i j => (hf t ht i j).symm) (fun d' ed => by cases ed) (fun d' ed => by cases ed) ?_ ?_⟩
  · refine ⟨fun c bcells hbc => ?_, fun c => ?_, h.hp.inj, fun g o hg => Nat.lt_of_lt_of_le (h.hp.imlt g o hg) hm.size, fun g p hg => ?_, h.hp.boxim, fun c hl => ?_⟩
    · by_cases hcb : c = b
      · subst hcb
        simp only [Bx.set, if_true, Option.some.injEq] at hbc
        subst hbc
        refine ⟨cs', e, setRow_heap w (G.β c) cs cs' e (0, 0) h1, ?_, ?_, fun j x u hx hu => ?_⟩
        · rw [← hcs']; simp; omega
        · intro j u hj hu
          have hj' : j < cells.length := by simp at hj; omega
          rw [← hcs'] at hu
          simp only [List.getElem?_toArray] at hu
          by_cases hj1 : j < o
          · rw [List.append_assoc, List.getElem?_append_left (by simp; omega), List.getElem?_take_of_lt hj1] at hu
            exact h3 j u hj' (by simpa using hu)
          · have e2 : (cs.toList.take o).length = o := by simp; omega
            by_cases hj2 : j < o + vs.length
            · rw [List.append_assoc, List.getElem?_append_right (by omega), e2, List.getElem?_append_left (by omega)] at hu
              exact hone u (List.mem_of_getElem? hu)
            · have e3 : (cs.toList.take o ++ vs).length = o + vs.length := by simp; omega
              rw [List.getElem?_append_right (by omega), e3, List.getElem?_drop, show o + vs.length + (j - (o + vs.length)) = j by omega] at hu
              exact h3 j u hj' (by simpa using hu)
        · rw [← hcs'] at hu
          simp only [List.getElem?_toArray] at hu
          have hol : o ≤ cells.length := by omega
          by_cases hj1 : j < o
          · rw [List.append_assoc, List.getElem?_append_left (by simp; omega), List.getElem?_take_of_lt hj1] at hx
            rw [List.append_assoc, List.getElem?_append_left (by simp; omega), List.getElem?_take_of_lt hj1] at hu
            exact (h4 j x u hx (by simpa using hu)).step hg (hfb c j).symm
          · by_cases hj2 : j < o + new.length
            · rw [List.append_assoc, List.getElem?_append_right (by simp; omega), List.getElem?_append_left (by simp; omega)] at hx
              rw [List.append_assoc, List.getElem?_append_right (by simp; omega), List.getElem?_append_left (by simp; omega)] at hu
              have e1 : (cells.take o).length = o := by simp; omega
              have e2 : (cs.toList.take o).length = o := by simp; omega
              rw [e1] at hx; rw [e2] at hu
              obtain ⟨p, hp, hfp⟩ := hrep (j - o) x u hx hu
              rw [show o + (j - o) = j from by omega] at hfp
              exact hp.step hg hfp.symm
            · rw [List.getElem?_append_right (by simp; omega), List.getElem?_drop] at hx
              rw [List.getElem?_append_right (by simp; omega), List.getElem?_drop] at hu
              have e1 : o + new.length + (j - (cells.take o ++ new).length) = j := by simp; omega
              have e2 : o + vs.length + (j - (cs.toList.take o ++ vs).length) = j := by simp; omega
              rw [e1] at hx; rw [e2] at hu
              exact (h4 j x u hx (by simpa using hu)).step hg (hfb c j).symm
      · simp only [Bx.set, hcb, if_false] at hbc
        have hlc := (h.hp.live c).2 (by simp [hbc])
        exact (h.hp.bx c bcells hbc).step hg hlc (fun j => (hfb c j).symm) (setRow_other w _ _ cs' (fun e => hcb (h.hp.inj c b hlc hl e)))
    · simp only [Gh.relabel, Bx.set]
      by_cases hcb : c = b
      · simp [hcb, hl]
      · simp [hcb, h.hp.live c]
    · simp only [Gh.relabel, Option.map_eq_some_iff] at hg
      obtain ⟨q, hq, _⟩ := hg
      exact Nat.lt_of_lt_of_le (h.hp.ownlt g q hq) hm.size
    · simp only [Gh.relabel, Option.map_eq_none_iff]
      exact h.hp.boxown c hl
  · refine h.sn.next hm hzb hkeep (fun b o hbo => .inl hbo) (fun g p hg => ?_) (fun b hl => .inl ⟨hl, rfl⟩) (fun k => rfl) rfl
    simp only [Gh.relabel, Option.map_eq_some_iff] at hg
    obtain ⟨q, hq, _⟩ := hg
    exact .inl ⟨q, hq⟩

/-- A write to a block that is nobody's, where no slice lies. -/
theorem Rel.zstore {P : Program} {F : Fr} {G : Gh} {st : St} {a : Act} {w : World} (h : Rel P F G st a w) {g o : Nat} {cs : List PD} (hz : ZRun (FreeB G w) w g o cs) {vs : List Value} (ts : List Nat)
    (h0 : 0 < vs.length) (hlen : vs.length ≤ cs.length) (hc : ∀ (j : Nat) x, j < vs.length → cs[j]? = some x → x.isSl = false) (hone : ∀ u ∈ vs, u.oneCell' = true ∧ isSlV u = false) :
    ∃ w', (storeCells ⟨g, o, none⟩ vs 0).run P w = .ok () w' ∧ Rel P F G (st.upd ts none .junk st.bx) (a.put none undef) w' := by
  obtain ⟨us, hul, hus, huv, hur⟩ := hz
  have hcell : ∀ j, j < cs.length → ∃ u, us[j]? = some u ∧ FreeB G w g ∧ w.cell? ⟨g, o + j, none⟩ = some u := fun j hj => by
    have hj2 : j < us.length := by omega
    exact ⟨us[j], List.getElem?_eq_getElem hj2, huv j _ (List.getElem?_eq_getElem hj2)⟩
  obtain ⟨-, -, hf, -⟩ := hcell 0 (by omega)
  obtain ⟨⟨ds, e, h1⟩, ho, hbx, him, hfz⟩ := hf
  have hcw : ∀ k, w.cell? ⟨g, k, none⟩ = ds[k]? := fun k => by simp [World.cell?, h1]
  have hfit : o + vs.length ≤ ds.size := by
    obtain ⟨u, -, -, hu⟩ := hcell (vs.length - 1) (by omega)
    rw [hcw] at hu
    have := (Array.getElem?_eq_some_iff.1 hu).1
    omega
  have hrun := run_storeCells_at P g o e vs 0 ds w h1 (by omega) (fun u hu => (hone u hu).1)
  simp only [Nat.add_zero] at hrun
  generalize hcs' : (ds.toList.take o ++ vs ++ ds.toList.drop (o + vs.length)).toArray = ds' at hrun
  have hm : MStep w (w.setRow g ds') (some g) := MStep.setRow w _ _
  have hnew : (w.setRow g ds').heap[g]? = some (.cells ds' e (0, 0)) := setRow_heap w g ds ds' e (0, 0) h1
  have hcw' : ∀ k, (w.setRow g ds').cell? ⟨g, k, none⟩ = ds'[k]? := fun k => by simp [World.cell?, hnew]
  have hks : KindSame w (w.setRow g ds') g := fun k u hu hu1 => by
    rw [hcw] at hu
    rw [hcw', ← hcs', List.getElem?_toArray]
    by_cases hk1 : k < o
    · rw [List.append_assoc, List.getElem?_append_left (by simp; omega), List.getElem?_take_of_lt hk1, Array.getElem?_toList, hu]
      split
      · rfl
      · rename_i hn; exact ⟨u, rfl, by simpa using hn, hu1⟩
    · by_cases hk2 : k < o + vs.length
      · have e2 : (ds.toList.take o).length = o := by simp; omega
        rw [List.append_assoc, List.getElem?_append_right (by omega), e2, List.getElem?_append_left (by omega)]
        obtain ⟨u', hu2, -, hu3⟩ := hcell (k - o) (by omega)
        rw [show o + (k - o) = k by omega, hcw, hu] at hu3
        cases hu3
        have hx : cs[k - o]? = some cs[k - o] := List.getElem?_eq_getElem (by omega)
        have hzd := hur (k - o) _ u hx hu2
        have hns := hc (k - o) _ (by omega) hx
        have hus' : isSlV u = false := by
          generalize cs[k - o] = y at hzd hns
          cases hzd <;> first | assumption | cases hns
        rw [if_neg (by simp [hus'])]
        have hkl : k - o < vs.length := by omega
        have hin := hone _ (List.getElem_mem hkl)
        exact ⟨vs[k - o], List.getElem?_eq_getElem hkl, hin.2, hin.1⟩
      · have e2 : (ds.toList.take o ++ vs).length = o + vs.length := by simp; omega
        rw [List.getElem?_append_right (by omega), e2, List.getElem?_drop, show o + vs.length + (k - (o + vs.length)) = k by omega, Array.getElem?_toList, hu]
        split
        · rfl
        · rename_i hn; exact ⟨u, rfl, by simpa using hn, hu1⟩
  have hoth : ∀ b, b ≠ g → (w.setRow g ds').heap[b]? = w.heap[b]? := fun b hb => setRow_other w g b ds' hb
  have hzb : ∀ g', some g = some g' → F.w0.heap.size ≤ g' ∨ F.Wr g' := fun g' e => by
    cases e
    by_cases hlt : F.w0.heap.size ≤ g
    · exact .inl hlt
    · exact .inr (Classical.byContradiction fun hn => hfz (h.sn.fzm g (by omega) hn))
  have hkeep : Keep G.im w G.im (w.setRow g ds') := fun b k hbk => ⟨hbk, cell_of_heap (hoth b fun e => him k (e ▸ hbk)) k⟩
  have hg : GStep G w G (w.setRow g ds') (fun p q => p = q) := by
    refine ⟨hkeep, fun b hl => ⟨hl, rfl⟩, rfl, fun b hb => hoth b (fun e => hfz (e ▸ hb)), hm.size, fun b p q hb hpq => ⟨by rw [← hpq]; exact hb, hoth b (fun e => by rw [e, ho] at hb; cases hb), fun _ h => h⟩, fun o' b ho' hb => ?_⟩
    by_cases e : b = g
    · subst e
      have : o' = none := by rw [← hb.2.1, ho]
      subst this
      exact ⟨⟨⟨ds', _, hnew⟩, hb.2⟩, .kind hks⟩
    · exact ⟨⟨by rw [hoth b e]; exact hb.1, hb.2⟩, .heap (hoth b e)⟩
  refine ⟨_, hrun, h.next hg (fun t _ _ i j => rfl) (fun d' ed => by cases ed) (fun d' ed => by cases ed) ?_ ?_⟩
  · exact ⟨fun c cells hc => (h.hp.bx c cells hc).step hg ((h.hp.live c).2 (by simp [hc])) (fun j => rfl) (hoth _ (hbx c ((h.hp.live c).2 (by simp [hc])))), h.hp.live, h.hp.inj, fun b k hb => Nat.lt_of_lt_of_le (h.hp.imlt b k hb) hm.size,
      fun b p hb => Nat.lt_of_lt_of_le (h.hp.ownlt b p hb) hm.size, h.hp.boxim, h.hp.boxown⟩
  · exact h.sn.next hm hzb hkeep (fun b o hb => .inl hb) (fun b p hb => .inl ⟨p, hb⟩) (fun b hl => .inl ⟨hl, rfl⟩) (fun k => rfl) rfl

end Go.Bee
