/-
The logic and the walks, part 2. No condition.
-/
import Derived.Test.YtbhmeompdbokdaaGreatDoorBeeG0FEPEa
namespace Go.Bee
set_option linter.unusedVariables false

theorem cell_alloc_lt {w : World} {o : Obj} {b k : Nat} (h : b < w.heap.size) : (w.alloc o).cell? ⟨b, k, none⟩ = w.cell? ⟨b, k, none⟩ := World.cell?_alloc_lt _ _ _ h
theorem BoxAt.lt {P : Program} {G : Gh} {w : World} {b : BN} {cells : List PV} (h : BoxAt P G w b cells) : G.β b < w.heap.size := by
  obtain ⟨cs, e, h1, -⟩ := h
  exact (Array.getElem?_eq_some_iff.1 h1).1
theorem Hp.box {P : Program} {G : Gh} {w : World} {B : Bx} (h : Hp P G w B) {b : BN} (hl : G.live b) : ∃ cells, B b = some cells ∧ BoxAt P G w b cells := by
  obtain ⟨cells, hc⟩ := Option.isSome_iff_exists.1 ((h.live b).1 hl)
  exact ⟨cells, hc, h.bx b cells hc⟩

theorem FreeO.lt {G : Gh} {w : World} {o : Option Pos} {g : Nat} (h : FreeO G w o g) : g < w.heap.size := by
  obtain ⟨cs, e, h1⟩ := h.1
  exact (Array.getElem?_eq_some_iff.1 h1).1
structure MStep (w w' : World) (z : Option Nat) : Prop where
  os : w'.os = w.os
  tape : w'.tape = w.tape
  output : w'.output = w.output
  size : w.heap.size ≤ w'.heap.size
  old : ∀ b, b < w.heap.size → some b ≠ z → w'.heap[b]? = w.heap[b]?
theorem MStep.alloc (w : World) (o : Obj) (z : Option Nat) : MStep w (w.alloc o) z := ⟨rfl, rfl, rfl, by simp, fun b hb _ => heap_alloc_old w o hb⟩
theorem MStep.setRow (w : World) (g : Nat) (cs : Array Value) : MStep w (w.setRow g cs) (some g) :=
  ⟨rfl, rfl, rfl, by simp [World.setRow], fun b _ hb => setRow_other w g b cs (fun e => hb (by rw [e]))⟩
theorem MStep.drew {w w' : World} {z : Option Nat} (h : MStep w.drew w' z) : MStep w w' z := ⟨h.os, h.tape, h.output, h.size, h.old⟩

theorem Since.next {F : Fr} {G G' : Gh} {w w' : World} {z : Option Nat} (h : Since F G w) (hm : MStep w w' z) (hz : ∀ g, z = some g → F.w0.heap.size ≤ g ∨ F.Wr g) (hk : Keep G.im w G'.im w')
    (hn : ∀ b o, G'.im b o → G.im b o ∨ w.heap.size ≤ b ∨ z = some b) (ho : ∀ g p, G'.own g = some p → (∃ q, G.own g = some q) ∨ w.heap.size ≤ g) (hb : ∀ b, G'.live b → (G.live b ∧ G'.β b = G.β b) ∨ w.heap.size ≤ G'.β b)
    (ha : ∀ k, G'.β (.a k) = G.β (.a k)) (hf : G'.fz = G.fz) : Since F G' w' := by
  have hs := h.ext.size
  refine ⟨h.ext.trans (Wr' := fun g => z = some g) ⟨hm.os, hm.tape, hm.output, hm.size, fun b hb hn => hm.old b hb (fun e => hn e.symm), hk, hn⟩ (fun b hb => hz b hb), fun g p hg => ?_, fun b hl => ?_, fun k => (ha k).trans (h.βa k), fun g hg => h.fz g (by rwa [hf] at hg), fun g h1 h2 => by rw [hf]; exact h.fzm g h1 h2⟩
  · rcases ho g p hg with ⟨q, hq⟩ | hlt
    · exact h.own g q hq
    · left; omega
  · rcases hb b hl with ⟨h1, h2⟩ | hlt
    · rw [h2]; exact h.box b h1
    · left; omega
theorem Since.fz_same {F : Fr} {G : Gh} {w w' : World} {z : Option Nat} (h : Since F G w) (hm : MStep w w' z) (hz : ∀ g, z = some g → F.w0.heap.size ≤ g ∨ F.Wr g) : ∀ g, G.fz g → w'.heap[g]? = w.heap[g]? := by
  intro g hg
  obtain ⟨h1, h2⟩ := h.fz g hg
  refine hm.old g (by have := h.ext.size; omega) (fun e => ?_)
  rcases hz g e.symm with h3 | h3
  · omega
  · exact h2 h3

def relF (f : Pos → Pos) (p q : Pos) : Prop := q = f p

theorem Rel.newBox {P : Program} {F : Fr} {G : Gh} {st : St} {a : Act} {w : World} (h : Rel P F G st a w) {d : Nat} (hd : d < F.nt) (hb : st.bx (.t d) = none) {cs : Array Value} {e : TypeId} {cells : List PV}
    (f : Pos → Pos) (ts : List Nat) (hf : ∀ t, t ∉ ts → ∀ i j, f (.t t, i, j) = (.t t, i, j)) (hfb : ∀ c j, f (.b c, 0, j) = (.b c, 0, j)) (hfq : f qpos = qpos) (hsz : cs.size = cells.length) (hone : ∀ u ∈ cs, u.oneCell' = true)
    (hrep : ∀ (j : Nat) x u, cells[j]? = some x → cs[j]? = some u → ∃ p, RepC P G w p x u ∧ f p = (.b (.t d), 0, j)) :
    ∃ G', Rel P F G' (st.upd ts (some d) (.ptr (.t d) 0) (Bx.set st.bx (.t d) cells)) (a.put (some d) (.pointer (some ⟨w.heap.size, 0, none⟩))) (w.alloc (.cells cs e)) := by
  have hnl : ¬ G.live (.t d) := fun hl => by have := (h.hp.live _).1 hl; simp [hb] at this
  have hm : MStep w (w.alloc (.cells cs e)) none := MStep.alloc w _ none
  let G' : Gh := { im := G.im, β := fun c => if c = .t d then w.heap.size else G.β c, live := fun c => c = .t d ∨ G.live c, own := fun g => (G.own g).map f, fz := G.fz }
  have hkeep : Keep G.im w G.im (w.alloc (.cells cs e)) := fun b o hbo => ⟨hbo, cell_alloc_lt (h.hp.imlt b o hbo)⟩
  have hg : GStep G w G' (w.alloc (.cells cs e)) (relF f) := by
    refine ⟨hkeep, fun b hl => ⟨.inr hl, by simp only [G']; rw [if_neg]; intro e; subst e; exact hnl hl⟩, rfl, h.sn.fz_same hm (by simp), by simp, fun g p q hg hq => ⟨?_, heap_alloc_old w _ (h.hp.ownlt g p hg), fun _ h => h⟩, fun o g ho hf => ?_⟩
    rotate_left
    · have hlt := hf.lt
      refine ⟨⟨by rw [heap_alloc_old w _ hlt]; exact hf.1, by rcases ho with rfl | rfl <;> simp [G', hf.2.1, hfq], fun c hl => ?_, hf.2.2.2.1, hf.2.2.2.2⟩, .heap (heap_alloc_old w _ hlt)⟩
      by_cases e : c = .t d
      · simp only [G', e, if_true]; omega
      · simp only [G', e, if_false]; exact hf.2.2.1 c (hl.resolve_left e)
    have : q = f p := hq
    simp [G', hg, this]
  have hβlt : ∀ b, G.live b → G.β b < w.heap.size := fun b hl => by obtain ⟨c, _, hbx⟩ := h.hp.box hl; exact hbx.lt
  refine ⟨G', h.next hg (fun t ht _ i j => (hf t ht i j).symm) (fun d' ed => ?_) (fun d' ed => by cases ed; exact hd) ?_ ?_⟩
  · cases ed
    exact ⟨by simp [G'], .inl rfl⟩
  · refine ⟨fun b bcells hbc => ?_, fun b => ?_, fun b b' hl hl' he => ?_, fun g o hg => ?_, fun g p hg => ?_, fun b hl o => ?_, fun b hl => ?_⟩
    · by_cases hbd : b = .t d
      · subst hbd
        simp only [Bx.set, if_true, Option.some.injEq] at hbc
        subst hbc
        refine ⟨cs, e, by simp only [G', if_true]; exact heap_alloc_new w _, by omega, fun j u _ hu => hone u (Array.mem_of_getElem? hu), fun j x u hx hu => ?_⟩
        obtain ⟨p, hp, hfp⟩ := hrep j x u hx hu
        exact hp.step hg hfp.symm
      · simp only [Bx.set, hbd, if_false] at hbc
        have hl := (h.hp.live b).2 (by simp [hbc])
        exact (h.hp.bx b bcells hbc).step hg hl (fun j => (hfb b j).symm) (heap_alloc_old w _ (hβlt b hl))
    · simp only [G', Bx.set]
      by_cases hbd : b = .t d
      · simp [hbd]
      · simp [hbd, h.hp.live b]
    · simp only [G'] at he hl hl'
      by_cases h1 : b = .t d <;> by_cases h2 : b' = .t d
      · rw [h1, h2]
      · have hl2 := hl'.resolve_left h2
        have := hβlt b' hl2
        simp [h1, h2] at he; omega
      · have hl2 := hl.resolve_left h1
        have := hβlt b hl2
        simp [h1, h2] at he; omega
      · simp only [h1, h2, if_false] at he
        exact h.hp.inj b b' (hl.resolve_left h1) (hl'.resolve_left h2) he
    · have := h.hp.imlt g o hg; simp; omega
    · simp only [G', Option.map_eq_some_iff] at hg
      obtain ⟨q, hq, _⟩ := hg
      have := h.hp.ownlt g q hq; simp; omega
    · intro him
      by_cases hbd : b = .t d
      · simp only [G', hbd, if_true] at him
        have := h.hp.imlt _ _ him; omega
      · simp only [G', hbd, if_false] at him
        exact h.hp.boxim b (hl.resolve_left hbd) o him
    · by_cases hbd : b = .t d
      · simp only [G', hbd, if_true, Option.map_eq_none_iff]
        cases ho : G.own w.heap.size with
        | none => rfl
        | some p => have := h.hp.ownlt _ _ ho; omega
      · simp only [G', hbd, if_false, Option.map_eq_none_iff]
        exact h.hp.boxown b (hl.resolve_left hbd)
  · refine h.sn.next hm (by simp) hkeep (fun b o hbo => .inl hbo) (fun g p hg => ?_) (fun b hl => ?_) (fun k => by simp [G']) rfl
    · simp only [G', Option.map_eq_some_iff] at hg
      obtain ⟨q, hq, _⟩ := hg
      exact .inl ⟨q, hq⟩
    · by_cases hbd : b = .t d
      · right; simp [G', hbd]
      · left; exact ⟨hl.resolve_left hbd, by simp [G', hbd]⟩

theorem Rel.store {P : Program} {F : Fr} {G : Gh} {st : St} {a : Act} {w : World} (h : Rel P F G st a w) {b : BN} {o : Nat} {cells new : List PV} (hb : st.bx b = some cells) {vs : List Value}
    (f : Pos → Pos) (ts : List Nat) (hf : ∀ t, t ∉ ts → ∀ i j, f (.t t, i, j) = (.t t, i, j)) (hfb : ∀ c j, f (.b c, 0, j) = (.b c, 0, j)) (hfq : f qpos = qpos) (hsz : vs.length = new.length) (hfit : o + new.length ≤ cells.length) (hone : ∀ u ∈ vs, u.oneCell' = true)
    (hrep : ∀ (j : Nat) x u, new[j]? = some x → vs[j]? = some u → ∃ p, RepC P G w p x u ∧ f p = (.b b, 0, o + j)) :
    ∃ G' w', (storeCells ⟨G.β b, o, none⟩ vs 0).run P w = .ok () w' ∧ Rel P F G' (st.upd ts none .junk (Bx.set st.bx b (cells.take o ++ new ++ cells.drop (o + new.length)))) (a.put none undef) w' := by
  have hl : G.live b := (h.hp.live b).2 (by simp [hb])
  obtain ⟨cs, e, h1, h2, h3, h4⟩ := h.hp.bx b cells hb
  have hrun := run_storeCells_at P (G.β b) o e vs 0 cs w h1 (by omega) hone
  simp only [Nat.add_zero] at hrun
  generalize hcs' : (cs.toList.take o ++ vs ++ cs.toList.drop (o + vs.length)).toArray = cs' at hrun
  have hm : MStep w (w.setRow (G.β b) cs') (some (G.β b)) := MStep.setRow w _ _
  have hzb : ∀ g, some (G.β b) = some g → F.w0.heap.size ≤ g ∨ F.Wr g := fun g hg => by cases hg; exact h.sn.box b hl
  have hkeep : Keep G.im w G.im (w.setRow (G.β b) cs') := fun g k hgk => ⟨hgk, by
    have hne : g ≠ G.β b := fun e => h.hp.boxim b hl k (e ▸ hgk)
    exact World.cell?_of_block (w := w) (w' := w.setRow (G.β b) cs') (a := ⟨g, k, none⟩) (setRow_other w _ g cs' hne)⟩
  have hg : GStep G w (G.relabel f) (w.setRow (G.β b) cs') (relF f) := by
    refine ⟨hkeep, fun b hl => ⟨hl, rfl⟩, rfl, h.sn.fz_same hm hzb, hm.size, fun g p q hg hq => ⟨?_, ?_, fun _ h => h⟩, fun o g ho hf => ⟨FreeO.relabel ⟨?_, hf.2⟩ hfq ho, .heap ?_⟩⟩
    rotate_left
    rotate_left
    · rw [setRow_other w _ g cs' (fun e => hf.2.2.1 b hl e.symm)]; exact hf.1
    · exact setRow_other w _ g cs' (fun e => hf.2.2.1 b hl e.symm)
    · have : q = f p := hq
      simp [Gh.relabel, hg, this]
    · refine setRow_other w _ g cs' (fun e => ?_)
      have := h.hp.boxown b hl
      rw [← e, hg] at this; cases this
  refine ⟨G.relabel f, _, hrun, h.next hg (fun t ht _ i j => (hf t ht i j).symm) (fun d' ed => by cases ed) (fun d' ed => by cases ed) ?_ ?_⟩
  · refine ⟨fun c bcells hbc => ?_, fun c => ?_, h.hp.inj, fun g o hg => Nat.lt_of_lt_of_le (h.hp.imlt g o hg) hm.size, fun g p hg => ?_, h.hp.boxim, fun c hl => ?_⟩
    · by_cases hcb : c = b
      · subst hcb
        simp only [Bx.set, if_true, Option.some.injEq] at hbc
        subst hbc
        refine ⟨cs', e, setRow_heap w (G.β c) cs cs' e (0, 0) h1, ?_, ?_, fun j x u hx hu => ?_⟩
        · rw [← hcs']; simp; omega
        · intro j u hj hu
          have hj' : j < cells.length := by simp at hj; omega
          rw [← hcs'] at hu
          simp only [List.getElem?_toArray] at hu
          by_cases hj1 : j < o
          · rw [List.append_assoc, List.getElem?_append_left (by simp; omega), List.getElem?_take_of_lt hj1] at hu
            exact h3 j u hj' (by simpa using hu)
          · have e2 : (cs.toList.take o).length = o := by simp; omega
            by_cases hj2 : j < o + vs.length
            · rw [List.append_assoc, List.getElem?_append_right (by omega), e2, List.getElem?_append_left (by omega)] at hu
              exact hone u (List.mem_of_getElem? hu)
            · have e3 : (cs.toList.take o ++ vs).length = o + vs.length := by simp; omega
              rw [List.getElem?_append_right (by omega), e3, List.getElem?_drop, show o + vs.length + (j - (o + vs.length)) = j by omega] at hu
              exact h3 j u hj' (by simpa using hu)
        · rw [← hcs'] at hu
          simp only [List.getElem?_toArray] at hu
          have hol : o ≤ cells.length := by omega
          by_cases hj1 : j < o
          · rw [List.append_assoc, List.getElem?_append_left (by simp; omega), List.getElem?_take_of_lt hj1] at hx
            rw [List.append_assoc, List.getElem?_append_left (by simp; omega), List.getElem?_take_of_lt hj1] at hu
            exact (h4 j x u hx (by simpa using hu)).step hg (hfb c j).symm
          · by_cases hj2 : j < o + new.length
            · rw [List.append_assoc, List.getElem?_append_right (by simp; omega), List.getElem?_append_left (by simp; omega)] at hx
              rw [List.append_assoc, List.getElem?_append_right (by simp; omega), List.getElem?_append_left (by simp; omega)] at hu
              have e1 : (cells.take o).length = o := by simp; omega
              have e2 : (cs.toList.take o).length = o := by simp; omega
              rw [e1] at hx; rw [e2] at hu
              obtain ⟨p, hp, hfp⟩ := hrep (j - o) x u hx hu
              rw [show o + (j - o) = j from by omega] at hfp
              exact hp.step hg hfp.symm
            · rw [List.getElem?_append_right (by simp; omega), List.getElem?_drop] at hx
              rw [List.getElem?_append_right (by simp; omega), List.getElem?_drop] at hu
              have e1 : o + new.length + (j - (cells.take o ++ new).length) = j := by simp; omega
              have e2 : o + vs.length + (j - (cs.toList.take o ++ vs).length) = j := by simp; omega
              rw [e1] at hx; rw [e2] at hu
              exact (h4 j x u hx (by simpa using hu)).step hg (hfb c j).symm
      · simp only [Bx.set, hcb, if_false] at hbc
        have hlc := (h.hp.live c).2 (by simp [hbc])
        exact (h.hp.bx c bcells hbc).step hg hlc (fun j => (hfb c j).symm) (setRow_other w _ _ cs' (fun e => hcb (h.hp.inj c b hlc hl e)))
    · simp only [Gh.relabel, Bx.set]
      by_cases hcb : c = b
      · simp [hcb, hl]
      · simp [hcb, h.hp.live c]
    · simp only [Gh.relabel, Option.map_eq_some_iff] at hg
      obtain ⟨q, hq, _⟩ := hg
      exact Nat.lt_of_lt_of_le (h.hp.ownlt g q hq) hm.size
    · simp only [Gh.relabel, Option.map_eq_none_iff]
      exact h.hp.boxown c hl
  · refine h.sn.next hm hzb hkeep (fun b o hbo => .inl hbo) (fun g p hg => ?_) (fun b hl => .inl ⟨hl, rfl⟩) (fun k => rfl) rfl
    simp only [Gh.relabel, Option.map_eq_some_iff] at hg
    obtain ⟨q, hq, _⟩ := hg
    exact .inl ⟨q, hq⟩

theorem Rel.zstore {P : Program} {F : Fr} {G : Gh} {st : St} {a : Act} {w : World} (h : Rel P F G st a w) {g o : Nat} {cs : List PD} (hz : ZRun (FreeB G w) w g o cs) {vs : List Value} (ts : List Nat)
    (h0 : 0 < vs.length) (hlen : vs.length ≤ cs.length) (hc : ∀ (j : Nat) x, j < vs.length → cs[j]? = some x → x.isSl = false) (hone : ∀ u ∈ vs, u.oneCell' = true ∧ isSlV u = false) :
    ∃ w', (storeCells ⟨g, o, none⟩ vs 0).run P w = .ok () w' ∧ Rel P F G (st.upd ts none .junk st.bx) (a.put none undef) w' := by
  obtain ⟨us, hul, hus, huv, hur⟩ := hz
  have hcell : ∀ j, j < cs.length → ∃ u, us[j]? = some u ∧ FreeB G w g ∧ w.cell? ⟨g, o + j, none⟩ = some u := fun j hj => by
    have hj2 : j < us.length := by omega
    exact ⟨us[j], List.getElem?_eq_getElem hj2, huv j _ (List.getElem?_eq_getElem hj2)⟩
  obtain ⟨-, -, hf, -⟩ := hcell 0 (by omega)
  obtain ⟨⟨ds, e, h1⟩, ho, hbx, him, hfz⟩ := hf
  have hcw : ∀ k, w.cell? ⟨g, k, none⟩ = ds[k]? := fun k => by simp [World.cell?, h1]
  have hfit : o + vs.length ≤ ds.size := by
    obtain ⟨u, -, -, hu⟩ := hcell (vs.length - 1) (by omega)
    rw [hcw] at hu
    have := (Array.getElem?_eq_some_iff.1 hu).1
    omega
  have hrun := run_storeCells_at P g o e vs 0 ds w h1 (by omega) (fun u hu => (hone u hu).1)
  simp only [Nat.add_zero] at hrun
  generalize hcs' : (ds.toList.take o ++ vs ++ ds.toList.drop (o + vs.length)).toArray = ds' at hrun
  have hm : MStep w (w.setRow g ds') (some g) := MStep.setRow w _ _
  have hnew : (w.setRow g ds').heap[g]? = some (.cells ds' e (0, 0)) := setRow_heap w g ds ds' e (0, 0) h1
  have hcw' : ∀ k, (w.setRow g ds').cell? ⟨g, k, none⟩ = ds'[k]? := fun k => by simp [World.cell?, hnew]
  have hks : KindSame w (w.setRow g ds') g := fun k u hu hu1 => by
    rw [hcw] at hu
    rw [hcw', ← hcs', List.getElem?_toArray]
    by_cases hk1 : k < o
    · rw [List.append_assoc, List.getElem?_append_left (by simp; omega), List.getElem?_take_of_lt hk1, Array.getElem?_toList, hu]
      split
      · rfl
      · rename_i hn; exact ⟨u, rfl, by simpa using hn, hu1⟩
    · by_cases hk2 : k < o + vs.length
      · have e2 : (ds.toList.take o).length = o := by simp; omega
        rw [List.append_assoc, List.getElem?_append_right (by omega), e2, List.getElem?_append_left (by omega)]
        obtain ⟨u', hu2, -, hu3⟩ := hcell (k - o) (by omega)
        rw [show o + (k - o) = k by omega, hcw, hu] at hu3
        cases hu3
        have hx : cs[k - o]? = some cs[k - o] := List.getElem?_eq_getElem (by omega)
        have hzd := hur (k - o) _ u hx hu2
        have hns := hc (k - o) _ (by omega) hx
        have hus' : isSlV u = false := by
          generalize cs[k - o] = y at hzd hns
          cases hzd <;> first | assumption | cases hns
        rw [if_neg (by simp [hus'])]
        have hkl : k - o < vs.length := by omega
        have hin := hone _ (List.getElem_mem hkl)
        exact ⟨vs[k - o], List.getElem?_eq_getElem hkl, hin.2, hin.1⟩
      · have e2 : (ds.toList.take o ++ vs).length = o + vs.length := by simp; omega
        rw [List.getElem?_append_right (by omega), e2, List.getElem?_drop, show o + vs.length + (k - (o + vs.length)) = k by omega, Array.getElem?_toList, hu]
        split
        · rfl
        · rename_i hn; exact ⟨u, rfl, by simpa using hn, hu1⟩
  have hoth : ∀ b, b ≠ g → (w.setRow g ds').heap[b]? = w.heap[b]? := fun b hb => setRow_other w g b ds' hb
  have hzb : ∀ g', some g = some g' → F.w0.heap.size ≤ g' ∨ F.Wr g' := fun g' e => by
    cases e
    by_cases hlt : F.w0.heap.size ≤ g
    · exact .inl hlt
    · exact .inr (Classical.byContradiction fun hn => hfz (h.sn.fzm g (by omega) hn))
  have hkeep : Keep G.im w G.im (w.setRow g ds') := fun b k hbk => ⟨hbk, cell_of_heap (hoth b fun e => him k (e ▸ hbk)) k⟩
  have hg : GStep G w G (w.setRow g ds') (fun p q => p = q) := by
    refine ⟨hkeep, fun b hl => ⟨hl, rfl⟩, rfl, fun b hb => hoth b (fun e => hfz (e ▸ hb)), hm.size, fun b p q hb hpq => ⟨by rw [← hpq]; exact hb, hoth b (fun e => by rw [e, ho] at hb; cases hb), fun _ h => h⟩, fun o' b ho' hb => ?_⟩
    by_cases e : b = g
    · subst e
      have : o' = none := by rw [← hb.2.1, ho]
      subst this
      exact ⟨⟨⟨ds', _, hnew⟩, hb.2⟩, .kind hks⟩
    · exact ⟨⟨by rw [hoth b e]; exact hb.1, hb.2⟩, .heap (hoth b e)⟩
  refine ⟨_, hrun, h.next hg (fun t _ _ i j => rfl) (fun d' ed => by cases ed) (fun d' ed => by cases ed) ?_ ?_⟩
  · exact ⟨fun c cells hc => (h.hp.bx c cells hc).step hg ((h.hp.live c).2 (by simp [hc])) (fun j => rfl) (hoth _ (hbx c ((h.hp.live c).2 (by simp [hc])))), h.hp.live, h.hp.inj, fun b k hb => Nat.lt_of_lt_of_le (h.hp.imlt b k hb) hm.size,
      fun b p hb => Nat.lt_of_lt_of_le (h.hp.ownlt b p hb) hm.size, h.hp.boxim, h.hp.boxown⟩
  · exact h.sn.next hm hzb hkeep (fun b o hb => .inl hb) (fun b p hb => .inl ⟨p, hb⟩) (fun b hl => .inl ⟨hl, rfl⟩) (fun k => rfl) rfl

end Go.Bee


namespace Go.Bee
set_option linter.unusedVariables false

theorem MStep.grownBy {w w' : World} {z : Option Nat} (h : w.grownBy w' z) : MStep w w' z := ⟨h.os, h.tape, h.output, h.size, fun b hb hz => h.block b hb hz⟩

theorem Rel.ownNew {P : Program} {F : Fr} {G : Gh} {st : St} {a : Act} {w w' : World} (h : Rel P F G st a w) {d : Nat} (hd : d < F.nt) {ts : List Nat} {z : Option Nat} (hm : MStep w w' z)
    (hz : ∀ g0, z = some g0 → ∃ s, s ∈ ts ∧ G.own g0 = some (.t s, 0, 0)) {e sz : Nat} {l : List PD} {v : Value} {vs : List Value} (hown : w'.ownsRow 0 e sz v l.length vs) (hb : l.length ≤ 140737488355328)
    (hu : ∀ x ∈ l, x.cells.length = sz) (hs : ∀ x ∈ flat l, x.scalar = true) (hr : ∀ (i : Nat) x u, (flat l)[i]? = some x → vs[i]? = some u → RepD G.im w x u)
    (hblk : ∀ g, v.ownBlock = some g → w.heap.size ≤ g ∨ z = some g) (hold : ∀ g0 o, z = some g0 → G.im g0 o → w'.cell? ⟨g0, o, none⟩ = w.cell? ⟨g0, o, none⟩)
    (him : ∀ g0 o, z = some g0 → v.ownBlock = some g0 → G.im g0 o → o < vs.length) (hne : l = [] → Full 0 v) :
    ∃ G', Rel P F G' (st.upd ts (some d) (.own e sz l) st.bx) (a.put (some d) v) w' := by
  let G' : Gh := { im := (fun g o => G.im g o ∨ (v.ownBlock = some g ∧ o < vs.length)), β := G.β, live := G.live, own := (fun g => if v.ownBlock = some g then some (Loc.t d, 0, 0) else if z = some g then none else G.own g), fz := G.fz }
  have hzown : ∀ g0, z = some g0 → F.w0.heap.size ≤ g0 ∨ F.Wr g0 := fun g0 e => by obtain ⟨s, _, hs⟩ := hz g0 e; exact h.sn.own g0 _ hs
  have hvlt : ∀ g, v.ownBlock = some g → g < w'.heap.size := fun g hg => (hown.lt g hg).2
  have hkeep : Keep G.im w G'.im w' := fun b o hbo => ⟨.inl hbo, by
    by_cases hzb : z = some b
    · exact hold b o hzb hbo
    · exact World.cell?_of_block (w := w) (w' := w') (a := ⟨b, o, none⟩) (hm.old b (h.hp.imlt b o hbo) (fun e => hzb e.symm))⟩
  have hg : GStep G w G' w' (fun p q => p = q ∧ ∀ g0, z = some g0 → G.own g0 ≠ some p) := by
    refine ⟨hkeep, fun b hl => ⟨hl, rfl⟩, rfl, h.sn.fz_same hm hzown, hm.size, fun g p q hgp hpq => ?_, fun o g ho hf => ?_⟩
    rotate_left
    · have hlt := hf.lt
      have hzg : z ≠ some g := fun e => by obtain ⟨s, _, hs⟩ := hz g e; rw [hf.2.1] at hs; rcases ho with rfl | rfl <;> cases hs
      have hvg : v.ownBlock ≠ some g := fun e => by
        rcases hblk g e with h1 | h1
        · omega
        · exact hzg h1
      have hw := hm.old g hlt (fun e => hzg e.symm)
      refine ⟨⟨by rw [hw]; exact hf.1, by simp [G', hvg, hzg, hf.2.1], hf.2.2.1, fun o ho => ?_, hf.2.2.2.2⟩, .heap hw⟩
      rcases ho with ho | ⟨ho, _⟩
      · exact hf.2.2.2.1 o ho
      · exact hvg ho
    obtain ⟨rfl, hne⟩ := hpq
    have hzg : z ≠ some g := fun e => hne g e hgp
    have hlt := h.hp.ownlt g p hgp
    have hvg : v.ownBlock ≠ some g := fun e => by
      rcases hblk g e with h1 | h1
      · omega
      · exact hzg h1
    refine ⟨by simp [G', hvg, hzg, hgp], hm.old g hlt (fun e => hzg e.symm), fun o ho => ?_⟩
    rcases ho with ho | ⟨ho, _⟩
    · exact ho
    · exact absurd ho hvg
  have hrep : RepD G'.im w' (.sl sz l) v := by
    have hlen : vs.length = (flat l).length := by rw [hown.1, flat_length hu]
    rcases hown.2 with ⟨rfl, hn⟩ | ⟨g, cap, cur, rfl, _, hgg, hc, _, hcs, ht⟩
    · obtain rfl : l = [] := List.length_eq_zero_iff.1 hn
      exact .nil sz
    · refine .sl sz l g 0 cap vs hb hc hu hs hlen (fun i u hi => ?_) (fun i x u hx hu => (hr i x u hx hu).keep hkeep)
      have hi' : i < vs.length := (List.getElem?_eq_some_iff.1 hi).1
      rw [Nat.zero_add]
      refine ⟨.inr ⟨rfl, hi'⟩, ?_⟩
      have := hown.cells (g := g) rfl i u hi
      rwa [Addr.add_lit, Nat.zero_add] at this
  have hβlt : ∀ b, G.live b → G.β b < w.heap.size := fun b hl => by obtain ⟨c, _, hbx⟩ := h.hp.box hl; exact hbx.lt
  have hβz : ∀ b, G.live b → z ≠ some (G.β b) := fun b hl e => by
    obtain ⟨s, _, hs⟩ := hz _ e
    rw [h.hp.boxown b hl] at hs; cases hs
  have hβv : ∀ b, G.live b → v.ownBlock ≠ some (G.β b) := fun b hl e => by
    rcases hblk _ e with h1 | h1
    · have := hβlt b hl; omega
    · exact hβz b hl h1
  refine ⟨G', h.next hg (fun t ht htd i j => ⟨rfl, fun g0 e hgo => ?_⟩) (fun d' ed => ?_) (fun d' ed => by cases ed; exact hd) ?_ ?_⟩
  · obtain ⟨s, hs, hs2⟩ := hz g0 e
    rw [hs2] at hgo
    cases hgo
    exact ht hs
  · cases ed
    by_cases hl0 : l = []
    · exact ⟨hrep, .inl ⟨by rw [hl0]; exact hne hl0, fun h => absurd hl0 h⟩⟩
    refine ⟨hrep, .inr ⟨vs, hown, ⟨hl0, hu⟩, fun g hvg => ⟨by simp [G', hvg], fun i hi => .inr ⟨hvg, hi⟩, fun i hi hc => ?_⟩⟩⟩
    rcases hc with hc | ⟨_, hc⟩
    · rcases hblk g hvg with h1 | h1
      · have := h.hp.imlt g i hc; omega
      · have := him g i h1 hvg hc; omega
    · omega
  · refine ⟨fun b bcells hbc => ?_, h.hp.live, h.hp.inj, fun g o hgo => ?_, fun g p hgp => ?_, fun b hl o hgo => ?_, fun b hl => ?_⟩
    · have hl := (h.hp.live b).2 (by simp [hbc])
      refine (h.hp.bx b bcells hbc).step hg hl (fun j => ⟨rfl, fun g0 e hgo => ?_⟩) (hm.old _ (hβlt b hl) (fun e => hβz b hl e.symm))
      obtain ⟨s, _, hs⟩ := hz g0 e
      rw [hs] at hgo; cases hgo
    · rcases hgo with hgo | ⟨hgo, _⟩
      · exact Nat.lt_of_lt_of_le (h.hp.imlt g o hgo) hm.size
      · exact hvlt g hgo
    · simp only [G'] at hgp
      split at hgp
      · rename_i hv; exact hvlt g hv
      · split at hgp
        · cases hgp
        · exact Nat.lt_of_lt_of_le (h.hp.ownlt g p hgp) hm.size
    · rcases hgo with hgo | ⟨hgo, _⟩
      · exact h.hp.boxim b hl o hgo
      · exact hβv b hl hgo
    · simp [G', hβv b hl, hβz b hl, h.hp.boxown b hl]
  · refine h.sn.next hm hzown hkeep (fun b o hbo => ?_) (fun g p hgp => ?_) (fun b hl => .inl ⟨hl, rfl⟩) (fun k => rfl) rfl
    · rcases hbo with hbo | ⟨hbo, _⟩
      · exact .inl hbo
      · exact .inr (hblk b hbo)
    · simp only [G'] at hgp
      split at hgp
      · rename_i hv
        rcases hblk g hv with h1 | h1
        · exact .inr h1
        · obtain ⟨s, _, hs⟩ := hz g h1
          exact .inl ⟨_, hs⟩
      · split at hgp
        · cases hgp
        · exact .inl ⟨p, hgp⟩

theorem Rel.moveTs {P : Program} {F : Fr} {G : Gh} {st : St} {a : Act} {w : World} (h : Rel P F G st a w) {d : Nat} (hd : d < F.nt) {ts : List Nat} {x : PV} {v : Value} {loc : Loc}
    (hloc : ∀ t, loc = .t t → t ∈ ts) (hb : ∀ b, loc ≠ .b b) (hq : loc ≠ .q) (hx : RepT P G w loc x v) : ∃ G', Rel P F G' (st.upd ts (some d) x st.bx) (a.put (some d) v) w := by
  let f : Pos → Pos := fun p => if p.1 = loc then (.t d, p.2) else p
  have hfq : f qpos = qpos := by simp [f, qpos, Ne.symm hq]
  refine ⟨G.relabel f, h.next (GStep.relabel G w f hfq) (fun t ht _ i j => ?_) (fun d' e => ?_) (fun d' e => by cases e; exact hd) (h.hp.relabel _ ?_ hfq) (h.sn.relabel _)⟩
  · have : Loc.t t ≠ loc := fun e => ht (hloc t e.symm)
    simp [f, this]
  · cases e
    exact hx.step (GStep.relabel G w f hfq) (fun i j => by simp [f])
  · intro b j
    have : Loc.b b ≠ loc := fun e => hb b e.symm
    simp [f, this]

def tmpsOf (xs : List Operand) : List Nat := xs.filterMap fun | .tmp t => some t | _ => none
theorem mem_tmpsOf {xs : List Operand} {t : Nat} : t ∈ tmpsOf xs ↔ Operand.tmp t ∈ xs := by
  unfold tmpsOf
  simp only [List.mem_filterMap]
  constructor
  · rintro ⟨x, hx, h⟩
    cases x <;> simp at h
    subst h; exact hx
  · intro h
    exact ⟨_, h, rfl⟩

def PV.grow : PV → Option (Option (Nat × Nat) × List PD)
  | .own e sz l => some (some (e, sz), l)
  | .nilS => some (none, [])
  | _ => none
def PV.more : PV → Option (Option Nat × List PD)
  | .nilS => some (none, [])
  | x => x.list.map fun q => (some q.1, q.2)
def evAppend (P : Program) (t : TypeId) (s x : PV) : Option PV :=
  s.grow.bind fun q => x.more.bind fun r => (tyi P t).bind fun i => i.el.bind fun e => (tyi P e).bind fun te =>
    if (q.1 = none ∨ q.1 = some (e, te.sz)) ∧ (r.1 = none ∨ r.1 = some te.sz) ∧ 0 < te.sz ∧ te.zero.length = te.sz then
      (if (q.2.length + r.2.length) * (te.by_ + 1) ≤ 140737488355328 then some (.own e te.sz (q.2 ++ r.2)) else none) else none

theorem run_append_nothing {P : Program} (w : World) {t e : TypeId} {te : TI} (ty : TypeId) (ht : P.underlying t = some (.slice e)) (hte : tyi P e = some te) (b : Option Addr) (n c : Nat) (hc : n ≤ c) (b' : Option Addr) (c' : Nat) :
    (Builtin.append_ #[t, t] ty #[.slice b n c, .slice b' 0 c']).run P w = .ok (.slice b n c) w := by
  have h1 : ∀ w, (Builtin.firstCells te.sz 0 (.slice b' 0 c')).run P w = .ok #[] w := by
    intro w; cases b' <;> simp [Builtin.firstCells, loadCells, loadCellsFrom]
  cases b with
  | none => simp [Builtin.append_, run_underlying ht, tyi_size hte, Builtin.lenOf, hc, h1]
  | some b => simp [Builtin.append_, run_underlying ht, tyi_size hte, Builtin.lenOf, hc, h1, storeCells]

theorem evAppend_ok {P : Program} {F : Fr} {G : Gh} {st : St} {a : Act} {w : World} (h : Rel P F G st a w) {d : Nat} (hd : d < F.nt) {t ty : TypeId} {S X : Operand} {r : PV} (he : evAppend P t (st.ev S) (st.ev X) = some r) :
    ∃ rv w' G', (Builtin.append_ #[t, t] ty #[a.eval S, a.eval X]).run P w = .ok rv w' ∧ Rel P F G' (st.upd (tmpsOf [S, X]) (some d) r st.bx) (a.put (some d) rv) w' := by
  unfold evAppend at he
  simp only [Option.bind_eq_some_iff] at he
  obtain ⟨⟨q1, l⟩, hq, ⟨r1, m⟩, hr, i, hi, e, hel, te, hte, he⟩ := he
  simp only at he
  split at he
  · rename_i hc
    obtain ⟨hq1, hr1, hsz0, hzl⟩ := hc
    split at he
    · rename_i hbd
      cases he
      have hS := h.ev S
      have hX := h.ev X
      have ht := tyi_el hi hel
      obtain ⟨i', td, k1, k2, k3, k4, k5, k6, k7, k8, k9, k10⟩ := tyi_spec hte
      obtain ⟨z, hz, hzs⟩ : ∃ z, i'.zero = some z ∧ z.cells.size = te.sz := by
        rw [k9] at hzl
        cases hzz : i'.zero with
        | none => rw [hzz] at hzl; simp at hzl; omega
        | some z => rw [hzz] at hzl; exact ⟨z, rfl, by simpa using hzl⟩
      have hnn : l.length + m.length ≤ 140737488355328 ∧ (l.length + m.length) * te.by_ ≤ 140737488355328 := by
        have h1 : (l.length + m.length) * (te.by_ + 1) = (l.length + m.length) * te.by_ + (l.length + m.length) := by rw [Nat.mul_add, Nat.mul_one]
        omega
      -- the slice that grows
      have hs : OwnAt G w (opLoc S, 0, 0) e te.sz l (a.eval S) := by
        generalize hev : st.ev S = s at hS hq
        cases s <;> simp only [PV.grow, reduceCtorEq, Option.some.injEq, Prod.mk.injEq] at hq
        · obtain ⟨rfl, rfl⟩ := hq
          have hS' : a.eval S = .slice none 0 0 := hS
          rw [hS']
          exact ⟨.nil _, .inl ⟨.inl rfl, fun h => absurd rfl h⟩⟩
        · obtain ⟨rfl, rfl⟩ := hq
          rcases hq1 with h1 | h1
          · cases h1
          · cases h1; exact hS
      -- what is appended
      have hx : RepD G.im w (.sl te.sz m) (a.eval X) := by
        generalize hev : st.ev X = x at hX hr
        cases x <;> simp only [PV.more, PV.list, Option.map_none, reduceCtorEq, Option.some.injEq, Prod.mk.injEq, Option.map_eq_some_iff] at hr
        · obtain ⟨⟨a1, a2⟩, hl, rfl, rfl⟩ := hr
          rcases hr1 with h1 | h1
          · cases h1
          · cases h1
            exact hX.list hl
        · obtain ⟨rfl, rfl⟩ := hr
          have hX' : a.eval X = .slice none 0 0 := hX
          rw [hX']; exact .nil _
        · obtain ⟨⟨a1, a2⟩, hl, rfl, rfl⟩ := hr
          rcases hr1 with h1 | h1
          · cases h1
          · cases h1
            cases hl
            exact hX.1
        · obtain ⟨⟨a1, a2⟩, hl, rfl, rfl⟩ := hr
          rcases hr1 with h1 | h1
          · cases h1
          · cases h1
            cases hl
            exact OwnAt.data hX
        · obtain ⟨⟨a1, a2⟩, hl, rfl, rfl⟩ := hr
          rcases hr1 with h1 | h1
          · cases h1
          · cases h1
            exact hX.list hl
      -- nothing appended
      have nothing : m = [] → ∃ rv w' G', (Builtin.append_ #[t, t] ty #[a.eval S, a.eval X]).run P w = .ok rv w' ∧ Rel P F G' (st.upd (tmpsOf [S, X]) (some d) (.own e te.sz (l ++ m)) st.bx) (a.put (some d) rv) w' := by
        rintro rfl
        have hshape : ∃ b c, a.eval S = .slice b l.length c ∧ l.length ≤ c := by
          rcases hs.1.sl_shape with ⟨rfl, h1⟩ | ⟨g, o, c, h1, h2, -⟩ | ⟨rfl, a, c, h1⟩
          · exact ⟨none, 0, h1, Nat.le_refl _⟩
          · exact ⟨_, c, h1, h2⟩
          · exact ⟨_, c, h1, by simp⟩
        obtain ⟨b, c, hv, hlc⟩ := hshape
        have hshape' : ∃ b c, a.eval X = .slice b 0 c := by
          rcases hx.sl_shape with ⟨_, h1⟩ | ⟨g, o, c, h1, h2, -⟩ | ⟨-, a, c, h1⟩
          · exact ⟨none, 0, h1⟩
          · exact ⟨_, c, h1⟩
          · exact ⟨_, c, h1⟩
        obtain ⟨b', c', hv'⟩ := hshape'
        rw [List.append_nil]
        have hrun := run_append_nothing (P := P) w ty ht hte b l.length c hlc b' c'
        have hloc : ∀ t, opLoc S = .t t → t ∈ tmpsOf [S, X] := by
          intro t ht'
          cases S <;> simp [opLoc] at ht'
          subst ht'; simp [tmpsOf]
        have hnb : ∀ b, opLoc S ≠ .b b := by intro b; cases S <;> simp [opLoc]
        obtain ⟨G', hG'⟩ := h.moveTs hd (ts := tmpsOf [S, X]) (x := .own e te.sz l) hloc hnb (by cases S <;> simp [opLoc]) hs
        exact ⟨_, w, G', by rw [hv, hv']; exact hrun, by rw [hv] at hG'; exact hG'⟩
      rcases hx.sl_shape with ⟨rfl, -⟩ | ⟨gx, ox, cx, hvx, hlcx, hux, news, hnl, hns, hnc, hnr⟩ | ⟨rfl, -⟩
      · exact nothing rfl
      rotate_left
      · exact nothing rfl
      · by_cases hm0 : m = []
        · exact nothing hm0
        have hmpos : 0 < m.length := List.length_pos_iff.2 hm0
        have hnl' : news.length = m.length * te.sz := by rw [hnl, flat_length hux]
        have hnews : ∀ (j : Nat) v, news[j]? = some v → w.cell? ((⟨gx, ox, none⟩ : Addr).add j) = some v := fun j v hj => by rw [Addr.add_lit]; exact (hnc j v hj).2
        have hone : ∀ u ∈ news, u.oneCell' = true := by
          intro u hu
          obtain ⟨j, hj, rfl⟩ := List.mem_iff_getElem.1 hu
          have hj2 : j < (flat m).length := by omega
          exact (hnr j _ _ (List.getElem?_eq_getElem hj2) (List.getElem?_eq_getElem hj)).oneCell (hns _ (List.getElem_mem hj2))
        have hlu : (∀ x ∈ l, x.cells.length = te.sz) ∧ (∀ x ∈ flat l, x.scalar = true) := by
          rcases hs.1.sl_shape with ⟨rfl, -⟩ | ⟨g, o, c, -, -, h1, h2⟩ | ⟨rfl, -⟩
          · exact ⟨by simp, by simp [flat_nil]⟩
          rotate_left
          · exact ⟨by simp, by simp [flat_nil]⟩
          · obtain ⟨vs, -, h2, -⟩ := h2; exact ⟨h1, h2⟩
        have hu' : ∀ x ∈ l ++ m, x.cells.length = te.sz := fun x hx => (List.mem_append.1 hx).elim (hlu.1 x) (hux x)
        have hs' : ∀ x ∈ flat (l ++ m), x.scalar = true := fun x hx => by rw [flat_append] at hx; exact (List.mem_append.1 hx).elim (hlu.2 x) (hns x)
        have hlen : (l ++ m).length = l.length + m.length := List.length_append
        rcases hs.2 with ⟨hfull0, -⟩ | ⟨vs, hown, hu, hg⟩
        · obtain ⟨b, hfull⟩ := hfull0.ex
          -- full: a new row
          have holds : ∃ olds : List Value, olds.length = l.length * te.sz ∧ (∀ b', b = some b' → ∀ (j : Nat) v, olds[j]? = some v → w.cell? (b'.add j) = some v) ∧ (b = none → olds = []) ∧ ∀ (i : Nat) x u, (flat l)[i]? = some x → olds[i]? = some u → RepD G.im w x u := by
            rcases hs.1.sl_shape with ⟨rfl, h1⟩ | ⟨g, o, c, h1, h2, h3, vs, k1, k2, k3, k4⟩ | ⟨rfl, -⟩
            · rw [hfull] at h1; cases h1
              exact ⟨[], by simp, by simp, by simp, by simp [flat_nil]⟩
            rotate_left
            · exact ⟨[], by simp, by simp, by simp, by simp [flat_nil]⟩
            · rw [hfull] at h1; cases h1
              refine ⟨vs, by rw [k1, flat_length h3], fun b' e j v hj => ?_, by simp, k4⟩
              cases e; rw [Addr.add_lit]; exact (k3 j v hj).2
          obtain ⟨olds, ho1, ho2, ho3, ho4⟩ := holds
          have hcap := grownCap_ge w (l.length + m.length) l.length e
          have hrun : (Builtin.append_ #[t, t] ty #[a.eval S, a.eval X]).run P w = .ok (.slice (some ⟨w.heap.size, 0, none⟩) (l.length + m.length) (grownCap w (l.length + m.length) l.length e))
              (w.drew.alloc (.cells (olds.toArray ++ news.toArray ++ Builtin.zeroCells z.cells (grownCap w (l.length + m.length) l.length e - (l.length + m.length))) e)) := by
            rw [hfull, hvx]
            cases b with
            | none =>
              obtain rfl := ho3 rfl
              have hl0 : l.length = 0 := by
                have := Nat.mul_eq_zero.1 (by simpa using ho1.symm : l.length * te.sz = 0)
                rcases this with h1 | h1
                · exact h1
                · omega
              have := run_append_nil (P := P) w t ty e i' z ht k1 hz ⟨gx, ox, none⟩ m.length cx news (by rw [← k3]; exact hnl') hnews hmpos (by omega) (by have := Nat.le_trans (Nat.mul_le_mul_right te.by_ (Nat.le_add_left m.length l.length)) hnn.2; rw [← k4]; omega)
              rw [hl0]
              simpa using this
            | some b =>
              have := run_append_grow (P := P) w t ty e i' z ht k1 hz b l.length l.length olds (by rw [← k3]; exact ho1) (ho2 b rfl) ⟨gx, ox, none⟩ m.length cx news (by rw [← k3]; exact hnl') hnews (by omega) (by omega)
                (growslice_fits (by omega) (by rw [← k4]; exact hnn.2))
              exact this
          have hcm : grownCap w (l.length + m.length) l.length e ≤ maxLen := grownCap_le_maxLen w _ _ e (by unfold maxLen; omega)
          have hownNew : (w.drew.alloc (.cells (olds.toArray ++ news.toArray ++ Builtin.zeroCells z.cells (grownCap w (l.length + m.length) l.length e - (l.length + m.length))) e)).ownsRow 0 e te.sz
              (.slice (some ⟨w.heap.size, 0, none⟩) (l.length + m.length) (grownCap w (l.length + m.length) l.length e)) (l ++ m).length (olds ++ news) := by
            rw [hlen]
            refine ⟨by rw [List.length_append, ho1, hnl', Nat.add_mul], .inr ⟨w.heap.size, _, _, rfl, Nat.zero_le _, Go.heap_alloc_new w.drew _, hcap, hcm, ?_, ?_⟩⟩
            · simp only [Array.size_append, List.size_toArray, size_zeroCells, hzs, ho1, hnl', ← Nat.add_mul]
              congr 1
              omega
            · have e1 : (olds ++ news).length = (l.length + m.length) * te.sz := by rw [List.length_append, ho1, hnl', Nat.add_mul]
              simp only [Array.toList_append, List.append_assoc]
              rw [← List.append_assoc, ← e1]
              exact List.take_left
          have hms : MStep w (w.drew.alloc (.cells (olds.toArray ++ news.toArray ++ Builtin.zeroCells z.cells (grownCap w (l.length + m.length) l.length e - (l.length + m.length))) e)) none := MStep.drew (MStep.alloc w.drew _ none)
          have hrepn : ∀ (i : Nat) x u, (flat (l ++ m))[i]? = some x → (olds ++ news)[i]? = some u → RepD G.im w x u := by
            intro i x u hx hu
            have e1 : olds.length = (flat l).length := by rw [ho1, flat_length hlu.1]
            rw [flat_append] at hx
            by_cases hi : i < (flat l).length
            · rw [List.getElem?_append_left hi] at hx
              rw [List.getElem?_append_left (by omega)] at hu
              exact ho4 i x u hx hu
            · rw [List.getElem?_append_right (by omega)] at hx
              rw [List.getElem?_append_right (by omega), e1] at hu
              exact hnr _ x u hx hu
          obtain ⟨G', hG'⟩ := h.ownNew hd (ts := tmpsOf [S, X]) hms (by simp) hownNew (by rw [hlen]; omega) hu' hs' hrepn (fun g hg => by simp [Value.ownBlock] at hg; left; omega) (by simp) (by simp) (fun h => absurd (List.append_eq_nil_iff.1 h).2 hm0)
          exact ⟨_, _, G', hrun, hG'⟩
        · -- one's own
          obtain ⟨v', w', hrun, hown', hgrown, -⟩ := run_append_own (P := P) w 0 t ty e i' z te.sz te.by_ ht k1 hz k3.symm k4.symm hzs hsz0 (a.eval S) l.length vs hown ⟨gx, ox, none⟩ m.length cx news hnl' hnews hone
            (by unfold maxLen; omega) hnn.2 (Nat.zero_le _)
          rw [← hlen] at hown'
          have hvs : vs.length = (flat l).length := by rw [hown.1, flat_length hlu.1]
          -- the block that has grown
          have hSt : ∀ g0, (a.eval S).ownBlock = some g0 → ∃ s, s ∈ tmpsOf [S, X] ∧ G.own g0 = some (.t s, 0, 0) := by
            intro g0 hg0
            obtain ⟨h1, -⟩ := hg g0 hg0
            cases hS' : S with
            | tmp s => subst hS'; exact ⟨s, by simp [tmpsOf], h1⟩
            | const v =>
              subst hS'
              generalize hev : st.ev (.const v) = s at hS hq
              cases s <;> simp only [PV.grow, reduceCtorEq, Option.some.injEq, Prod.mk.injEq] at hq
              · have hS'' : a.eval (.const v) = .slice none 0 0 := hS
                rw [hS''] at hg0; simp [Value.ownBlock] at hg0
              · simp only [St.ev] at hev
                have : ∀ v, cpv v ≠ .own e te.sz l := by
                  intro v; unfold cpv cpc
                  repeat' split
                  all_goals (first | (intro h; cases h; done) | simp)
                obtain ⟨rfl, rfl⟩ := hq
                rcases hq1 with h1 | h1
                · cases h1
                · cases h1; exact absurd hev (this v)
            | global g => subst hS'; simp [St.ev, PV.grow] at hq
            | func f => subst hS'; simp [St.ev, PV.grow] at hq
          -- where the old cells of that block are
          have hcells : ∀ g0 o, (a.eval S).ownBlock = some g0 → G.im g0 o → o < vs.length ∧ w'.cell? ⟨g0, o, none⟩ = w.cell? ⟨g0, o, none⟩ := by
            intro g0 o hg0 him
            obtain ⟨-, h2, h3⟩ := hg g0 hg0
            have ho : o < vs.length := by
              apply Classical.byContradiction; intro hc
              exact h3 o (by omega) him
            refine ⟨ho, ?_⟩
            have e1 := hown.cells hg0 o _ (List.getElem?_eq_getElem ho)
            rw [Addr.add_lit, Nat.zero_add] at e1
            by_cases hsame : v'.ownBlock = some g0
            · have e2 := hown'.cells hsame o vs[o] (by rw [List.getElem?_append_left ho]; exact List.getElem?_eq_getElem ho)
              rw [Addr.add_lit, Nat.zero_add] at e2
              rw [e1, e2]
            · -- a new row: the old one is as it was: the run says so
              rcases hown.2 with ⟨hn, _⟩ | ⟨g, cap, cur, hv, _, hgg, hnc, hcm, hcs, htk⟩
              · rw [hn] at hg0; simp [Value.ownBlock] at hg0
              · rw [hv] at hg0 hrun
                simp [Value.ownBlock] at hg0
                subst hg0
                by_cases hroom : l.length + m.length ≤ cap
                · have hfit : l.length * i'.size + news.length ≤ cur.size := by rw [hnl', hcs, ← k3, ← Nat.add_mul]; exact Nat.mul_le_mul_right _ hroom
                  have hr2 := run_append_room (P := P) w t ty e i' ht k1 g l.length cap cur hgg ⟨gx, ox, none⟩ m.length cx news (by rw [← k3]; exact hnl') hnews hone hroom hfit
                  rw [hrun] at hr2
                  cases hr2
                  simp [Value.ownBlock] at hsame
                · have hr2 := run_append_grow (P := P) w t ty e i' z ht k1 hz ⟨g, 0, none⟩ l.length cap vs (by rw [← k3]; exact hown.1) (hown.cells (g := g) (by rw [hv]; rfl)) ⟨gx, ox, none⟩ m.length cx news (by rw [← k3]; exact hnl') hnews (by omega) (by omega) (growslice_fits (by omega) (by rw [← k4]; exact hnn.2))
                  rw [hrun] at hr2
                  cases hr2
                  rw [cell_alloc_lt (w := w.drew) (h.hp.imlt g o him)]
                  rfl
          have hblk' : ∀ g, v'.ownBlock = some g → w.heap.size ≤ g ∨ (a.eval S).ownBlock = some g := by
            intro g' hg'
            rcases hown.2 with ⟨hn, hn0⟩ | ⟨g, cap, cur, hv, _, hgg, hnc, hcm, hcs, htk⟩
            · have hl0 : l = [] := List.length_eq_zero_iff.1 hn0
              subst hl0
              rw [hn] at hrun
              have hr2 := run_append_nil (P := P) w t ty e i' z ht k1 hz ⟨gx, ox, none⟩ m.length cx news (by rw [← k3]; exact hnl') hnews hmpos (by omega) (by rw [← k4]; simp at hnn; omega)
              rw [hrun] at hr2
              cases hr2
              simp [Value.ownBlock] at hg'
              left; omega
            · rw [hv] at hrun
              by_cases hroom : l.length + m.length ≤ cap
              · have hfit : l.length * i'.size + news.length ≤ cur.size := by rw [hnl', hcs, ← k3, ← Nat.add_mul]; exact Nat.mul_le_mul_right _ hroom
                have hr2 := run_append_room (P := P) w t ty e i' ht k1 g l.length cap cur hgg ⟨gx, ox, none⟩ m.length cx news (by rw [← k3]; exact hnl') hnews hone hroom hfit
                rw [hrun] at hr2
                cases hr2
                simp [Value.ownBlock] at hg'
                subst hg'
                right; rw [hv]; rfl
              · have hr2 := run_append_grow (P := P) w t ty e i' z ht k1 hz ⟨g, 0, none⟩ l.length cap vs (by rw [← k3]; exact hown.1) (hown.cells (g := g) (by rw [hv]; rfl)) ⟨gx, ox, none⟩ m.length cx news (by rw [← k3]; exact hnl') hnews (by omega) (by omega) (growslice_fits (by omega) (by rw [← k4]; exact hnn.2))
                rw [hrun] at hr2
                cases hr2
                simp [Value.ownBlock] at hg'
                left; omega
          have hrepn : ∀ (i : Nat) x u, (flat (l ++ m))[i]? = some x → (vs ++ news)[i]? = some u → RepD G.im w x u := by
            intro i x u hx hu
            rw [flat_append] at hx
            by_cases hi : i < (flat l).length
            · rw [List.getElem?_append_left hi] at hx
              rw [List.getElem?_append_left (by omega)] at hu
              rcases hs.1.sl_shape with ⟨rfl, h1⟩ | ⟨g, o, c, h1, h2, h3, vs2, q1, q2, q3, q4⟩ | ⟨rfl, -⟩
              · simp [flat_nil] at hi
              rotate_left
              · simp [flat_nil] at hi
              · -- the two lists of old cells are one
                have hg1 : (a.eval S).ownBlock = some g := by rw [h1]; rfl
                have e1 := hown.cells hg1 i u hu
                rw [Addr.add_lit, Nat.zero_add] at e1
                have ho0 : o = 0 := by
                  rcases hown.2 with ⟨hn, _⟩ | ⟨g', cap, cur, hv, _⟩
                  · rw [hn] at h1; cases h1
                  · rw [hv] at h1; cases h1; rfl
                subst ho0
                have hi2 : i < vs2.length := by omega
                have e2 := (q3 i vs2[i] (List.getElem?_eq_getElem hi2)).2
                rw [Nat.zero_add, e1] at e2
                cases e2
                exact q4 i x _ hx (List.getElem?_eq_getElem hi2)
            · rw [List.getElem?_append_right (by omega)] at hx
              rw [List.getElem?_append_right (by omega), hvs] at hu
              exact hnr _ x u hx hu
          obtain ⟨G', hG'⟩ := h.ownNew hd (ts := tmpsOf [S, X]) (MStep.grownBy hgrown) hSt hown' (by rw [hlen]; omega) hu' hs' hrepn hblk' (fun g0 o hg0 him => (hcells g0 o hg0 him).2) (fun g0 o hg0 _ him => by
            have := (hcells g0 o hg0 him).1
            rw [List.length_append]; omega) (fun h => absurd (List.append_eq_nil_iff.1 h).2 hm0)
          exact ⟨v', w', G', by rw [hvx]; exact hrun, hG'⟩
    · cases he
  · cases he

end Go.Bee


namespace Go.Bee
set_option linter.unusedVariables false

theorem RepC.one {P : Program} {G : Gh} {w : World} {p : Pos} {x : PV} {v : Value} (h : RepC P G w p x v) (hx : pvCells x = some [x]) : v.oneCell' = true := by
  cases x <;> simp only [pvCells, reduceCtorEq] at hx
  case d y => exact h.1.oneCell h.2
  case nilS => have h' : v = .slice none 0 0 := h; rw [h']; rfl
  case nn sz l => cases h.1 <;> rfl
  case own e sz l => cases h.1 <;> rfl
  case ptr b o => have h' := h.1; rw [h']; rfl
  case rsl b e sz n => have h' := h.1; rw [h']; rfl
  case rsv b sz n => obtain ⟨k, h1, h2, h3, h4⟩ := h; rw [h2]; rfl
  case q x => exact h.1.oneCell h.2
  case zs x => exact h.1.oneCell
  case zp x => obtain ⟨g, o, h1, h2⟩ := h; rw [h1]; rfl
  case eptr cs => obtain ⟨g, o, hv, _⟩ := h; rw [hv]; rfl
  case clo f caps => obtain ⟨vs, hv, _⟩ := h; rw [hv]; rfl
  case fn K => obtain ⟨f, caps, hv, _⟩ := h; rw [hv]; rfl
  case efn K => obtain ⟨g, o, u, hv, _⟩ := h; rw [hv]; rfl
  case dp y => exact h.1.oneCell h.2
  case one => exact h
  case er b => rcases h with ⟨_, rfl⟩ | ⟨_, t, p, rfl⟩ <;> rfl
  case agg l => exact absurd h (by simp [RepC])
theorem oneCell_cells {v : Value} (h : v.oneCell' = true) : v.cells = #[v] := by
  cases v <;> first | rfl | simp [Value.oneCell'] at h
theorem pvCells_rep {P : Program} {G : Gh} {w : World} {loc : Loc} {x : PV} {v : Value} {new : List PV} (h : RepT P G w loc x v) (hx : pvCells x = some new) :
    v.cells.size = new.length ∧ (∀ u ∈ v.cells, u.oneCell' = true) ∧ ∀ (j : Nat) y u, new[j]? = some y → v.cells[j]? = some u → RepC P G w (loc, 0, j) y u := by
  have key : ∀ y, pvCells x = some [x] → x = y → RepC P G w (loc, 0, 0) y v → v.cells.size = [x].length ∧ (∀ u ∈ v.cells, u.oneCell' = true) ∧ ∀ (j : Nat) y u, [x][j]? = some y → v.cells[j]? = some u → RepC P G w (loc, 0, j) y u := by
    rintro y hp rfl hr
    have h1 := hr.one hp
    rw [oneCell_cells h1]
    refine ⟨rfl, by simpa using h1, fun j y u hy hu => ?_⟩
    cases j with
    | zero => simp at hy hu; subst hy; subst hu; exact hr
    | succ j => simp at hy
  cases x
  case agg l =>
    simp only [pvCells, Option.some.injEq] at hx
    subst hx
    obtain ⟨cs, rfl, hsz, h1, hr⟩ := h
    exact ⟨hsz, h1, hr⟩
  case tup l => simp [pvCells] at hx
  case junk => simp [pvCells] at hx
  case und => simp [pvCells] at hx
  all_goals (simp only [pvCells, Option.some.injEq] at hx; subst hx; exact key _ rfl rfl h)

theorem foldl_set (off : Nat) : ∀ (vs : List Value) (k : Nat) (cells : List Value), off + k + vs.length ≤ cells.length →
    ((vs.zipIdx k).foldl (fun (cs : Array Value) (c : Value × Nat) => cs.setIfInBounds (off + c.2) c.1) cells.toArray) = (cells.take (off + k) ++ vs ++ cells.drop (off + k + vs.length)).toArray
  | [], k, cells, h => by simp
  | v :: vs, k, cells, h => by
    simp only [List.zipIdx_cons, List.foldl_cons]
    have h1 : cells.toArray.setIfInBounds (off + k) v = (cells.set (off + k) v).toArray := by simp
    simp only [List.length_cons] at h
    rw [h1, foldl_set off vs (k + 1) (cells.set (off + k) v) (by simp; omega)]
    congr 1
    have h2 : off + (k + 1) = off + k + 1 := by omega
    have hlt : off + k < cells.length := by omega
    rw [h2, List.take_set, List.drop_set_of_lt (by omega), List.take_succ_eq_append_getElem hlt]
    rw [List.set_append_right _ _ (by simp; omega)]
    simp only [List.length_take, List.append_assoc]
    have h3 : off + k - min (off + k) cells.length = 0 := by omega
    rw [h3]
    simp only [List.set_cons_zero, List.cons_append, List.nil_append, List.length_cons]
    congr 4
    omega
theorem fill_one (place : Nat → Option (Nat × Nat)) (cells : Array Value) (i off size : Nat) (v : Value) (rest : List (Nat × Value)) (hp : place i = some (off, size)) (hv : v.cells.size = size) (hf : off + size ≤ cells.size) :
    Instr.fill place cells ((i, v) :: rest) = Instr.fill place (cells.toList.take off ++ v.cells.toList ++ cells.toList.drop (off + size)).toArray rest := by
  have hc : (decide (v.cells.size ≠ size) || decide (off + v.cells.size > cells.size)) = false := by simp; omega
  have hfold : (v.cells.zipIdx.foldl (fun (cs : Array Value) (c : Value × Nat) => cs.setIfInBounds (off + c.2) c.1) cells) = (cells.toList.take off ++ v.cells.toList ++ cells.toList.drop (off + size)).toArray := by
    have h1 := foldl_set off v.cells.toList 0 cells.toList (by simp; omega)
    simp only [Nat.add_zero, Array.toArray_toList] at h1
    rw [← hv]
    have h2 : v.cells.toList.length = v.cells.size := by simp
    rw [h2] at h1
    rw [← h1, ← Array.foldl_toList, Array.toList_zipIdx]
  simp only [Instr.fill, hp]
  rw [if_neg (by simpa using hc)]
  congr 1

theorem fill_row (size : Nat) : ∀ (vs : List Value) (k : Nat) (cells : List Value), (∀ v ∈ vs, v.cells.size = size) → (k + vs.length) * size ≤ cells.length →
    Instr.fill (fun i => some (i * size, size)) cells.toArray ((vs.zipIdx k).map fun c => (c.2, c.1)) = some (cells.take (k * size) ++ vs.flatMap (fun v => v.cells.toList) ++ cells.drop ((k + vs.length) * size)).toArray
  | [], k, cells, _, h => by simp [Instr.fill]
  | v :: vs, k, cells, hv, h => by
    have hv1 := hv v (List.mem_cons_self ..)
    simp only [List.length_cons] at h
    have e0 : k * size + size = (k + 1) * size := by rw [Nat.add_mul]; omega
    have e1 : (k + 1) * size ≤ (k + (vs.length + 1)) * size := Nat.mul_le_mul_right _ (by omega)
    simp only [List.zipIdx_cons, List.map_cons]
    rw [fill_one _ _ k (k * size) size v _ rfl hv1 (by simp; omega)]
    simp only []
    rw [fill_row size vs (k + 1) (cells.take (k * size) ++ v.cells.toList ++ cells.drop (k * size + size)) (fun u hu => hv u (List.mem_cons_of_mem _ hu)) (by
      have e2 : k + 1 + vs.length = k + (vs.length + 1) := by omega
      have e3 : v.cells.toList.length = size := by simp [hv1]
      rw [e2]; simp only [List.length_append, List.length_take, List.length_drop, e3]; omega)]
    congr 2
    have e2 : k + 1 + vs.length = k + (vs.length + 1) := by omega
    have e3 : v.cells.toList.length = size := by simp [hv1]
    have e4 : (cells.take (k * size) ++ v.cells.toList).length = (k + 1) * size := by rw [List.length_append, List.length_take, e3, Nat.min_eq_left (by omega)]; exact e0
    rw [List.take_append_of_le_length (by omega), List.take_of_length_le (by omega), e2]
    have e5 : (cells.take (k * size) ++ v.cells.toList ++ cells.drop (k * size + size)).drop ((k + (vs.length + 1)) * size) = cells.drop ((k + (vs.length + 1)) * size) := by
      rw [List.drop_append, e4, List.drop_of_length_le (by omega), List.nil_append, List.drop_drop]
      congr 1
      omega
    rw [e5]
    simp [List.append_assoc]

def PV.pdC : PV → Option PD
  | .d x => some x
  | .own _ sz l => some (.sl sz l)
  | .nn sz l => some (.sl sz l)
  | .nilS => some (.sl 0 [])
  | .dp x => some x
  | _ => none
def pdL : List PV → Option (List PD)
  | [] => some []
  | x :: xs => (x.pdC).bind fun y => (pdL xs).map fun ys => y :: ys
def PV.pd : PV → Option PD
  | .agg l => (pdL l).map .agg
  | x => x.pdC
theorem pdC_rep {P : Program} {G : Gh} {w : World} {p : Pos} {x : PV} {v : Value} {y : PD} (h : RepC P G w p x v) (hx : x.pdC = some y) : RepD G.im w y v ∧ y.scalar = true := by
  cases x <;> simp only [PV.pdC, reduceCtorEq, Option.some.injEq] at hx <;> subst hx
  case d x => exact h
  case nilS => have h' : v = .slice none 0 0 := h; rw [h']; exact ⟨.nil 0, rfl⟩
  case nn sz l => exact ⟨h.1, rfl⟩
  case own e sz l => exact ⟨h.1, rfl⟩
  case dp y => exact ⟨h.1.keep (Mine.im G w p), h.2⟩
theorem pdL_get : ∀ {l : List PV} {ys : List PD}, pdL l = some ys → ys.length = l.length ∧ ∀ (i : Nat) x y, l[i]? = some x → ys[i]? = some y → x.pdC = some y
  | [], ys, h => by simp [pdL] at h; subst h; simp
  | x :: xs, ys, h => by
    simp only [pdL, Option.bind_eq_some_iff, Option.map_eq_some_iff] at h
    obtain ⟨y, hy, zs, hz, rfl⟩ := h
    obtain ⟨h1, h2⟩ := pdL_get hz
    refine ⟨by simp [h1], fun i a b ha hb => ?_⟩
    cases i with
    | zero => simp at ha hb; subst ha; subst hb; exact hy
    | succ i => simp at ha hb; exact h2 i a b ha hb
theorem pd_rep {P : Program} {G : Gh} {w : World} {loc : Loc} {x : PV} {v : Value} {y : PD} (h : RepT P G w loc x v) (hx : x.pd = some y) :
    v.cells.size = y.cells.length ∧ (∀ c ∈ y.cells, c.scalar = true) ∧ (∀ (i : Nat) c u, y.cells[i]? = some c → v.cells[i]? = some u → RepD G.im w c u) := by
  have key : ∀ z, x = z → z.pdC = some y → RepC P G w (loc, 0, 0) z v → v.cells.size = y.cells.length ∧ (∀ c ∈ y.cells, c.scalar = true) ∧ (∀ (i : Nat) c u, y.cells[i]? = some c → v.cells[i]? = some u → RepD G.im w c u) := by
    rintro z rfl hz hr
    obtain ⟨h1, h2⟩ := pdC_rep hr hz
    have h3 : y.cells = [y] := by cases y <;> first | rfl | simp [PD.scalar] at h2
    rw [oneCell_cells (h1.oneCell h2), h3]
    refine ⟨rfl, by simpa using h2, fun i c u hc hu => ?_⟩
    cases i with
    | zero => simp at hc hu; subst hc; subst hu; exact h1
    | succ i => simp at hc
  cases x
  case agg l =>
    simp only [PV.pd, Option.map_eq_some_iff] at hx
    obtain ⟨ys, hy, rfl⟩ := hx
    obtain ⟨cs, rfl, hsz, h1, hr⟩ := h
    obtain ⟨h2, h3⟩ := pdL_get hy
    refine ⟨by simp [PD.cells, Value.cells, hsz, h2], fun c hc => ?_, fun i c u hc hu => ?_⟩
    · obtain ⟨i, hi, rfl⟩ := List.mem_iff_getElem.1 (show c ∈ ys from hc)
      have hi2 : i < l.length := by omega
      have hi3 : i < cs.size := by omega
      exact (pdC_rep (hr i l[i] cs[i] (List.getElem?_eq_getElem hi2) (Array.getElem?_eq_getElem hi3)) (h3 i _ _ (List.getElem?_eq_getElem hi2) (List.getElem?_eq_getElem hi))).2
    · have hc' : ys[i]? = some c := hc
      obtain ⟨hi, _⟩ := List.getElem?_eq_some_iff.1 hc'
      have hi2 : i < l.length := by omega
      exact (pdC_rep (hr i l[i] u (List.getElem?_eq_getElem hi2) hu) (h3 i _ _ (List.getElem?_eq_getElem hi2) hc')).1
  case tup l => simp [PV.pd, PV.pdC] at hx
  all_goals exact key _ rfl hx h

def pdAll : List PV → Option (List PD)
  | [] => some []
  | x :: xs => (x.pd).bind fun y => (pdAll xs).map fun ys => y :: ys
def evBuildSlice (P : Program) (t : TypeId) (len : Nat) (parts : List (Nat × PV)) : Option PV :=
  (tyi P t).bind fun i => i.el.bind fun e => (tyi P e).bind fun te => (pdAll (parts.map (·.2))).bind fun ys =>
    if parts.map (·.1) = List.range len ∧ ys.all (fun y => y.cells.length == te.sz) = true ∧ len * te.sz ≤ 16777216 ∧ len ≤ 16777216 ∧ te.zero.length = te.sz then some (.own e te.sz ys) else none
theorem pdAll_flat {P : Program} {G : Gh} {w : World} {f : Operand → PV} {g : Operand → Value} (hfg : ∀ x, ∃ loc, RepT P G w loc (f x) (g x)) : ∀ (xs : List Operand) (ys : List PD), pdAll (xs.map f) = some ys →
    ys.length = xs.length ∧ ((xs.map g).flatMap fun v => v.cells.toList).length = (flat ys).length ∧ (∀ c ∈ flat ys, c.scalar = true) ∧
    (∀ (i : Nat) c u, (flat ys)[i]? = some c → ((xs.map g).flatMap fun v => v.cells.toList)[i]? = some u → RepD G.im w c u) ∧ (∀ sz, (∀ y ∈ ys, y.cells.length = sz) → ∀ v ∈ xs.map g, v.cells.size = sz)
  | [], ys, h => by simp [pdAll] at h; subst h; simp [flat_nil]
  | x :: xs, ys, h => by
    simp only [List.map_cons, pdAll, Option.bind_eq_some_iff, Option.map_eq_some_iff] at h
    obtain ⟨y, hy, zs, hz, rfl⟩ := h
    obtain ⟨h1, h2, h3, h4, h5⟩ := pdAll_flat hfg xs zs hz
    obtain ⟨loc, hr⟩ := hfg x
    obtain ⟨k1, k2, k3⟩ := pd_rep hr hy
    have hl : (g x).cells.toList.length = y.cells.length := by simpa using k1
    refine ⟨by simp [h1], ?_, fun c hc => ?_, fun i c u hc hu => ?_, fun sz hsz v hv => ?_⟩
    · rw [flat_cons]; simp only [List.map_cons, List.flatMap_cons, List.length_append, h2, hl]
    · rw [flat_cons] at hc; exact (List.mem_append.1 hc).elim (k2 c) (h3 c)
    · rw [flat_cons] at hc
      simp only [List.map_cons, List.flatMap_cons] at hu
      by_cases hi : i < y.cells.length
      · rw [List.getElem?_append_left hi] at hc
        rw [List.getElem?_append_left (by omega)] at hu
        exact k3 i c u hc (by simpa using hu)
      · rw [List.getElem?_append_right (by omega)] at hc
        rw [List.getElem?_append_right (by omega), hl] at hu
        exact h4 _ c u hc hu
    · simp only [List.map_cons, List.mem_cons] at hv
      rcases hv with rfl | hv
      · rw [k1]; exact hsz y (List.mem_cons_self ..)
      · exact h5 sz (fun y hy => hsz y (List.mem_cons_of_mem _ hy)) v hv
theorem zip_parts : ∀ (parts : List (Nat × Operand)) (k : Nat) (g : Operand → Value), parts.map (·.1) = (List.range parts.length).map (· + k) →
    parts.map (fun p => (p.1, g p.2)) = (((parts.map (·.2)).map g).zipIdx k).map fun c => (c.2, c.1)
  | [], k, g, h => by simp
  | (i, x) :: ps, k, g, h => by
    simp only [List.map_cons, List.length_cons, List.range_succ_eq_map, List.map_map, List.cons.injEq, Nat.zero_add] at h
    obtain ⟨h1, h2⟩ := h
    simp only [List.map_cons, List.zipIdx_cons, h1]
    rw [zip_parts ps (k + 1) g (by rw [h2]; apply List.map_congr_left; intro a _; simp; omega)]
theorem evBuildSlice_ok {P : Program} {F : Fr} {G : Gh} {st : St} {a : Act} {w : World} (h : Rel P F G st a w) {d : Nat} (hd : d < F.nt) {t : TypeId} {len : Nat} {parts : Array (Nat × Operand)} {r : PV}
    (he : evBuildSlice P t len (parts.toList.map fun p => (p.1, st.ev p.2)) = some r) (ts : List Nat) :
    ∃ rv w' G', (Instr.buildSlice t len (parts.map fun (i, x) => (i, a.eval x))).run P w = .ok rv w' ∧ Rel P F G' (st.upd ts (some d) r st.bx) (a.put (some d) rv) w' := by
  unfold evBuildSlice at he
  simp only [Option.bind_eq_some_iff] at he
  obtain ⟨i, hi, e, hel, te, hte, ys, hys, he⟩ := he
  split at he
  · rename_i hc
    cases he
    obtain ⟨hrange, hall, hlim, hlim2, hzl⟩ := hc
    have ht := tyi_el hi hel
    obtain ⟨i', td, k1, k2, k3, k4, k5, k6, k7, k8, k9, k10⟩ := tyi_spec hte
    have hps : (parts.toList.map fun p => (p.1, st.ev p.2)).map (·.2) = (parts.toList.map (·.2)).map st.ev := by simp
    rw [hps] at hys
    obtain ⟨q1, q2, q3, q4, q5⟩ := pdAll_flat (P := P) (G := G) (w := w) (f := st.ev) (g := a.eval) (fun x => ⟨_, h.ev x⟩) _ _ hys
    have hu : ∀ y ∈ ys, y.cells.length = te.sz := by
      intro y hy
      have := List.all_eq_true.1 hall y hy
      simpa using this
    have hrange' : parts.toList.map (·.1) = List.range len := by rw [List.map_map] at hrange; exact hrange
    have hlen : parts.toList.length = len := by
      have := congrArg List.length hrange'
      simpa using this
    have hysl : ys.length = len := by rw [q1]; simpa using hlen
    have hzip := zip_parts parts.toList 0 a.eval (by rw [hrange', hlen]; simp)
    generalize hvs : (parts.toList.map (·.2)).map a.eval = vs at *
    have hvl : vs.length = len := by rw [← hvs]; simpa using hlen
    generalize hzc : (if len * te.sz = 0 then (#[] : Array Value) else ((i'.zero.map (·.cells)).getD #[])) = zc
    have hzero : len * te.sz ≠ 0 → (zeroValue e).run P w = .ok ((i'.zero).getD default) w ∧ ((i'.zero).getD default).cells = zc := by
      intro h0
      simp only [h0, if_false] at hzc
      have hsz0 : 0 < te.sz := Nat.pos_of_ne_zero (fun e => h0 (by rw [e]; simp))
      cases hz : i'.zero with
      | none => rw [k9, hz] at hzl; simp at hzl; omega
      | some z =>
        rw [hz] at hzc
        simp at hzc
        simp [zeroValue, typeInfo, k1, hz, hzc]
    have hfill := fill_row te.sz vs 0 ((Array.range (len * te.sz)).map (fun j => zc[j % zc.size]!)).toList (q5 te.sz hu) (by simp [hvl])
    simp only [Nat.zero_mul, Nat.zero_add, hvl, List.take_zero, List.nil_append, Array.toArray_toList] at hfill
    have hdrop : ((Array.range (len * te.sz)).map (fun j => zc[j % zc.size]!)).toList.drop (len * te.sz) = [] := by apply List.drop_eq_nil_of_le; simp
    rw [hdrop, List.append_nil] at hfill
    have hp : (parts.map fun (x : Nat × Operand) => (x.1, a.eval x.2)).toList = (vs.zipIdx 0).map fun c => (c.2, c.1) := by
      rw [Array.toList_map]; exact hzip
    have hrun : (Instr.buildSlice t len (parts.map fun (x : Nat × Operand) => (x.1, a.eval x.2))).run P w =
        .ok (.slice (some ⟨w.heap.size, 0, none⟩) len len) (w.alloc (.cells (vs.flatMap fun v => v.cells.toList).toArray e)) := by
      have hlim' : ¬ (2 ^ 24 < len * te.sz) := by omega
      unfold Instr.buildSlice
      simp only [Sem.run_bind, run_underlying ht, Result.andThen_ok, tyi_size hte]
      simp only [gt_iff_lt, hlim', if_false]
      by_cases h0 : len * te.sz = 0
      · simp only [h0, if_true] at hzc
        subst hzc
        simp only [h0, if_true]
        rw [h0] at hfill
        simp only [Sem.run_bind, Sem.run_pure, Result.andThen_ok, hp, hfill]
        simp [newRow]
      · obtain ⟨z1, z2⟩ := hzero h0
        simp only [h0, if_false]
        simp only [Sem.run_bind, Sem.run_pure, Result.andThen_ok, z1, z2, hp, hfill]
        simp [newRow]
    have hown : (w.alloc (.cells (vs.flatMap fun v => v.cells.toList).toArray e)).ownsRow 0 e te.sz (.slice (some ⟨w.heap.size, 0, none⟩) len len) ys.length (vs.flatMap fun v => v.cells.toList) := by
      have e1 : (vs.flatMap fun v => v.cells.toList).length = len * te.sz := by rw [q2, flat_length hu, hysl]
      refine ⟨by rw [e1, hysl], .inr ⟨w.heap.size, len, _, by rw [hysl], Nat.zero_le _, Go.heap_alloc_new w _, by omega, by unfold maxLen; omega, by simpa using e1, ?_⟩⟩
      rw [hysl]
      simp only []
      exact List.take_of_length_le (by omega)
    obtain ⟨G', hG'⟩ := h.ownNew hd (ts := ts) (MStep.alloc w _ none) (by simp) hown (by omega) hu q3 q4 (fun g hg => by simp [Value.ownBlock] at hg; left; omega) (by simp) (by simp) (fun h => by
      have h0 : len = 0 := by rw [← hysl, h]; rfl
      rw [h0]; exact .inr ⟨_, rfl⟩)
    exact ⟨_, _, G', hrun, hG'⟩
  · cases he

end Go.Bee


namespace Go.Bee
set_option linter.unusedVariables false

def pvCells0 : PV → Option (List PV)
  | .own e sz [] => some [.own e sz []]
  | x => pvCells x.bT
theorem pvCells0_rep {P : Program} {G : Gh} {w : World} {loc : Loc} {x : PV} {v : Value} {new : List PV} (h : RepT P G w loc x v) (hn : pvCells0 x = some new) :
    v.cells.size = new.length ∧ (∀ u ∈ v.cells, u.oneCell' = true) ∧ ∀ (j : Nat) y u, new[j]? = some y → v.cells[j]? = some u → ∀ p, RepC P G w p y u := by
  unfold pvCells0 at hn
  split at hn
  · cases hn
    obtain ⟨k1, k2, k3⟩ := pvCells_rep h (new := [.own _ _ []]) rfl
    refine ⟨k1, k2, fun j y u hy hu p => ?_⟩
    have h2 := k3 j y u hy hu
    match j, hy with
    | 0, hy => simp at hy; subst hy; exact OwnAt.any0 h2 p
    | j + 1, hy => simp at hy
  · obtain ⟨k1, k2, k3⟩ := pvCells_rep (h.bT loc) hn
    refine ⟨k1, k2, fun j y u hy hu p => ?_⟩
    have h2 := (k3 j y u hy hu).bC p
    have h3 : y.bC = y := by
      have : ∀ z, pvCells (PV.bT z) = some new → ∀ y ∈ new, y.bC = y := by
        intro z hz y hy
        have hCC : ∀ q : PV, q.bC.bC = q.bC := by intro q; cases q <;> rfl
        cases z <;> simp only [PV.bT, PV.bV, pvCells, PV.bC, Option.some.injEq, reduceCtorEq] at hz <;> subst hz <;> first
          | (simp only [List.mem_singleton] at hy; subst hy; rfl)
          | (simp only [List.mem_map] at hy; obtain ⟨q, _, rfl⟩ := hy; exact hCC q)
      exact this _ hn y (List.mem_of_getElem? hy)
    rwa [h3] at h2
def bfill (fl : List (Option (Nat × Nat × Bool))) : List PV → List (Nat × PV) → Option (List PV)
  | cells, [] => some cells
  | cells, (i, x) :: rest => (fl[i]?.getD none).bind fun q => (pvCells0 x).bind fun new =>
      if new.length = q.2.1 ∧ q.1 + q.2.1 ≤ cells.length then bfill fl (cells.take q.1 ++ new ++ cells.drop (q.1 + q.2.1)) rest else none
def evBuild (P : Program) (t : TypeId) (parts : List (Nat × PV)) : Option PV :=
  (tyi P t).bind fun i => if i.fl.all (·.isSome) = true ∧ i.fl ≠ [] ∧ i.zero ≠ [] ∧ i.zero.all (fun x => !x.isJunk) = true then (bfill i.fl i.zero parts).map .agg else none

theorem bfill_ok {P : Program} {G : Gh} {w : World} {fl : List (Option (Nat × Nat × Bool))} {place : Nat → Option (Nat × Nat)} (hpl : ∀ i q, fl[i]?.getD none = some q → place i = some (q.1, q.2.1)) {f : Operand → PV} {g : Operand → Value}
    (hfg : ∀ x, ∃ loc, RepT P G w loc (f x) (g x)) : ∀ (parts : List (Nat × Operand)) (cells : List PV) (cs : List Value) (r : List PV), cs.length = cells.length → (∀ u ∈ cs, u.oneCell' = true) →
    (∀ (j : Nat) x u, cells[j]? = some x → cs[j]? = some u → ∀ p, RepC P G w p x u) → bfill fl cells (parts.map fun p => (p.1, f p.2)) = some r →
    ∃ rs : List Value, Instr.fill place cs.toArray (parts.map fun p => (p.1, g p.2)) = some rs.toArray ∧ rs.length = r.length ∧ (∀ u ∈ rs, u.oneCell' = true) ∧ ∀ (j : Nat) x u, r[j]? = some x → rs[j]? = some u → ∀ p, RepC P G w p x u
  | [], cells, cs, r, hl, h1, hr, he => by
    simp [bfill] at he
    subst he
    exact ⟨cs, by simp [Instr.fill], hl, h1, hr⟩
  | (i, x) :: ps, cells, cs, r, hl, h1, hr, he => by
    simp only [List.map_cons, bfill, Option.bind_eq_some_iff] at he
    obtain ⟨⟨off, sz, ag⟩, hq, new, hnew, he⟩ := he
    split at he
    · rename_i hc
      obtain ⟨hn, hf⟩ := hc
      simp only at hn hf he
      obtain ⟨loc, hx⟩ := hfg x
      obtain ⟨k1, k2, hany⟩ := pvCells0_rep hx hnew
      have hvl : (g x).cells.toList.length = new.length := by simpa using k1
      have := bfill_ok hpl hfg ps (cells.take off ++ new ++ cells.drop (off + sz)) (cs.take off ++ (g x).cells.toList ++ cs.drop (off + sz)) r (by simp only [List.length_append, List.length_take, List.length_drop, hl, hvl])
        (fun u hu => by
          simp only [List.mem_append] at hu
          rcases hu with (hu | hu) | hu
          · exact h1 u (List.mem_of_mem_take hu)
          · exact k2 u (by simpa using hu)
          · exact h1 u (List.mem_of_mem_drop hu))
        (fun j y u hy hu => by
          by_cases hj1 : j < off
          · rw [List.append_assoc, List.getElem?_append_left (by simp; omega), List.getElem?_take_of_lt hj1] at hy
            rw [List.append_assoc, List.getElem?_append_left (by simp; omega), List.getElem?_take_of_lt hj1] at hu
            exact hr j y u hy hu
          · by_cases hj2 : j < off + sz
            · rw [List.append_assoc, List.getElem?_append_right (by simp; omega), List.getElem?_append_left (by simp; omega)] at hy
              rw [List.append_assoc, List.getElem?_append_right (by simp; omega), List.getElem?_append_left (by simp; omega)] at hu
              have e1 : (cells.take off).length = off := by simp; omega
              have e2 : (cs.take off).length = off := by simp; omega
              rw [e1] at hy; rw [e2] at hu
              exact hany (j - off) y u hy (by simpa using hu)
            · rw [List.getElem?_append_right (by simp; omega), List.getElem?_drop] at hy
              rw [List.getElem?_append_right (by simp; omega), List.getElem?_drop] at hu
              have e1 : off + sz + (j - (cells.take off ++ new).length) = j := by simp; omega
              have e2 : off + sz + (j - (cs.take off ++ (g x).cells.toList).length) = j := by simp; omega
              rw [e1] at hy; rw [e2] at hu
              exact hr j y u hy hu) he
      obtain ⟨rs, q1, q2⟩ := this
      refine ⟨rs, ?_, q2⟩
      rw [List.map_cons, fill_one place cs.toArray i off sz (g x) _ (hpl i _ hq) (by rw [k1, hn]) (by simp; omega)]
      simpa using q1
    · cases he

theorem evBuild_ok {P : Program} {F : Fr} {G : Gh} {st : St} {a : Act} {w : World} (h : Rel P F G st a w) {t : TypeId} {parts : Array (Nat × Operand)} {r : PV} (loc : Loc)
    (he : evBuild P t (parts.toList.map fun p => (p.1, st.ev p.2)) = some r) : ∃ rv, (Instr.build t (parts.map fun (i, x) => (i, a.eval x))).run P w = .ok rv w ∧ RepT P G w loc r rv := by
  unfold evBuild at he
  simp only [Option.bind_eq_some_iff] at he
  obtain ⟨i, hi, he⟩ := he
  split at he
  · rename_i hc
    obtain ⟨hall, hne, hz0, hj⟩ := hc
    simp only [Option.map_eq_some_iff] at he
    obtain ⟨cells, hb, rfl⟩ := he
    obtain ⟨i', d, k1, k2, k3, k4, k5, k6, k7, k8, k9, k10⟩ := tyi_spec hi
    cases hzz : i'.zero with
    | none => rw [k9, hzz] at hz0; exact absurd rfl hz0
    | some z =>
      have hzero : i.zero = z.cells.toList.map cpc := by rw [k9, hzz]; rfl
      cases d <;> simp only at k10 <;> first | exact absurd k10 hne | skip
      rename_i fs
      -- the places
      have hplaces : ∀ (l : List Field), (l.map (fun f => match P.info? f.type, P.underlying f.type with
          | some i, some d => some (f.offset, i.size, match d with | .struct _ => true | .array _ _ => true | _ => false)
          | _, _ => none)).all (·.isSome) = true → ∃ places : List (Nat × Nat), l.mapM (fun f => (P.info? f.type).map fun i => (f.offset, i.size)) = some places ∧
          ∀ (j : Nat) q, ((l.map (fun f => match P.info? f.type, P.underlying f.type with
          | some i, some d => some (f.offset, i.size, match d with | .struct _ => true | .array _ _ => true | _ => false)
          | _, _ => none))[j]?).getD none = some q → places[j]? = some (q.1, q.2.1) := by
        intro l
        induction l with
        | nil => intro _; exact ⟨[], by simp, by simp⟩
        | cons f l ih =>
          intro hl
          simp only [List.map_cons, List.all_cons, Bool.and_eq_true] at hl
          obtain ⟨places, h1, h2⟩ := ih hl.2
          have hf := hl.1
          split at hf
          · rename_i i0 d0 e1 e2
            refine ⟨(f.offset, i0.size) :: places, by simp [List.mapM_cons, e1, h1], fun j q hq => ?_⟩
            cases j with
            | zero => simp [e1, e2] at hq; subst hq; simp
            | succ j => simp only [List.map_cons, List.getElem?_cons_succ] at hq ⊢; exact h2 j q hq
          · cases hf
      rw [k10] at hall hb
      obtain ⟨places, hp1, hp2⟩ := hplaces fs.toList hall
      rw [hzero] at hb hj
      have hone : ∀ u ∈ z.cells.toList, u.oneCell' = true := by
        intro u hu
        have := List.all_eq_true.1 hj (cpc u) (List.mem_map.2 ⟨u, hu, rfl⟩)
        exact cpc_cell (by simpa using this)
      obtain ⟨rs, q1, q2, q3, q4⟩ := bfill_ok (P := P) (G := G) (w := w) (place := fun x => places.toArray[x]?) (fun j q hq => by simpa using hp2 j q hq) (fun x => ⟨_, h.ev x⟩) parts.toList (z.cells.toList.map cpc) z.cells.toList cells (by simp) hone
        (fun j x u hx hu p => by
          rw [List.getElem?_map] at hx
          rw [hu] at hx
          simp at hx; subst hx
          exact cpc_rep p u) hb
      refine ⟨.agg rs.toArray, run_build w t _ _ ?_, ⟨rs.toArray, rfl, by simpa using q2, by simpa using q3, fun j x u hx hu => q4 j x u hx (by simpa using hu) _⟩⟩
      unfold Program.built
      simp only [k1, k2, hzz, hp1]
      rw [Array.toList_map]
      simpa using q1
  · cases he

end Go.Bee


namespace Go.Bee
set_option linter.unusedVariables false

def stripAt (cells : List PV) (o n : Nat) : List PV := cells.take o ++ ((cells.drop o).take n).map PV.bC ++ cells.drop (o + n)
def zplain : PV → Bool
  | .d (.bool _) => true
  | .d (.int _ _) => true
  | .d (.str _) => true
  | _ => false
def zfit : List PV → List PD → Bool
  | [], _ => true
  | y :: ys, c :: cs => zplain y && !c.isSl && zfit ys cs
  | _ :: _, [] => false
theorem zfit_get : ∀ {ys : List PV} {cs : List PD}, zfit ys cs = true → ys.length ≤ cs.length ∧ ∀ j, j < ys.length → (∃ y, ys[j]? = some y ∧ zplain y = true) ∧ ∀ x, cs[j]? = some x → x.isSl = false
  | [], cs, _ => ⟨Nat.zero_le _, fun j hj => by simp at hj⟩
  | y :: ys, [], h => by simp [zfit] at h
  | y :: ys, c :: cs, h => by
    simp only [zfit, Bool.and_eq_true, Bool.not_eq_true'] at h
    obtain ⟨h1, h2⟩ := zfit_get h.2
    refine ⟨by simpa using h1, fun j hj => ?_⟩
    cases j with
    | zero => exact ⟨⟨y, rfl, h.1.1⟩, fun x hx => by simp at hx; subst hx; exact h.1.2⟩
    | succ j => simpa using h2 j (by simpa using hj)
theorem zplain_rep {P : Program} {G : Gh} {w : World} {p : Pos} {x : PV} {v : Value} (h : RepC P G w p x v) (hx : zplain x = true) : isSlV v = false := by
  cases x <;> simp only [zplain, Bool.false_eq_true] at hx
  rename_i y
  cases y <;> simp only [Bool.false_eq_true] at hx <;> (obtain ⟨h1, -⟩ := h; cases h1; rfl)
def zv (x : PD) : PV := if x.isSl = true then .zs x else .one
def evZLoad (P : Program) (t : TypeId) (cs : List PD) : Option PV :=
  (tyi P t).bind fun i => if i.agg then none else cs.head?.map zv
theorem evZLoad_ok {P : Program} {G : Gh} {w : World} {t : TypeId} {cs : List PD} {r : PV} {u : Value} {l1 : Loc} (loc : Loc) (hx : RepT P G w l1 (.zp cs) u) (h : evZLoad P t cs = some r) :
    ∃ rv, (Instr.loadAt t u).run P w = .ok rv w ∧ RepT P G w loc r rv := by
  obtain ⟨g, o, rfl, vs, hl, hs, hv, hr⟩ := hx
  unfold evZLoad at h
  simp only [Option.bind_eq_some_iff] at h
  obtain ⟨i, hi, h⟩ := h
  split at h
  · cases h
  · rename_i hag
    simp only [Option.map_eq_some_iff] at h
    obtain ⟨x, hx, rfl⟩ := h
    have hx0 : cs[0]? = some x := by rw [← List.head?_eq_getElem?]; exact hx
    have hlt : 0 < vs.length := by rw [hl]; exact (List.getElem?_eq_some_iff.1 hx0).1
    have hv0 : vs[0]? = some vs[0] := List.getElem?_eq_getElem hlt
    have hzd := hr 0 x _ hx0 hv0
    have hc := (hv 0 _ hv0).2
    rw [Nat.add_zero] at hc
    refine ⟨vs[0], by simp [Instr.loadAt, Instr.sureAddr, loadVar, tyi_agg hi, hag, hc], ?_⟩
    unfold zv
    split
    · exact ⟨hzd, hs x (List.mem_of_getElem? hx0)⟩
    · exact hzd.oneCell
def evLoad (P : Program) (fl : AF) (t : TypeId) (x : PV) (B : Bx) : Option (PV × Bx) :=
  match x with
  | .ptr b off => (B b).bind fun cells => (tyi P t).bind fun i => (bxRead cells off i.sz i.agg).bind fun r =>
      if fl.mv = true then (if fl.be = true then some (r, B.set b (stripAt cells off (if i.agg then i.sz else 1))) else none) else some (r.bV, B)
  | .eptr cs => (evELoad P t cs).map fun r => (r, B)
  | .efn K => ((tyi P t).bind fun i => if i.agg = true then none else some (PV.fn K)).map fun r => (r, B)
  | .zp cs => (evZLoad P t cs).map fun r => (r, B)
  | _ => none
def evStore (P : Program) (fl : AF) (t : TypeId) (x y : PV) (B : Bx) : Option Bx :=
  match x with
  | .ptr b off => (B b).bind fun cells => (tyi P t).bind fun i => (pvCells (mvd fl.mv y)).bind fun new =>
      if fl.be = true ∧ new.length = i.sz ∧ off + new.length ≤ cells.length then some (B.set b (cells.take off ++ new ++ cells.drop (off + new.length))) else none
  | .zp cs => (tyi P t).bind fun i => (pvCells y.bT).bind fun new =>
      if fl.be = true ∧ new.length = i.sz ∧ 0 < new.length ∧ zfit new cs = true then some B else none
  | _ => none
def PV.isAt : PV → Bool
  | .d _ => true
  | .nilS => true
  | .und => true
  | .nn _ _ => true
  | .ptr _ _ => true
  | .eptr _ => true
  | _ => false
def evMinMax (mx : Bool) : PV → PV → Option PV
  | .d (.int k a), .d (.int k' b) => if k = k' then some (.d (.int k (if mx then max a b else min a b))) else none
  | _, _ => none
def evMake (P : Program) (fl : AF) (t : TypeId) (d : Nat) (x y : PV) (B : Bx) : Option (PV × Bx) :=
  match x, y with
  | .d (.int _ n), .d (.int _ m) => (tyi P t).bind fun i => i.el.bind fun e => (tyi P e).bind fun te =>
      if fl.be = true ∧ B (.t d) = none ∧ n = m ∧ 0 ≤ n ∧ n ≤ 140737488355328 ∧ (te.by_ : Int) * n ≤ 281474976710656 ∧ te.zero.length = te.sz ∧ 0 < te.sz ∧ te.zero.all (fun x => !x.isJunk) = true then
        some (.rsl (.t d) e te.sz n.toNat, B.set (.t d) (List.replicate n.toNat te.zero).flatten) else none
  | _, _ => none
def ev1 (P : Program) (fl : AF) (o : Oper) (ρ : Operand → PV) (B : Bx) : Option (PV × Bx) :=
  match o.op with
  | .move x => some (mvd fl.mv (ρ x), B)
  | .assign x => some (mvd fl.mv (ρ x), B)
  | .pick c x y => match ρ c with
    | .d (.bool b) => some (pick2 b (ρ x).bT (ρ y).bT, B)
    | _ => none
  | .alloc t => o.dst.bind fun d => (tyi P t).bind fun i =>
      if fl.be = true ∧ B (.t d) = none ∧ i.zero ≠ [] ∧ i.zero.all (fun x => !x.isJunk) = true then some (.ptr (.t d) 0, B.set (.t d) i.zero) else none
  | .box t x => o.dst.bind fun d => (pvCells (mvd fl.mv (ρ x))).bind fun cells =>
      if fl.be = true ∧ B (.t d) = none then some (.ptr (.t d) 0, B.set (.t d) cells) else none
  | .build t parts => (evBuild P t (parts.toList.map fun p => (p.1, ρ p.2))).map fun r => (r, B)
  | .buildSlice t len parts => if o.dst.isSome then (evBuildSlice P t len (parts.toList.map fun p => (p.1, ρ p.2))).map fun r => (r, B) else none
  | .load t x => evLoad P fl t (ρ x) B
  | .store t x y => if o.dst = none then (evStore P fl t (ρ x) (ρ y) B).map fun B' => (.junk, B') else none
  | .nilCheck x => match ρ x with
    | .ptr b off => some (.ptr b off, B)
    | .eptr cs => some (.eptr cs, B)
    | _ => none
  | .binOp op t x y _ => (evBinO P op t y (ρ x) (ρ y)).map fun r => (r, B)
  | .unOp op _ x => (evUn op (ρ x)).map fun r => (r, B)
  | .convert s t x => if (tyi P s).isSome then (evConv2 P s t (ρ x)).map fun r => (r, B) else none
  | .makeFunc fn first caps => match fn with
    | .func f => if first.toList = [] ∧ caps.toList.all (fun c => ((ρ c).bC).isAt) = true then some (.clo f (caps.toList.map fun c => (ρ c).bC), B) else none
    | _ => none
  | .slice t x lo hi mx => if mx.isNone then (evSlice P t (ρ x) (lo.map ρ) (hi.map ρ)).map fun r => (r, B) else none
  | .fieldAddr t x f => (evFldAddr P t f (ρ x)).map fun r => (r, B)
  | .field t x f => (evFld P t f (ρ x)).map fun r => (r, B)
  | .indexAddr t x i => (evIA P t (ρ x) (ρ i)).map fun r => (r, B)
  | .makeSlice t lo hi => o.dst.bind fun d => evMake P fl t d (ρ lo) (ρ hi) B
  | .index t x i => (evIdx P t (ρ x) (ρ i)).map fun r => (r, B)
  | .extract x i => match ρ x with
    | .tup l => (l[i]?).map fun r => (mvd fl.mv r, B)
    | _ => none
  | .call c => match c.callee, c.args.toList, c.argTypes.toList with
    | .builtin .len, [x], [t] => (evLen P t (ρ x)).map fun r => (r, B)
    | .builtin .append, [s, x], [t, t'] => if t = t' ∧ fl.mv = true ∧ o.dst.isSome = true then (evAppend P t (ρ s) (ρ x)).map fun r => (r, B) else none
    | .builtin .max, [x, y], [_, _] => (evMinMax true (ρ x) (ρ y)).map fun r => (r, B)
    | .builtin .min, [x, y], [_, _] => (evMinMax false (ρ x) (ρ y)).map fun r => (r, B)
    | _, _, _ => none
  | _ => none

def vz (fl : AF) (B : Bx) : Bx := if fl.bt = true ∨ fl.be = true then B else fun _ => none
def stripsOf (fl : AF) (o : Oper) : List Nat := if fl.mv = true then tmpsOf o.op.operands.toList else []
def St.after (st : St) (fl : AF) (o : Oper) (v : PV) (B' : Bx) : St := st.upd (stripsOf fl o) o.dst v (if fl.be = true then B' else st.bx)

theorem Rel.put1 {P : Program} {F : Fr} {G : Gh} {st : St} {a : Act} {w : World} (h : Rel P F G st a w) (ts : List Nat) {d : Option Nat} {x : PV} {v : Value} (hd : ∀ d', d = some d' → d' < F.nt)
    (hx : ∀ loc, RepT P G w loc x v) : Rel P F G (st.upd ts d x st.bx) (a.put d v) w :=
  h.next (GStep.refl G w) (fun t _ _ i j => rfl) (fun d' e => hx _) hd h.hp h.sn

theorem wp_value {P : Program} {o : Oper} {a : Act} {w w' : World} {v : Value} {K : Act → World → Prop} {Q : Exit → Act → World → Prop} (hrun : (execOp a.eval o).run P w = .ok (.value v) w') (hk : K (a.put o.dst v) w') : o.wp P a w K Q := by
  unfold Oper.wp; rw [hrun]; exact hk
theorem wp_skip' {P : Program} {o : Oper} {a : Act} {w w' : World} {K : Act → World → Prop} {Q : Exit → Act → World → Prop} (hrun : (execOp a.eval o).run P w = .ok .skip w') (hk : K (a.put o.dst undef) w') : o.wp P a w K Q := by
  unfold Oper.wp; rw [hrun]; exact hk

theorem RepV.toT {P : Program} {G : Gh} {w : World} {loc : Loc} {x : PV} {v : Value} (h : RepV P G w loc 0 x v) : RepT P G w loc x v := by
  cases x <;> first | exact h | (simp only [RepV, RepC] at h)
theorem RepT.ofV {P : Program} {G : Gh} {w : World} {loc : Loc} {x : PV} {v : Value} (h : RepT P G w loc x v) (hx : ∀ l, x ≠ .tup l) : RepV P G w loc 0 x v := by
  cases x <;> first | exact h | exact absurd rfl (hx _)
theorem RepT.any {P : Program} {G : Gh} {w : World} {loc : Loc} {x : PV} {v : Value} (h : RepT P G w loc x.bT v) (loc' : Loc) : RepT P G w loc' x.bT v := by
  have h1 := h.bT loc'
  have h2 : x.bT.bT = x.bT := by
    have hC : ∀ y : PV, y.bC.bC = y.bC := by intro y; cases y <;> rfl
    have hV : ∀ y : PV, y.bV.bV = y.bV := by
      intro y
      cases y <;> first | rfl | exact hC _ | skip
      simp only [PV.bV, List.map_map]
      congr 1
      apply List.map_congr_left
      intro y _; exact hC y
    cases x
    case agg l => exact hV (.agg l)
    case tup l =>
      simp only [PV.bT, List.map_map]
      congr 1
      apply List.map_congr_left
      intro y _; exact hV y
    all_goals rfl
  rwa [h2] at h1

def noTup (v : PV) : Bool := match v with | .tup _ => false | _ => true

theorem Rel.mvd {P : Program} {F : Fr} {G : Gh} {st : St} {a : Act} {w : World} (h : Rel P F G st a w) (mv : Bool) {ts : List Nat} (X : Operand) (hts : mv = true → ∀ t, X = .tmp t → t ∈ ts) {d : Option Nat} (hd : ∀ d', d = some d' → d' < F.nt) :
    ∃ G', Rel P F G' (st.upd ts d (mvd mv (st.ev X)) st.bx) (a.put d (a.eval X)) w := by
  cases d with
  | none =>
    refine ⟨G, ?_⟩
    have := h.next (GStep.refl G w) (ts := ts) (d := none) (x := Bee.mvd mv (st.ev X)) (v := a.eval X) (bx := st.bx) (fun t _ _ i j => rfl) (fun d' e => by cases e) hd h.hp h.sn
    exact this
  | some d =>
    cases mv with
    | false =>
      refine ⟨G, h.put1 ts hd fun loc => ?_⟩
      exact ((h.ev X).bT loc)
    | true =>
      have hloc : ∀ t, opLoc X = .t t → t ∈ ts := by
        intro t ht
        cases X <;> simp [opLoc] at ht
        subst ht; exact hts rfl _ rfl
      exact h.moveTs (hd d rfl) hloc (by intro b; cases X <;> simp [opLoc]) (by cases X <;> simp [opLoc]) (h.ev X)

theorem evMinMax_ok {P : Program} {G : Gh} {w : World} {mx : Bool} {x y r : PV} {u v : Value} {l1 l2 : Loc} {t1 t2 ty : TypeId} (hx : RepT P G w l1 x u) (hy : RepT P G w l2 y v) (h : evMinMax mx x y = some r) :
    ∃ rv, ((if mx then Builtin.max_ else Builtin.min_) #[t1, t2] ty #[u, v]).run P w = .ok rv w ∧ ∀ loc, RepT P G w loc r rv := by
  unfold evMinMax at h
  split at h
  · obtain ⟨hx, -⟩ := hx; obtain ⟨hy, -⟩ := hy
    cases hx; cases hy
    rename_i k a k' b
    split at h
    · rename_i hk; subst hk
      cases h
      cases mx
      · refine ⟨_, ?_, fun loc => ⟨.int _ _, rfl⟩⟩
        simp only [Bool.false_eq_true, if_false]
        have h : (if b < a then b else a) = min a b := by split <;> omega
        simp [Builtin.min_, Builtin.min2, h]
      · refine ⟨_, ?_, fun loc => ⟨.int _ _, rfl⟩⟩
        simp only [if_true]
        have h : (if a < b then b else a) = max a b := by split <;> omega
        simp [Builtin.max_, Builtin.max2, h]
    · cases h
  · cases h

theorem evLoad_ok {P : Program} {F : Fr} {G : Gh} {st : St} {a : Act} {w : World} (h : Rel P F G st a w) {fl : AF} {ts : List Nat} {d : Option Nat} (hd : ∀ d', d = some d' → d' < F.nt) {t : TypeId} {X : Operand} {r : PV} {B : Bx} {B' : Bx} (hB : ∀ b c, B b = some c → st.bx b = some c)
    (hBe : fl.be = true → B = st.bx) (he : evLoad P fl t (st.ev X) B = some (r, B')) :
    ∃ rv G', (Instr.loadAt t (a.eval X)).run P w = .ok rv w ∧ Rel P F G' (st.upd ts d r (if fl.be = true then B' else st.bx)) (a.put d rv) w := by
  unfold evLoad at he
  have hX := h.ev X
  split at he
  · rename_i b off hev
    rw [hev] at hX
    obtain ⟨hp, hl⟩ := hX
    simp only [Option.bind_eq_some_iff] at he
    obtain ⟨cells, hc, i, hi, x, hx, he⟩ := he
    have hc' := hB b cells hc
    have hbox := h.hp.bx b cells hc'
    obtain ⟨rv, hrun, hrep⟩ := run_loadBox hbox hi hx
    rw [hp]
    split at he
    · rename_i hmv
      split at he
      · rename_i hbe
        cases he
        have hBB := hBe hbe
        subst hBB
        simp only [hbe, if_true]
        generalize hn : (if i.agg then i.sz else 1) = n
        -- tokens go from the variable's cells to the slot
        cases d with
        | none =>
          refine ⟨rv, G, hrun, ?_⟩
          refine h.next (GStep.refl G w) (fun t _ _ i j => rfl) (fun d' e => by cases e) hd ?_ h.sn
          refine ⟨fun c bc hbc => ?_, fun c => ?_, h.hp.inj, h.hp.imlt, h.hp.ownlt, h.hp.boxim, h.hp.boxown⟩
          · by_cases hcb : c = b
            · subst hcb
              simp only [Bx.set, if_true, Option.some.injEq] at hbc
              subst hbc
              obtain ⟨cs, e, h1, h2, h3, h4⟩ := hbox
              refine ⟨cs, e, h1, ?_, fun j u hj hu => h3 j u (by simp [stripAt] at hj; omega) hu, fun j y u hy hu => ?_⟩
              · simp only [stripAt, List.length_append, List.length_take, List.length_map, List.length_drop]; omega
              · have hj : ∃ y0, cells[j]? = some y0 ∧ (y = y0 ∨ y = y0.bC) := by
                  have hjl : j < cells.length := by have := (List.getElem?_eq_some_iff.1 hy).1; simp [stripAt] at this; omega
                  refine ⟨cells[j], List.getElem?_eq_getElem hjl, ?_⟩
                  unfold stripAt at hy
                  by_cases hj1 : j < off
                  · rw [List.append_assoc, List.getElem?_append_left (by simp; omega), List.getElem?_take_of_lt hj1, List.getElem?_eq_getElem hjl] at hy
                    cases hy; exact .inl rfl
                  · by_cases hj2 : j < off + n
                    · rw [List.append_assoc, List.getElem?_append_right (by simp; omega), List.getElem?_append_left (by simp; omega), List.getElem?_map, List.getElem?_take_of_lt (by simp; omega), List.getElem?_drop] at hy
                      have e1 : off + (j - (cells.take off).length) = j := by simp; omega
                      rw [e1, List.getElem?_eq_getElem hjl] at hy
                      cases hy; exact .inr rfl
                    · rw [List.getElem?_append_right (by simp; omega), List.getElem?_drop] at hy
                      have e1 : off + n + (j - (cells.take off ++ ((cells.drop off).take n).map PV.bC).length) = j := by simp; omega
                      rw [e1, List.getElem?_eq_getElem hjl] at hy
                      cases hy; exact .inl rfl
                obtain ⟨y0, hy0, rfl | rfl⟩ := hj
                · exact h4 j _ u hy0 hu
                · exact (h4 j y0 u hy0 hu).bC _
            · simp only [Bx.set, hcb, if_false] at hbc
              exact h.hp.bx c bc hbc
          · simp only [Bx.set]
            by_cases hcb : c = b
            · simp [hcb, hl]
            · simp [hcb, h.hp.live c]
        | some d =>
          let f : Pos → Pos := fun p => if p.1 = .b b ∧ off ≤ p.2.2 ∧ p.2.2 < off + n then (.t d, 0, p.2.2 - off) else p
          have hfq : f qpos = qpos := by simp [f, qpos]
          have hg := GStep.relabel G w f hfq
          refine ⟨rv, G.relabel f, hrun, h.next hg (fun t ht _ i j => by simp [f]) (fun d' e => ?_) hd ?_ (h.sn.relabel f)⟩
          · cases e
            have key : ∀ (j : Nat) y u, j < n → RepC P G w (.b b, 0, off + j) y u → RepC P (G.relabel f) w (.t d, 0, j) y u := by
              intro j y u hj hr
              refine hr.step hg ?_
              have : off ≤ off + j ∧ off + j < off + n := by omega
              simp [f, this]
            cases r
            case agg l =>
              obtain ⟨hag, cs, rfl, hsz, h1, hr⟩ := hrep
              have hxl : l.length = i.sz := by
                unfold bxRead at hx
                simp only [hag, if_true] at hx
                split at hx
                · cases hx; simp; omega
                · cases hx
              refine ⟨cs, rfl, hsz, h1, fun j y u hy hu => key j y u ?_ (hr j y u hy hu)⟩
              have := (List.getElem?_eq_some_iff.1 hy).1
              rw [← hn, hag]; simp only [if_true]; omega
            all_goals
              obtain ⟨hag, hr, -⟩ := hrep
              have h0 : 0 < n := by rw [← hn, hag]; simp
              have := key 0 _ _ h0 hr
              first | exact this.toT _ rfl | (simp only [RepC] at hr)
          · refine ⟨fun c bc hbc => ?_, fun c => ?_, h.hp.inj, h.hp.imlt, fun g p hgp => ?_, h.hp.boxim, fun c hlc => ?_⟩
            · by_cases hcb : c = b
              · subst hcb
                simp only [Bx.set, if_true, Option.some.injEq] at hbc
                subst hbc
                obtain ⟨cs, e, h1, h2, h3, h4⟩ := hbox
                refine ⟨cs, e, h1, ?_, fun j u hj hu => h3 j u (by simp [stripAt] at hj; omega) hu, fun j y u hy hu => ?_⟩
                · simp only [stripAt, List.length_append, List.length_take, List.length_map, List.length_drop]; omega
                · have hjl : j < cells.length := by have := (List.getElem?_eq_some_iff.1 hy).1; simp [stripAt] at this; omega
                  have h4' := h4 j cells[j] u (List.getElem?_eq_getElem hjl) hu
                  unfold stripAt at hy
                  by_cases hj1 : j < off
                  · rw [List.append_assoc, List.getElem?_append_left (by simp; omega), List.getElem?_take_of_lt hj1, List.getElem?_eq_getElem hjl] at hy
                    cases hy
                    exact h4'.step hg (by have : ¬ off ≤ j := by omega
                                          simp [f, this])
                  · by_cases hj2 : j < off + n
                    · rw [List.append_assoc, List.getElem?_append_right (by simp; omega), List.getElem?_append_left (by simp; omega), List.getElem?_map, List.getElem?_take_of_lt (by simp; omega), List.getElem?_drop] at hy
                      have e1 : off + (j - (cells.take off).length) = j := by simp; omega
                      rw [e1, List.getElem?_eq_getElem hjl] at hy
                      cases hy
                      exact h4'.stepB hg _
                    · rw [List.getElem?_append_right (by simp; omega), List.getElem?_drop] at hy
                      have e1 : off + n + (j - (cells.take off ++ ((cells.drop off).take n).map PV.bC).length) = j := by simp; omega
                      rw [e1, List.getElem?_eq_getElem hjl] at hy
                      cases hy
                      exact h4'.step hg (by have : ¬ j < off + n := by omega
                                            simp [f, this])
              · simp only [Bx.set, hcb, if_false] at hbc
                refine (h.hp.bx c bc hbc).step hg ((h.hp.live c).2 (by simp [hbc])) (fun j => ?_) rfl
                simp [f, hcb]
            · simp only [Bx.set, Gh.relabel]
              by_cases hcb : c = b
              · simp [hcb, hl]
              · simp [hcb, h.hp.live c]
            · simp only [Gh.relabel, Option.map_eq_some_iff] at hgp
              obtain ⟨q, hq, _⟩ := hgp
              exact h.hp.ownlt g q hq
            · simp only [Gh.relabel, Option.map_eq_none_iff]; exact h.hp.boxown c hlc
      · cases he
    · cases he
      refine ⟨rv, G, hrun, ?_⟩
      have hbx : (if fl.be = true then B else st.bx) = st.bx := by split <;> first | rfl | (rename_i hbe; exact hBe hbe)
      rw [hbx]
      refine h.put1 ts hd fun loc => ?_
      cases x
      case agg l =>
        obtain ⟨hag, cs, rfl, hsz, h1, hr⟩ := hrep
        refine ⟨cs, rfl, by simpa using hsz, h1, fun j y u hy hu => ?_⟩
        rw [List.getElem?_map] at hy
        obtain ⟨z, hz, rfl⟩ := Option.map_eq_some_iff.1 hy
        exact (hr j z u hz hu).bC _
      all_goals
        obtain ⟨hag, hr, -⟩ := hrep
        first | exact (hr.bC (loc, 0, 0)).toT loc rfl | (simp only [RepC] at hr)
  · rename_i cs hev
    rw [hev] at hX
    simp only [Option.map_eq_some_iff, Prod.mk.injEq] at he
    obtain ⟨r', hr', rfl, rfl⟩ := he
    have hbx : (if fl.be = true then B else st.bx) = st.bx := by split <;> first | rfl | (rename_i hbe; exact hBe hbe)
    obtain ⟨rv, hrun, -⟩ := evELoad_ok .res hX hr'
    refine ⟨rv, G, hrun, ?_⟩
    rw [hbx]
    refine h.put1 ts hd fun loc => ?_
    obtain ⟨rv', hrun', hrep⟩ := evELoad_ok loc hX hr'
    rw [hrun] at hrun'; cases hrun'
    exact hrep
  · rename_i K hev
    rw [hev] at hX
    simp only [Option.map_eq_some_iff, Prod.mk.injEq, Option.bind_eq_some_iff] at he
    obtain ⟨r', ⟨i, hi, he⟩, rfl, rfl⟩ := he
    split at he
    · cases he
    · rename_i hag
      cases he
      simp only [Bool.not_eq_true] at hag
      have hbx : (if fl.be = true then B else st.bx) = st.bx := by split <;> first | rfl | (rename_i hbe; exact hBe hbe)
      obtain ⟨g, o, u, hv, him, hc, hf⟩ := hX
      refine ⟨u, G, ?_, ?_⟩
      · rw [hv]; simp [Instr.loadAt, Instr.sureAddr, loadVar, tyi_agg hi, hag, hc]
      rw [hbx]
      exact h.put1 ts hd fun loc => hf
  · rename_i cs hev
    rw [hev] at hX
    simp only [Option.map_eq_some_iff, Prod.mk.injEq] at he
    obtain ⟨r', hr', rfl, rfl⟩ := he
    have hbx : (if fl.be = true then B else st.bx) = st.bx := by split <;> first | rfl | (rename_i hbe; exact hBe hbe)
    obtain ⟨rv, hrun, -⟩ := evZLoad_ok .res hX hr'
    refine ⟨rv, G, hrun, ?_⟩
    rw [hbx]
    refine h.put1 ts hd fun loc => ?_
    obtain ⟨rv', hrun', hrep⟩ := evZLoad_ok loc hX hr'
    rw [hrun] at hrun'; cases hrun'
    exact hrep
  · cases he

end Go.Bee

