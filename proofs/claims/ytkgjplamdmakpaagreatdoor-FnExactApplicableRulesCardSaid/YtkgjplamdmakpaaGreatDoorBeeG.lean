/-
The logic's operations: slices that are made or that grow. No condition.
-/
import Derived.Test.YtkgjplamdmakpaaGreatDoorBeeF
namespace Go.Bee
set_option linter.unusedVariables false

theorem MStep.grownBy {w w' : World} {z : Option Nat} (h : w.grownBy w' z) : MStep w w' z := ⟨h.os, h.tape, h.output, h.size, fun b hb hz => h.block b hb hz⟩

/-- A row of one's own that is new, or an old one that has grown. -/
theorem Rel.ownNew {P : Program} {F : Fr} {G : Gh} {st : St} {a : Act} {w w' : World} (h : Rel P F G st a w) {d : Nat} (hd : d < F.nt) {ts : List Nat} {z : Option Nat} (hm : MStep w w' z)
    (hz : ∀ g0, z = some g0 → ∃ s, s ∈ ts ∧ G.own g0 = some (.t s, 0, 0)) {e sz : Nat} {l : List PD} {v : Value} {vs : List Value} (hown : w'.ownsRow 0 e sz v l.length vs) (hb : l.length ≤ 140737488355328)
    (hu : ∀ x ∈ l, x.cells.length = sz) (hs : ∀ x ∈ flat l, x.scalar = true) (hr : ∀ (i : Nat) x u, (flat l)[i]? = some x → vs[i]? = some u → RepD G.im w x u)
    (hblk : ∀ g, v.ownBlock = some g → w.heap.size ≤ g ∨ z = some g) (hold : ∀ g0 o, z = some g0 → G.im g0 o → w'.cell? ⟨g0, o, none⟩ = w.cell? ⟨g0, o, none⟩)
    (him : ∀ g0 o, z = some g0 → v.ownBlock = some g0 → G.im g0 o → o < vs.length) :
    ∃ G', Rel P F G' (st.upd ts (some d) (.own e sz l) st.bx) (a.put (some d) v) w' := by
  let G' : Gh := { im := (fun g o => G.im g o ∨ (v.ownBlock = some g ∧ o < vs.length)), β := G.β, live := G.live, own := (fun g => if v.ownBlock = some g then some (Loc.t d, 0, 0) else if z = some g then none else G.own g), fz := G.fz }
  have hzown : ∀ g0, z = some g0 → F.w0.heap.size ≤ g0 ∨ F.Wr g0 := fun g0 e => by obtain ⟨s, _, hs⟩ := hz g0 e; exact h.sn.own g0 _ hs
  have hvlt : ∀ g, v.ownBlock = some g → g < w'.heap.size := fun g hg => (hown.lt g hg).2
  have hkeep : Keep G.im w G'.im w' := fun b o hbo => ⟨.inl hbo, by
    by_cases hzb : z = some b
    · exact hold b o hzb hbo
    · exact World.cell?_of_block (w := w) (w' := w') (a := ⟨b, o, none⟩) (hm.old b (h.hp.imlt b o hbo) (fun e => hzb e.symm))⟩
  have hg : GStep G w G' w' (fun p q => p = q ∧ ∀ g0, z = some g0 → G.own g0 ≠ some p) := by
    refine ⟨hkeep, fun b hl => ⟨hl, rfl⟩, rfl, h.sn.fz_same hm hzown, hm.size, fun g p q hgp hpq => ?_, fun o g ho hf => ?_⟩
    rotate_left
    · have hlt := hf.lt
      have hzg : z ≠ some g := fun e => by obtain ⟨s, _, hs⟩ := hz g e; rw [hf.2.1] at hs; rcases ho with rfl | rfl <;> cases hs
      have hvg : v.ownBlock ≠ some g := fun e => by
        rcases hblk g e with h1 | h1
        · omega
        · exact hzg h1
      have hw := hm.old g hlt (fun e => hzg e.symm)
      refine ⟨⟨by rw [hw]; exact hf.1, by simp [G', hvg, hzg, hf.2.1], hf.2.2.1, fun o ho => ?_, hf.2.2.2.2⟩, .heap hw⟩
      rcases ho with ho | ⟨ho, _⟩
      · exact hf.2.2.2.1 o ho
      · exact hvg ho
    obtain ⟨rfl, hne⟩ := hpq
    have hzg : z ≠ some g := fun e => hne g e hgp
    have hlt := h.hp.ownlt g p hgp
    have hvg : v.ownBlock ≠ some g := fun e => by
      rcases hblk g e with h1 | h1
      · omega
      · exact hzg h1
    refine ⟨by simp [G', hvg, hzg, hgp], hm.old g hlt (fun e => hzg e.symm), fun o ho => ?_⟩
    rcases ho with ho | ⟨ho, _⟩
    · exact ho
    · exact absurd ho hvg
  have hrep : RepD G'.im w' (.sl sz l) v := by
    have hlen : vs.length = (flat l).length := by rw [hown.1, flat_length hu]
    rcases hown.2 with ⟨rfl, hn⟩ | ⟨g, cap, cur, rfl, _, hgg, hc, _, hcs, ht⟩
    · obtain rfl : l = [] := List.length_eq_zero_iff.1 hn
      exact .nil sz
    · refine .sl sz l g 0 cap vs hb hc hu hs hlen (fun i u hi => ?_) (fun i x u hx hu => (hr i x u hx hu).keep hkeep)
      have hi' : i < vs.length := (List.getElem?_eq_some_iff.1 hi).1
      rw [Nat.zero_add]
      refine ⟨.inr ⟨rfl, hi'⟩, ?_⟩
      have := hown.cells (g := g) rfl i u hi
      rwa [Addr.add_lit, Nat.zero_add] at this
  have hβlt : ∀ b, G.live b → G.β b < w.heap.size := fun b hl => by obtain ⟨c, _, hbx⟩ := h.hp.box hl; exact hbx.lt
  have hβz : ∀ b, G.live b → z ≠ some (G.β b) := fun b hl e => by
    obtain ⟨s, _, hs⟩ := hz _ e
    rw [h.hp.boxown b hl] at hs; cases hs
  have hβv : ∀ b, G.live b → v.ownBlock ≠ some (G.β b) := fun b hl e => by
    rcases hblk _ e with h1 | h1
    · have := hβlt b hl; omega
    · exact hβz b hl h1
  refine ⟨G', h.next hg (fun t ht htd i j => ⟨rfl, fun g0 e hgo => ?_⟩) (fun d' ed => ?_) (fun d' ed => by cases ed; exact hd) ?_ ?_⟩
  · obtain ⟨s, hs, hs2⟩ := hz g0 e
    rw [hs2] at hgo
    cases hgo
    exact ht hs
  · cases ed
    refine ⟨hrep, .inr ⟨vs, hown, hu, fun g hvg => ⟨by simp [G', hvg], fun i hi => .inr ⟨hvg, hi⟩, fun i hi hc => ?_⟩⟩⟩
    rcases hc with hc | ⟨_, hc⟩
    · rcases hblk g hvg with h1 | h1
      · have := h.hp.imlt g i hc; omega
      · have := him g i h1 hvg hc; omega
    · omega
  · refine ⟨fun b bcells hbc => ?_, h.hp.live, h.hp.inj, fun g o hgo => ?_, fun g p hgp => ?_, fun b hl o hgo => ?_, fun b hl => ?_⟩
    · have hl := (h.hp.live b).2 (by simp [hbc])
      refine (h.hp.bx b bcells hbc).step hg hl (fun j => ⟨rfl, fun g0 e hgo => ?_⟩) (hm.old _ (hβlt b hl) (fun e => hβz b hl e.symm))
      obtain ⟨s, _, hs⟩ := hz g0 e
      rw [hs] at hgo; cases hgo
    · rcases hgo with hgo | ⟨hgo, _⟩
      · exact Nat.lt_of_lt_of_le (h.hp.imlt g o hgo) hm.size
      · exact hvlt g hgo
    · simp only [G'] at hgp
      split at hgp
      · rename_i hv; exact hvlt g hv
      · split at hgp
        · cases hgp
        · exact Nat.lt_of_lt_of_le (h.hp.ownlt g p hgp) hm.size
    · rcases hgo with hgo | ⟨hgo, _⟩
      · exact h.hp.boxim b hl o hgo
      · exact hβv b hl hgo
    · simp [G', hβv b hl, hβz b hl, h.hp.boxown b hl]
  · refine h.sn.next hm hzown hkeep (fun b o hbo => ?_) (fun g p hgp => ?_) (fun b hl => .inl ⟨hl, rfl⟩) (fun k => rfl) rfl
    · rcases hbo with hbo | ⟨hbo, _⟩
      · exact .inl hbo
      · exact .inr (hblk b hbo)
    · simp only [G'] at hgp
      split at hgp
      · rename_i hv
        rcases hblk g hv with h1 | h1
        · exact .inr h1
        · obtain ⟨s, _, hs⟩ := hz g h1
          exact .inl ⟨_, hs⟩
      · split at hgp
        · cases hgp
        · exact .inl ⟨p, hgp⟩

/-- From a slot to another, with more slots that lose what is their own. -/
theorem Rel.moveTs {P : Program} {F : Fr} {G : Gh} {st : St} {a : Act} {w : World} (h : Rel P F G st a w) {d : Nat} (hd : d < F.nt) {ts : List Nat} {x : PV} {v : Value} {loc : Loc}
    (hloc : ∀ t, loc = .t t → t ∈ ts) (hb : ∀ b, loc ≠ .b b) (hq : loc ≠ .q) (hx : RepT P G w loc x v) : ∃ G', Rel P F G' (st.upd ts (some d) x st.bx) (a.put (some d) v) w := by
  let f : Pos → Pos := fun p => if p.1 = loc then (.t d, p.2) else p
  have hfq : f qpos = qpos := by simp [f, qpos, Ne.symm hq]
  refine ⟨G.relabel f, h.next (GStep.relabel G w f hfq) (fun t ht _ i j => ?_) (fun d' e => ?_) (fun d' e => by cases e; exact hd) (h.hp.relabel _ ?_ hfq) (h.sn.relabel _)⟩
  · have : Loc.t t ≠ loc := fun e => ht (hloc t e.symm)
    simp [f, this]
  · cases e
    exact hx.step (GStep.relabel G w f hfq) (fun i j => by simp [f])
  · intro b j
    have : Loc.b b ≠ loc := fun e => hb b e.symm
    simp [f, this]

/-- The temporaries among operands. -/
def tmpsOf (xs : List Operand) : List Nat := xs.filterMap fun | .tmp t => some t | _ => none
theorem mem_tmpsOf {xs : List Operand} {t : Nat} : t ∈ tmpsOf xs ↔ Operand.tmp t ∈ xs := by
  unfold tmpsOf
  simp only [List.mem_filterMap]
  constructor
  · rintro ⟨x, hx, h⟩
    cases x <;> simp at h
    subst h; exact hx
  · intro h
    exact ⟨_, h, rfl⟩

/-- The slice that grows: whose own it is (or that it is full). -/
def PV.grow : PV → Option (Option (Nat × Nat) × List PD)
  | .own e sz l => some (some (e, sz), l)
  | .nilS => some (none, [])
  | _ => none
def PV.more : PV → Option (Option Nat × List PD)
  | .nilS => some (none, [])
  | x => x.list.map fun q => (some q.1, q.2)
def evAppend (P : Program) (t : TypeId) (s x : PV) : Option PV :=
  s.grow.bind fun q => x.more.bind fun r => (tyi P t).bind fun i => i.el.bind fun e => (tyi P e).bind fun te =>
    if (q.1 = none ∨ q.1 = some (e, te.sz)) ∧ (r.1 = none ∨ r.1 = some te.sz) ∧ 0 < te.sz ∧ te.zero.length = te.sz then
      (if (q.2.length + r.2.length) * (te.by_ + 1) ≤ 140737488355328 then some (.own e te.sz (q.2 ++ r.2)) else none) else none

theorem run_append_nothing {P : Program} (w : World) {t e : TypeId} {te : TI} (ty : TypeId) (ht : P.underlying t = some (.slice e)) (hte : tyi P e = some te) (b : Option Addr) (n c : Nat) (hc : n ≤ c) (b' : Option Addr) (c' : Nat) :
    (Builtin.append_ #[t, t] ty #[.slice b n c, .slice b' 0 c']).run P w = .ok (.slice b n c) w := by
  have h1 : ∀ w, (Builtin.firstCells te.sz 0 (.slice b' 0 c')).run P w = .ok #[] w := by
    intro w; cases b' <;> simp [Builtin.firstCells, loadCells, loadCellsFrom]
  cases b with
  | none => simp [Builtin.append_, run_underlying ht, tyi_size hte, Builtin.lenOf, hc, h1]
  | some b => simp [Builtin.append_, run_underlying ht, tyi_size hte, Builtin.lenOf, hc, h1, storeCells]

theorem evAppend_ok {P : Program} {F : Fr} {G : Gh} {st : St} {a : Act} {w : World} (h : Rel P F G st a w) {d : Nat} (hd : d < F.nt) {t ty : TypeId} {S X : Operand} {r : PV} (he : evAppend P t (st.ev S) (st.ev X) = some r) :
    ∃ rv w' G', (Builtin.append_ #[t, t] ty #[a.eval S, a.eval X]).run P w = .ok rv w' ∧ Rel P F G' (st.upd (tmpsOf [S, X]) (some d) r st.bx) (a.put (some d) rv) w' := by
  unfold evAppend at he
  simp only [Option.bind_eq_some_iff] at he
  obtain ⟨⟨q1, l⟩, hq, ⟨r1, m⟩, hr, i, hi, e, hel, te, hte, he⟩ := he
  simp only at he
  split at he
  · rename_i hc
    obtain ⟨hq1, hr1, hsz0, hzl⟩ := hc
    split at he
    · rename_i hbd
      cases he
      have hS := h.ev S
      have hX := h.ev X
      have ht := tyi_el hi hel
      obtain ⟨i', td, k1, k2, k3, k4, k5, k6, k7, k8, k9, k10⟩ := tyi_spec hte
      obtain ⟨z, hz, hzs⟩ : ∃ z, i'.zero = some z ∧ z.cells.size = te.sz := by
        rw [k9] at hzl
        cases hzz : i'.zero with
        | none => rw [hzz] at hzl; simp at hzl; omega
        | some z => rw [hzz] at hzl; exact ⟨z, rfl, by simpa using hzl⟩
      have hnn : l.length + m.length ≤ 140737488355328 ∧ (l.length + m.length) * te.by_ ≤ 140737488355328 := by
        have h1 : (l.length + m.length) * (te.by_ + 1) = (l.length + m.length) * te.by_ + (l.length + m.length) := by rw [Nat.mul_add, Nat.mul_one]
        omega
      -- the slice that grows
      have hs : OwnAt G w (opLoc S, 0, 0) e te.sz l (a.eval S) := by
        generalize hev : st.ev S = s at hS hq
        cases s <;> simp only [PV.grow, reduceCtorEq, Option.some.injEq, Prod.mk.injEq] at hq
        · obtain ⟨rfl, rfl⟩ := hq
          have hS' : a.eval S = .slice none 0 0 := hS
          rw [hS']
          exact ⟨.nil _, .inl ⟨.inl rfl, fun h => absurd rfl h⟩⟩
        · obtain ⟨rfl, rfl⟩ := hq
          rcases hq1 with h1 | h1
          · cases h1
          · cases h1; exact hS
      -- what is appended
      have hx : RepD G.im w (.sl te.sz m) (a.eval X) := by
        generalize hev : st.ev X = x at hX hr
        cases x <;> simp only [PV.more, PV.list, Option.map_none, reduceCtorEq, Option.some.injEq, Prod.mk.injEq, Option.map_eq_some_iff] at hr
        · obtain ⟨⟨a1, a2⟩, hl, rfl, rfl⟩ := hr
          rcases hr1 with h1 | h1
          · cases h1
          · cases h1
            exact hX.list hl
        · obtain ⟨rfl, rfl⟩ := hr
          have hX' : a.eval X = .slice none 0 0 := hX
          rw [hX']; exact .nil _
        · obtain ⟨⟨a1, a2⟩, hl, rfl, rfl⟩ := hr
          rcases hr1 with h1 | h1
          · cases h1
          · cases h1
            cases hl
            exact hX.1
        · obtain ⟨⟨a1, a2⟩, hl, rfl, rfl⟩ := hr
          rcases hr1 with h1 | h1
          · cases h1
          · cases h1
            cases hl
            exact OwnAt.data hX
        · obtain ⟨⟨a1, a2⟩, hl, rfl, rfl⟩ := hr
          rcases hr1 with h1 | h1
          · cases h1
          · cases h1
            exact hX.list hl
      -- nothing appended
      have nothing : m = [] → ∃ rv w' G', (Builtin.append_ #[t, t] ty #[a.eval S, a.eval X]).run P w = .ok rv w' ∧ Rel P F G' (st.upd (tmpsOf [S, X]) (some d) (.own e te.sz (l ++ m)) st.bx) (a.put (some d) rv) w' := by
        rintro rfl
        have hshape : ∃ b c, a.eval S = .slice b l.length c ∧ l.length ≤ c := by
          rcases hs.1.sl_shape with ⟨rfl, h1⟩ | ⟨g, o, c, h1, h2, -⟩ | ⟨rfl, a, c, h1⟩
          · exact ⟨none, 0, h1, Nat.le_refl _⟩
          · exact ⟨_, c, h1, h2⟩
          · exact ⟨_, c, h1, by simp⟩
        obtain ⟨b, c, hv, hlc⟩ := hshape
        have hshape' : ∃ b c, a.eval X = .slice b 0 c := by
          rcases hx.sl_shape with ⟨_, h1⟩ | ⟨g, o, c, h1, h2, -⟩ | ⟨-, a, c, h1⟩
          · exact ⟨none, 0, h1⟩
          · exact ⟨_, c, h1⟩
          · exact ⟨_, c, h1⟩
        obtain ⟨b', c', hv'⟩ := hshape'
        rw [List.append_nil]
        have hrun := run_append_nothing (P := P) w ty ht hte b l.length c hlc b' c'
        have hloc : ∀ t, opLoc S = .t t → t ∈ tmpsOf [S, X] := by
          intro t ht'
          cases S <;> simp [opLoc] at ht'
          subst ht'; simp [tmpsOf]
        have hnb : ∀ b, opLoc S ≠ .b b := by intro b; cases S <;> simp [opLoc]
        obtain ⟨G', hG'⟩ := h.moveTs hd (ts := tmpsOf [S, X]) (x := .own e te.sz l) hloc hnb (by cases S <;> simp [opLoc]) hs
        exact ⟨_, w, G', by rw [hv, hv']; exact hrun, by rw [hv] at hG'; exact hG'⟩
      rcases hx.sl_shape with ⟨rfl, -⟩ | ⟨gx, ox, cx, hvx, hlcx, hux, news, hnl, hns, hnc, hnr⟩ | ⟨rfl, -⟩
      · exact nothing rfl
      rotate_left
      · exact nothing rfl
      · by_cases hm0 : m = []
        · exact nothing hm0
        have hmpos : 0 < m.length := List.length_pos_iff.2 hm0
        have hnl' : news.length = m.length * te.sz := by rw [hnl, flat_length hux]
        have hnews : ∀ (j : Nat) v, news[j]? = some v → w.cell? ((⟨gx, ox, none⟩ : Addr).add j) = some v := fun j v hj => by rw [Addr.add_lit]; exact (hnc j v hj).2
        have hone : ∀ u ∈ news, u.oneCell' = true := by
          intro u hu
          obtain ⟨j, hj, rfl⟩ := List.mem_iff_getElem.1 hu
          have hj2 : j < (flat m).length := by omega
          exact (hnr j _ _ (List.getElem?_eq_getElem hj2) (List.getElem?_eq_getElem hj)).oneCell (hns _ (List.getElem_mem hj2))
        have hlu : (∀ x ∈ l, x.cells.length = te.sz) ∧ (∀ x ∈ flat l, x.scalar = true) := by
          rcases hs.1.sl_shape with ⟨rfl, -⟩ | ⟨g, o, c, -, -, h1, h2⟩ | ⟨rfl, -⟩
          · exact ⟨by simp, by simp [flat_nil]⟩
          rotate_left
          · exact ⟨by simp, by simp [flat_nil]⟩
          · obtain ⟨vs, -, h2, -⟩ := h2; exact ⟨h1, h2⟩
        have hu' : ∀ x ∈ l ++ m, x.cells.length = te.sz := fun x hx => (List.mem_append.1 hx).elim (hlu.1 x) (hux x)
        have hs' : ∀ x ∈ flat (l ++ m), x.scalar = true := fun x hx => by rw [flat_append] at hx; exact (List.mem_append.1 hx).elim (hlu.2 x) (hns x)
        have hlen : (l ++ m).length = l.length + m.length := List.length_append
        rcases hs.2 with ⟨hfull0, -⟩ | ⟨vs, hown, hu, hg⟩
        · obtain ⟨b, hfull⟩ := hfull0.ex
          -- full: a new row
          have holds : ∃ olds : List Value, olds.length = l.length * te.sz ∧ (∀ b', b = some b' → ∀ (j : Nat) v, olds[j]? = some v → w.cell? (b'.add j) = some v) ∧ (b = none → olds = []) ∧ ∀ (i : Nat) x u, (flat l)[i]? = some x → olds[i]? = some u → RepD G.im w x u := by
            rcases hs.1.sl_shape with ⟨rfl, h1⟩ | ⟨g, o, c, h1, h2, h3, vs, k1, k2, k3, k4⟩ | ⟨rfl, -⟩
            · rw [hfull] at h1; cases h1
              exact ⟨[], by simp, by simp, by simp, by simp [flat_nil]⟩
            rotate_left
            · exact ⟨[], by simp, by simp, by simp, by simp [flat_nil]⟩
            · rw [hfull] at h1; cases h1
              refine ⟨vs, by rw [k1, flat_length h3], fun b' e j v hj => ?_, by simp, k4⟩
              cases e; rw [Addr.add_lit]; exact (k3 j v hj).2
          obtain ⟨olds, ho1, ho2, ho3, ho4⟩ := holds
          have hcap := grownCap_ge w (l.length + m.length) l.length e
          have hrun : (Builtin.append_ #[t, t] ty #[a.eval S, a.eval X]).run P w = .ok (.slice (some ⟨w.heap.size, 0, none⟩) (l.length + m.length) (grownCap w (l.length + m.length) l.length e))
              (w.drew.alloc (.cells (olds.toArray ++ news.toArray ++ Builtin.zeroCells z.cells (grownCap w (l.length + m.length) l.length e - (l.length + m.length))) e)) := by
            rw [hfull, hvx]
            cases b with
            | none =>
              obtain rfl := ho3 rfl
              have hl0 : l.length = 0 := by
                have := Nat.mul_eq_zero.1 (by simpa using ho1.symm : l.length * te.sz = 0)
                rcases this with h1 | h1
                · exact h1
                · omega
              have := run_append_nil (P := P) w t ty e i' z ht k1 hz ⟨gx, ox, none⟩ m.length cx news (by rw [← k3]; exact hnl') hnews hmpos (by omega) (by have := Nat.le_trans (Nat.mul_le_mul_right te.by_ (Nat.le_add_left m.length l.length)) hnn.2; rw [← k4]; omega)
              rw [hl0]
              simpa using this
            | some b =>
              have := run_append_grow (P := P) w t ty e i' z ht k1 hz b l.length l.length olds (by rw [← k3]; exact ho1) (ho2 b rfl) ⟨gx, ox, none⟩ m.length cx news (by rw [← k3]; exact hnl') hnews (by omega) (by omega)
                (growslice_fits (by omega) (by rw [← k4]; exact hnn.2))
              exact this
          have hcm : grownCap w (l.length + m.length) l.length e ≤ maxLen := grownCap_le_maxLen w _ _ e (by unfold maxLen; omega)
          have hownNew : (w.drew.alloc (.cells (olds.toArray ++ news.toArray ++ Builtin.zeroCells z.cells (grownCap w (l.length + m.length) l.length e - (l.length + m.length))) e)).ownsRow 0 e te.sz
              (.slice (some ⟨w.heap.size, 0, none⟩) (l.length + m.length) (grownCap w (l.length + m.length) l.length e)) (l ++ m).length (olds ++ news) := by
            rw [hlen]
            refine ⟨by rw [List.length_append, ho1, hnl', Nat.add_mul], .inr ⟨w.heap.size, _, _, rfl, Nat.zero_le _, Go.heap_alloc_new w.drew _, hcap, hcm, ?_, ?_⟩⟩
            · simp only [Array.size_append, List.size_toArray, size_zeroCells, hzs, ho1, hnl', ← Nat.add_mul]
              congr 1
              omega
            · have e1 : (olds ++ news).length = (l.length + m.length) * te.sz := by rw [List.length_append, ho1, hnl', Nat.add_mul]
              simp only [Array.toList_append, List.append_assoc]
              rw [← List.append_assoc, ← e1]
              exact List.take_left
          have hms : MStep w (w.drew.alloc (.cells (olds.toArray ++ news.toArray ++ Builtin.zeroCells z.cells (grownCap w (l.length + m.length) l.length e - (l.length + m.length))) e)) none := MStep.drew (MStep.alloc w.drew _ none)
          have hrepn : ∀ (i : Nat) x u, (flat (l ++ m))[i]? = some x → (olds ++ news)[i]? = some u → RepD G.im w x u := by
            intro i x u hx hu
            have e1 : olds.length = (flat l).length := by rw [ho1, flat_length hlu.1]
            rw [flat_append] at hx
            by_cases hi : i < (flat l).length
            · rw [List.getElem?_append_left hi] at hx
              rw [List.getElem?_append_left (by omega)] at hu
              exact ho4 i x u hx hu
            · rw [List.getElem?_append_right (by omega)] at hx
              rw [List.getElem?_append_right (by omega), e1] at hu
              exact hnr _ x u hx hu
          obtain ⟨G', hG'⟩ := h.ownNew hd (ts := tmpsOf [S, X]) hms (by simp) hownNew (by rw [hlen]; omega) hu' hs' hrepn (fun g hg => by simp [Value.ownBlock] at hg; left; omega) (by simp) (by simp)
          exact ⟨_, _, G', hrun, hG'⟩
        · -- one's own
          obtain ⟨v', w', hrun, hown', hgrown, -⟩ := run_append_own (P := P) w 0 t ty e i' z te.sz te.by_ ht k1 hz k3.symm k4.symm hzs hsz0 (a.eval S) l.length vs hown ⟨gx, ox, none⟩ m.length cx news hnl' hnews hone
            (by unfold maxLen; omega) hnn.2 (Nat.zero_le _)
          rw [← hlen] at hown'
          have hvs : vs.length = (flat l).length := by rw [hown.1, flat_length hlu.1]
          -- the block that has grown
          have hSt : ∀ g0, (a.eval S).ownBlock = some g0 → ∃ s, s ∈ tmpsOf [S, X] ∧ G.own g0 = some (.t s, 0, 0) := by
            intro g0 hg0
            obtain ⟨h1, -⟩ := hg g0 hg0
            cases hS' : S with
            | tmp s => subst hS'; exact ⟨s, by simp [tmpsOf], h1⟩
            | const v =>
              subst hS'
              generalize hev : st.ev (.const v) = s at hS hq
              cases s <;> simp only [PV.grow, reduceCtorEq, Option.some.injEq, Prod.mk.injEq] at hq
              · have hS'' : a.eval (.const v) = .slice none 0 0 := hS
                rw [hS''] at hg0; simp [Value.ownBlock] at hg0
              · simp only [St.ev] at hev
                have : ∀ v, cpv v ≠ .own e te.sz l := by
                  intro v; unfold cpv cpc
                  repeat' split
                  all_goals (first | (intro h; cases h; done) | simp)
                obtain ⟨rfl, rfl⟩ := hq
                rcases hq1 with h1 | h1
                · cases h1
                · cases h1; exact absurd hev (this v)
            | global g => subst hS'; simp [St.ev, PV.grow] at hq
            | func f => subst hS'; simp [St.ev, PV.grow] at hq
          -- where the old cells of that block are
          have hcells : ∀ g0 o, (a.eval S).ownBlock = some g0 → G.im g0 o → o < vs.length ∧ w'.cell? ⟨g0, o, none⟩ = w.cell? ⟨g0, o, none⟩ := by
            intro g0 o hg0 him
            obtain ⟨-, h2, h3⟩ := hg g0 hg0
            have ho : o < vs.length := by
              apply Classical.byContradiction; intro hc
              exact h3 o (by omega) him
            refine ⟨ho, ?_⟩
            have e1 := hown.cells hg0 o _ (List.getElem?_eq_getElem ho)
            rw [Addr.add_lit, Nat.zero_add] at e1
            by_cases hsame : v'.ownBlock = some g0
            · have e2 := hown'.cells hsame o vs[o] (by rw [List.getElem?_append_left ho]; exact List.getElem?_eq_getElem ho)
              rw [Addr.add_lit, Nat.zero_add] at e2
              rw [e1, e2]
            · -- a new row: the old one is as it was: the run says so
              rcases hown.2 with ⟨hn, _⟩ | ⟨g, cap, cur, hv, _, hgg, hnc, hcm, hcs, htk⟩
              · rw [hn] at hg0; simp [Value.ownBlock] at hg0
              · rw [hv] at hg0 hrun
                simp [Value.ownBlock] at hg0
                subst hg0
                by_cases hroom : l.length + m.length ≤ cap
                · have hfit : l.length * i'.size + news.length ≤ cur.size := by rw [hnl', hcs, ← k3, ← Nat.add_mul]; exact Nat.mul_le_mul_right _ hroom
                  have hr2 := run_append_room (P := P) w t ty e i' ht k1 g l.length cap cur hgg ⟨gx, ox, none⟩ m.length cx news (by rw [← k3]; exact hnl') hnews hone hroom hfit
                  rw [hrun] at hr2
                  cases hr2
                  simp [Value.ownBlock] at hsame
                · have hr2 := run_append_grow (P := P) w t ty e i' z ht k1 hz ⟨g, 0, none⟩ l.length cap vs (by rw [← k3]; exact hown.1) (hown.cells (g := g) (by rw [hv]; rfl)) ⟨gx, ox, none⟩ m.length cx news (by rw [← k3]; exact hnl') hnews (by omega) (by omega) (growslice_fits (by omega) (by rw [← k4]; exact hnn.2))
                  rw [hrun] at hr2
                  cases hr2
                  rw [cell_alloc_lt (w := w.drew) (h.hp.imlt g o him)]
                  rfl
          have hblk' : ∀ g, v'.ownBlock = some g → w.heap.size ≤ g ∨ (a.eval S).ownBlock = some g := by
            intro g' hg'
            rcases hown.2 with ⟨hn, hn0⟩ | ⟨g, cap, cur, hv, _, hgg, hnc, hcm, hcs, htk⟩
            · have hl0 : l = [] := List.length_eq_zero_iff.1 hn0
              subst hl0
              rw [hn] at hrun
              have hr2 := run_append_nil (P := P) w t ty e i' z ht k1 hz ⟨gx, ox, none⟩ m.length cx news (by rw [← k3]; exact hnl') hnews hmpos (by omega) (by rw [← k4]; simp at hnn; omega)
              rw [hrun] at hr2
              cases hr2
              simp [Value.ownBlock] at hg'
              left; omega
            · rw [hv] at hrun
              by_cases hroom : l.length + m.length ≤ cap
              · have hfit : l.length * i'.size + news.length ≤ cur.size := by rw [hnl', hcs, ← k3, ← Nat.add_mul]; exact Nat.mul_le_mul_right _ hroom
                have hr2 := run_append_room (P := P) w t ty e i' ht k1 g l.length cap cur hgg ⟨gx, ox, none⟩ m.length cx news (by rw [← k3]; exact hnl') hnews hone hroom hfit
                rw [hrun] at hr2
                cases hr2
                simp [Value.ownBlock] at hg'
                subst hg'
                right; rw [hv]; rfl
              · have hr2 := run_append_grow (P := P) w t ty e i' z ht k1 hz ⟨g, 0, none⟩ l.length cap vs (by rw [← k3]; exact hown.1) (hown.cells (g := g) (by rw [hv]; rfl)) ⟨gx, ox, none⟩ m.length cx news (by rw [← k3]; exact hnl') hnews (by omega) (by omega) (growslice_fits (by omega) (by rw [← k4]; exact hnn.2))
                rw [hrun] at hr2
                cases hr2
                simp [Value.ownBlock] at hg'
                left; omega
          have hrepn : ∀ (i : Nat) x u, (flat (l ++ m))[i]? = some x → (vs ++ news)[i]? = some u → RepD G.im w x u := by
            intro i x u hx hu
            rw [flat_append] at hx
            by_cases hi : i < (flat l).length
            · rw [List.getElem?_append_left hi] at hx
              rw [List.getElem?_append_left (by omega)] at hu
              rcases hs.1.sl_shape with ⟨rfl, h1⟩ | ⟨g, o, c, h1, h2, h3, vs2, q1, q2, q3, q4⟩ | ⟨rfl, -⟩
              · simp [flat_nil] at hi
              rotate_left
              · simp [flat_nil] at hi
              · -- the two lists of old cells are one
                have hg1 : (a.eval S).ownBlock = some g := by rw [h1]; rfl
                have e1 := hown.cells hg1 i u hu
                rw [Addr.add_lit, Nat.zero_add] at e1
                have ho0 : o = 0 := by
                  rcases hown.2 with ⟨hn, _⟩ | ⟨g', cap, cur, hv, _⟩
                  · rw [hn] at h1; cases h1
                  · rw [hv] at h1; cases h1; rfl
                subst ho0
                have hi2 : i < vs2.length := by omega
                have e2 := (q3 i vs2[i] (List.getElem?_eq_getElem hi2)).2
                rw [Nat.zero_add, e1] at e2
                cases e2
                exact q4 i x _ hx (List.getElem?_eq_getElem hi2)
            · rw [List.getElem?_append_right (by omega)] at hx
              rw [List.getElem?_append_right (by omega), hvs] at hu
              exact hnr _ x u hx hu
          obtain ⟨G', hG'⟩ := h.ownNew hd (ts := tmpsOf [S, X]) (MStep.grownBy hgrown) hSt hown' (by rw [hlen]; omega) hu' hs' hrepn hblk' (fun g0 o hg0 him => (hcells g0 o hg0 him).2) (fun g0 o hg0 _ him => by
            have := (hcells g0 o hg0 him).1
            rw [List.length_append]; omega)
          exact ⟨v', w', G', by rw [hvx]; exact hrun, hG'⟩
    · cases he
  · cases he

end Go.Bee
