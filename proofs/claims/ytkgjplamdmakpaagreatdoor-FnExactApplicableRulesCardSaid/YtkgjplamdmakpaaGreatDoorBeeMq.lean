/-
Slices that are made, filled and nobody else's, to the bottom. No condition.
-/
import Derived.Test.YtkgjplamdmakpaaGreatDoorBeeMk
namespace Go.Bee
set_option linter.unusedVariables false

/-- A cell of a row that is one's own to the bottom. -/
def dpc (x : PD) : PV := if x.isSl = true then .dp x else .d x
theorem dpc_rep {P : Program} {G : Gh} {w : World} {p : Pos} {x : PD} {v : Value} (hs : x.scalar = true) (h : RepC P G w p (dpc x) v) : RepD (Mine G w p) w x v := by
  unfold dpc at h
  split at h
  · exact h.1
  · rename_i hn
    refine plain_sc ?_ hs h.1
    cases x <;> first | rfl | exact absurd rfl hn | cases hs
theorem Weak.freezeQ {P : Program} {st : St} {t : Nat} {b : BN} {e sz n : Nat} {l : List PD} (ht : st.tm t = .rsl b e sz n) (hb : st.bx b = some ((flat l).map dpc)) (hl : l.length = n) (hu : ∀ x ∈ l, x.cells.length = sz) (hsc : ∀ x ∈ flat l, x.scalar = true) : Weak P st ((st.drop b).put t (.dp (.sl sz l))) := fun F G a w hr => by
  subst hl
  have hrt := hr.tm t
  rw [ht] at hrt
  obtain ⟨hv, hlive, hlen⟩ := hrt
  obtain ⟨cs, q, h1, h2, h3, h4⟩ := hr.hp.bx b _ hb
  have hsz : (flat l).length ≤ cs.size := by simpa using h2
  have hβlt : ∀ c, G.live c → G.β c < w.heap.size := fun c hl => by obtain ⟨x, _, hbx⟩ := hr.hp.box hl; exact hbx.lt
  let f : Pos → Pos := fun p => if p.1 = .b b then (.t t, 0, 0) else p
  let G' : Gh := { im := (fun g o => G.im g o ∨ (g = G.β b ∧ o < (flat l).length)), β := G.β, live := (fun c => c ≠ b ∧ G.live c), own := (fun g => if g = G.β b then some (.t t, 0, 0) else (G.own g).map f), fz := G.fz }
  let G2 : Gh := { G' with live := G.live }
  have hk : Keep G.im w G'.im w := fun g o h => ⟨.inl h, rfl⟩
  have hnb : ∀ g p, G.own g = some p → g ≠ G.β b := fun g p hg e => by rw [e, hr.hp.boxown b hlive] at hg; cases hg
  have hstep : GStep G w G2 w (fun p q => q = f p) := by
    refine ⟨hk, fun c hl => ⟨hl, rfl⟩, rfl, fun _ _ => rfl, Nat.le_refl _, fun g p q hg e => ⟨?_, rfl, fun o ho => ?_⟩, fun o' g ho' hf => ?_⟩
    · show (if g = G.β b then some (.t t, 0, 0) else (G.own g).map f) = some q
      rw [if_neg (hnb g p hg), hg, e]; rfl
    · rcases ho with ho | ⟨e2, _⟩
      · exact ho
      · exact absurd e2 (hnb g p hg)
    · have hne : g ≠ G.β b := fun e => hf.2.2.1 b hlive e.symm
      refine ⟨⟨hf.1, (if_neg hne).trans ?_, hf.2.2.1, fun o ho => ho.elim (hf.2.2.2.1 o) (fun ho => hne ho.1), hf.2.2.2.2⟩, .heap rfl⟩
      rw [hf.2.1]
      rcases ho' with rfl | rfl <;> simp [f, qpos]
  have hmine : ∀ j, Keep (Mine G w (.b b, 0, j)) w (Mine G' w (.t t, 0, 0)) w := fun j g o ⟨k1, k2, k3⟩ => ⟨⟨.inl k1, by
    show (if g = G.β b then some (.t t, 0, 0) else (G.own g).map f) = some (.t t, 0, 0)
    rw [if_neg (hnb g _ k2), k2]; simp [f], k3⟩, rfl⟩
  have hrep : RepD (Mine G' w (.t t, 0, 0)) w (.sl sz l) (.slice (some ⟨G.β b, 0, none⟩) l.length l.length) := by
    refine .sl sz l (G.β b) 0 l.length (cs.toList.take (flat l).length) hlen (Nat.le_refl _) hu hsc (by simp; omega) (fun i v hi => ?_) (fun i x v hx hv => ?_)
    · rw [List.getElem?_take] at hi
      split at hi
      · rename_i hlt
        rw [Array.getElem?_toList] at hi
        rw [Nat.zero_add]
        exact ⟨⟨.inr ⟨rfl, hlt⟩, if_pos rfl, cs, q, h1⟩, by simp [World.cell?, h1, hi]⟩
      · cases hi
    · rw [List.getElem?_take_of_lt (List.getElem?_eq_some_iff.1 hx).1] at hv
      have := h4 i (dpc x) v (by rw [List.getElem?_map, hx]; rfl) (by simpa using hv)
      exact (dpc_rep (hsc x (List.mem_of_getElem? hx)) this).keep (hmine i)
  have hown1 : ∀ g p, G'.own g = some p → g < w.heap.size := fun g p hg => by
    by_cases e : g = G.β b
    · rw [e]; exact hβlt b hlive
    · have := (if_neg e).symm.trans hg
      obtain ⟨p', hp', -⟩ := Option.map_eq_some_iff.1 this
      exact hr.hp.ownlt g p' hp'
  have hown2 : ∀ g p, G'.own g = some p → F.w0.heap.size ≤ g ∨ F.Wr g := fun g p hg => by
    by_cases e : g = G.β b
    · rw [e]; exact hr.sn.box b hlive
    · have := (if_neg e).symm.trans hg
      obtain ⟨p', hp', -⟩ := Option.map_eq_some_iff.1 this
      exact hr.sn.own g p' hp'
  refine ⟨G', fun u => ?_, ⟨fun c cells hc => ?_, fun c => ?_, fun c c' hl hl' => hr.hp.inj c c' hl.2 hl'.2, fun g o hg => ?_, hown1, fun c hl o hg => ?_, fun c hl => (if_neg (fun e => hl.1 (hr.hp.inj c b hl.2 hlive e))).trans (by rw [hr.hp.boxown c hl.2]; rfl)⟩, ⟨?_, hown2, fun c hl => hr.sn.box c hl.2, hr.sn.βa, hr.sn.fz, hr.sn.fzm⟩, hr.nt, hr.defers, fun g hg => ⟨(hstep.free _ g (.inl rfl) (hr.z g hg).1).1.less fun _ h => h.2, (hr.z g hg).2⟩⟩
  · by_cases hu' : u = t
    · subst hu'
      simp only [tm_put, if_true]
      rw [hv]
      exact ⟨hrep, rfl⟩
    · simp only [tm_put, hu', if_false, tm_drop]
      exact kill_rep (G := G2) (b := b) ((hr.tm u).step hstep (fun i j => by simp [f]))
  · simp only [bx_put, bx_drop] at hc
    split at hc
    · cases hc
    · rename_i hcb
      obtain ⟨cells', hc', rfl⟩ := Option.map_eq_some_iff.1 hc
      obtain ⟨cs', e', k1, k2, k3, k4⟩ := hr.hp.bx c cells' hc'
      refine ⟨cs', e', k1, by simpa using k2, fun j u hj hu => k3 j u (by simpa using hj) hu, fun j x u hx hu => ?_⟩
      rw [List.getElem?_map] at hx
      obtain ⟨z, hz, rfl⟩ := Option.map_eq_some_iff.1 hx
      exact killC_rep (G := G2) (b := b) ((k4 j z u hz hu).step hstep (by simp [f, hcb]))
  · simp only [bx_put, bx_drop]
    by_cases hcb : c = b
    · simp [hcb, G']
    · simp [hcb, G', hr.hp.live c]
  · rcases hg with hg | ⟨rfl, _⟩
    · exact hr.hp.imlt g o hg
    · exact hβlt b hlive
  · rcases hg with hg | ⟨hg, _⟩
    · exact hr.hp.boxim c hl.2 o hg
    · exact hl.1 (hr.hp.inj c b hl.2 hlive hg)
  · have hx := hr.sn.ext
    have hbf := hr.sn.box b hlive
    refine ⟨hx.os, hx.tape, hx.output, hx.size, hx.old, fun g o hg => ⟨.inl (hx.keep g o hg).1, (hx.keep g o hg).2⟩, fun g o hg => ?_⟩
    rcases hg with hg | ⟨rfl, _⟩
    · exact hx.new g o hg
    · rcases hbf with h | h
      · exact .inr (.inl h)
      · exact .inr (.inr h)
theorem wk_fzq {P : Program} {K : St → Prop} {s : St} (t : Nat) (b : BN) (e sz n : Nat) (l : List PD) (ts : List (Nat × PV)) (bs : List (BN × List PV)) (hs : Has s ((t, .rsl b e sz n) :: ts) ((b, (flat l).map dpc) :: bs)) (hl : l.length = n) (hu : ∀ x ∈ l, x.cells.length = sz) (hsc : ∀ x ∈ flat l, x.scalar = true)
    (h : K (mk ((t, .dp (.sl sz l)) :: ts) bs)) (h1 : ts.all (fun q => okT (bs.map (·.1)) q.2) = true := by rfl) (h2 : bs.all (fun q => q.2.all (okC (bs.map (·.1)))) = true := by rfl) (h3 : hasB (bs.map (·.1)) b = false := by rfl) : wk P K s := by
  refine ⟨_, Weak.trans (Weak.mk hs) (Weak.freezeQ (t := t) (b := b) (e := e) (sz := sz) (n := n) (l := l) (by rw [tm_mk, look_c, if_pos rfl]) (by rw [bx_mk, lookB_c, if_pos rfl]) hl hu hsc), ?_⟩
  have e1 : ((mk ((t, .rsl b e sz n) :: ts) ((b, (flat l).map dpc) :: bs)).drop b).put t (.dp (.sl sz l)) = mk ((t, .dp (.sl sz l)) :: ts) bs := by
    unfold mk St.drop St.put
    simp only [St.mk.injEq]
    refine ⟨funext fun k => ?_, funext fun c => ?_⟩
    · by_cases hk : k = t
      · rw [if_pos hk, look_c, if_pos hk]
      · rw [if_neg hk, look_c, look_c, if_neg hk, if_neg hk, look_ok h1 h3]
    · split
      · rename_i hc
        subst hc
        cases hq : lookB bs c with
        | none => rfl
        | some q => have := (lookB_has bs c).2 (by rw [hq]; rfl); rw [h3] at this; cases this
      · rename_i hc
        rw [lookB_c, if_neg hc, lookB_ok h2 h3]
  rw [e1]; exact h
/-- A row of plain data that is one's own is so to the bottom. -/
theorem own_mine {G : Gh} {w : World} {p : Pos} {e sz : Nat} {l : List PD} {v : Value} (hp : ∀ x ∈ flat l, x.plain = true) (h : OwnAt G w p e sz l v) : RepD (Mine G w p) w (.sl sz l) v := by
  by_cases hl : l = []
  · subst hl
    have h1 := OwnAt.data h
    generalize e1 : PD.sl sz [] = z at h1
    cases h1 <;> cases e1
    · exact .nil sz
    · rename_i g o c vs _ _ _ _ _ _ _
      exact .emp sz ⟨g, o, none⟩ c
    · rename_i ad c; exact .emp sz ad c
  · obtain ⟨g, c, rfl, hlc, ⟨vs, h1, h2, h3, h4⟩, hg, cs, e', hgc⟩ := own_at0 h hl
    have hrun := (OwnAt.data h).run
    exact .sl sz l g 0 c vs h.1.len hlc hrun.2.2.1 h2 h1 (fun i v hi => ⟨⟨(h3 i v hi).1, hg, cs, e', hgc⟩, (h3 i v hi).2⟩) (fun i x v hx hv => plain_sc (hp x (List.mem_of_getElem? hx)) (h2 x (List.mem_of_getElem? hx)) (h4 i x v hx hv))
theorem CLe.ownDp {e sz : Nat} {l : List PD} (hp : ∀ x ∈ flat l, x.plain = true) : CLe (.own e sz l) (.dp (.sl sz l)) := ⟨fun P G w p v h => ⟨own_mine hp h, Eq.refl _⟩⟩
theorem PLe.ownDp {e sz : Nat} {l : List PD} (hp : ∀ x ∈ flat l, x.plain = true) : PLe (.own e sz l) (.dp (.sl sz l)) := ⟨fun P G w loc v h => ⟨own_mine hp h, Eq.refl _⟩⟩
theorem PLe.aggs {l m : List PV} (h : All2 CLe l m) : PLe (.agg l) (.agg m) := ⟨fun P G w loc v hv => by
  obtain ⟨cs, rfl, h1, h2, h3⟩ := hv
  have hl := h.len
  refine ⟨cs, Eq.refl _, by omega, h2, fun j y u hy hu => ?_⟩
  have hj : j < l.length := by rw [← hl]; exact (List.getElem?_eq_some_iff.1 hy).1
  exact (h.get j _ y (List.getElem?_eq_getElem hj) hy).c P G w _ u (h3 j _ u (List.getElem?_eq_getElem hj) hu)⟩
theorem BRet.less {P : Program} {f : Nat} {bi bo : List (List PV)} {args : List PV} {r r' : PV} (h : BRet P f bi args r bo) (hle : PLe r r') : BRet P f bi args r' bo :=
  ⟨h.1, h.2.1, fun G w vs Wr a b c d e g g2 => Calls.mono (h.2.2 G w vs Wr a b c d e g g2) fun x w' hx => by
    obtain ⟨v, G', h1, h2, h3⟩ := hx
    exact ⟨v, G', h1, hle.t _ _ _ _ _ h2, h3⟩⟩
/-- What is nobody's may be written from here on. -/
theorem wk_unq {P : Program} {K : St → Prop} {s : St} (ts : List (Nat × PV)) (bs : List (BN × List PV)) (hs : Has s.unq ts bs) (h : K (mk ts bs)) : wk P K s := ⟨_, Weak.trans Weak.unq (Weak.mk hs), h⟩
end Go.Bee
