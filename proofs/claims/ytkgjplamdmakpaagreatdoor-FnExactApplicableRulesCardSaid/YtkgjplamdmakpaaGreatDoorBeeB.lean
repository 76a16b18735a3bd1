/-
The logic's steps: what one operation does to the state, and to memory. No condition.
-/
import Derived.Test.YtkgjplamdmakpaaGreatDoorBeeA
namespace Go.Bee
set_option linter.unusedVariables false

def St.upd (st : St) (ts : List Nat) (d : Option Nat) (x : PV) (bx : BN → Option (List PV)) : St :=
  ⟨fun t => if some t = d then x else if t ∈ ts then (st.tm t).bT else st.tm t, bx⟩

theorem RepC.stepB {P : Program} {G G' : Gh} {w w' : World} {kp : Pos → Pos → Prop} (h : GStep G w G' w' kp) {p : Pos} (q : Pos) {x : PV} {v : Value} (hx : RepC P G w p x v) : RepC P G' w' q x.bC v := by
  cases x
  case own e sz l => exact ⟨(OwnAt.data hx).keep h.keep, rfl⟩
  case clo f caps => obtain ⟨vs, hv, hl, hr⟩ := hx; exact ⟨vs, hv, hl, fun i x u h1 h2 => (hr i x u h1 h2).step h⟩
  case fn K => simp only [RepC, PV.bC] at hx ⊢; rw [h.fz]; exact hx.keep h.keep h.hz h.size
  case efn K => obtain ⟨g, o, u, h1, h2, h3, h4⟩ := hx; exact ⟨g, o, u, h1, (h.keep g o h2).1, (h.keep g o h2).2.trans h3, by rw [h.fz]; exact h4.keep h.keep h.hz h.size⟩
  case dp x => exact ⟨hx.1.keep ((Mine.im G w p).trans h.keep), hx.2⟩
  case one => exact hx
  case junk => exact hx
  case agg l => exact hx
  case tup l => exact hx
  case rsl b e sz n => exact ⟨by rw [(h.β b hx.2.1).2]; exact hx.1, (h.β b hx.2.1).1, hx.2.2⟩
  case rsv b sz n => obtain ⟨c, h1, h2, h3, h4⟩ := hx; exact ⟨c, h1, by rw [(h.β b h3).2]; exact h2, (h.β b h3).1, h4⟩
  case q x => exact ⟨hx.1.keep h.freeQ, hx.2⟩
  case zs x => exact ⟨hx.1.kind h.freeK, hx.2⟩
  case zp cs => obtain ⟨g, o, h1, h2⟩ := hx; exact ⟨g, o, h1, h2.kind h.freeK⟩
  all_goals (simp only [RepC, PV.bC] at hx ⊢; exact RepAt.step h hx)
theorem RepV.stepB {P : Program} {G G' : Gh} {w w' : World} {kp : Pos → Pos → Prop} (h : GStep G w G' w' kp) {loc : Loc} {i : Nat} (loc' : Loc) (i' : Nat) {x : PV} {v : Value} (hx : RepV P G w loc i x v) : RepV P G' w' loc' i' x.bV v := by
  cases x
  case agg l =>
    obtain ⟨cs, hv, hl, h1, hr⟩ := hx
    refine ⟨cs, hv, by simpa using hl, h1, fun j x u hx hu => ?_⟩
    rw [List.getElem?_map] at hx
    obtain ⟨y, hy, rfl⟩ := Option.map_eq_some_iff.1 hx
    exact (hr j y u hy hu).stepB h _
  case own e sz l => exact RepC.stepB (P := P) (p := (loc, i, 0)) (x := .own e sz l) h (loc', i', 0) hx
  case clo f caps => exact RepC.stepB (P := P) (p := (loc, i, 0)) (x := .clo f caps) h (loc', i', 0) hx
  case fn K => exact RepC.stepB (P := P) (p := (loc, i, 0)) (x := .fn K) h (loc', i', 0) hx
  case efn K => exact RepC.stepB (P := P) (p := (loc, i, 0)) (x := .efn K) h (loc', i', 0) hx
  case dp y => exact RepC.stepB (P := P) (p := (loc, i, 0)) (x := .dp y) h (loc', i', 0) hx
  case one => exact hx
  case junk => exact hx
  case tup l => exact hx
  case d y => exact RepC.stepB (P := P) (p := (loc, i, 0)) (x := .d y) h (loc', i', 0) hx
  case nilS => exact RepC.stepB (P := P) (p := (loc, i, 0)) (x := .nilS) h (loc', i', 0) hx
  case und => exact RepC.stepB (P := P) (p := (loc, i, 0)) (x := .und) h (loc', i', 0) hx
  case nn sz l => exact RepC.stepB (P := P) (p := (loc, i, 0)) (x := .nn sz l) h (loc', i', 0) hx
  case rsl b e sz n => exact RepC.stepB (P := P) (p := (loc, i, 0)) (x := .rsl b e sz n) h (loc', i', 0) hx
  case rsv b sz n => exact RepC.stepB (P := P) (p := (loc, i, 0)) (x := .rsv b sz n) h (loc', i', 0) hx
  case q y => exact RepC.stepB (P := P) (p := (loc, i, 0)) (x := .q y) h (loc', i', 0) hx
  case zs y => exact RepC.stepB (P := P) (p := (loc, i, 0)) (x := .zs y) h (loc', i', 0) hx
  case zp y => exact RepC.stepB (P := P) (p := (loc, i, 0)) (x := .zp y) h (loc', i', 0) hx
  case ptr b o => exact RepC.stepB (P := P) (p := (loc, i, 0)) (x := .ptr b o) h (loc', i', 0) hx
  case eptr cs => exact RepC.stepB (P := P) (p := (loc, i, 0)) (x := .eptr cs) h (loc', i', 0) hx
theorem RepT.stepB {P : Program} {G G' : Gh} {w w' : World} {kp : Pos → Pos → Prop} (h : GStep G w G' w' kp) {loc : Loc} (loc' : Loc) {x : PV} {v : Value} (hx : RepT P G w loc x v) : RepT P G' w' loc' x.bT v := by
  cases x
  case tup l =>
    obtain ⟨vs, hv, hl, hr⟩ := hx
    refine ⟨vs, hv, by simpa using hl, fun j x u hx hu => ?_⟩
    rw [List.getElem?_map] at hx
    obtain ⟨y, hy, rfl⟩ := Option.map_eq_some_iff.1 hx
    exact (hr j y u hy hu).stepB h _ _
  case own e sz l => exact RepV.stepB (P := P) (loc := loc) (i := 0) (x := .own e sz l) h loc' 0 hx
  case clo f caps => exact RepV.stepB (P := P) (loc := loc) (i := 0) (x := .clo f caps) h loc' 0 hx
  case fn K => exact RepV.stepB (P := P) (loc := loc) (i := 0) (x := .fn K) h loc' 0 hx
  case efn K => exact RepV.stepB (P := P) (loc := loc) (i := 0) (x := .efn K) h loc' 0 hx
  case dp y => exact RepV.stepB (P := P) (loc := loc) (i := 0) (x := .dp y) h loc' 0 hx
  case one => exact hx
  case junk => exact hx
  case agg l => exact RepV.stepB (P := P) (loc := loc) (i := 0) (x := .agg l) h loc' 0 hx
  case d y => exact RepV.stepB (P := P) (loc := loc) (i := 0) (x := .d y) h loc' 0 hx
  case nilS => exact RepV.stepB (P := P) (loc := loc) (i := 0) (x := .nilS) h loc' 0 hx
  case und => exact RepV.stepB (P := P) (loc := loc) (i := 0) (x := .und) h loc' 0 hx
  case nn sz l => exact RepV.stepB (P := P) (loc := loc) (i := 0) (x := .nn sz l) h loc' 0 hx
  case rsl b e sz n => exact RepV.stepB (P := P) (loc := loc) (i := 0) (x := .rsl b e sz n) h loc' 0 hx
  case rsv b sz n => exact RepV.stepB (P := P) (loc := loc) (i := 0) (x := .rsv b sz n) h loc' 0 hx
  case q y => exact RepV.stepB (P := P) (loc := loc) (i := 0) (x := .q y) h loc' 0 hx
  case zs y => exact RepV.stepB (P := P) (loc := loc) (i := 0) (x := .zs y) h loc' 0 hx
  case zp y => exact RepV.stepB (P := P) (loc := loc) (i := 0) (x := .zp y) h loc' 0 hx
  case ptr b o => exact RepV.stepB (P := P) (loc := loc) (i := 0) (x := .ptr b o) h loc' 0 hx
  case eptr cs => exact RepV.stepB (P := P) (loc := loc) (i := 0) (x := .eptr cs) h loc' 0 hx
theorem RepC.stepC {P : Program} {G G' : Gh} {w w' : World} {kp : Pos → Pos → Prop} (h : GStep G w G' w' kp) {p : Pos} (q : Pos) {x : PV} {v : Value} (hx : RepC P G w p x v) (hb : x.bC = x) : RepC P G' w' q x v := by
  rw [← hb]; exact hx.stepB h q

theorem GStep.refl (G : Gh) (w : World) : GStep G w G w (fun p q => p = q) :=
  ⟨Keep.refl _ _, fun _ h => ⟨h, rfl⟩, rfl, fun _ _ => rfl, Nat.le_refl _, fun g p q h e => ⟨by rw [h, e], rfl, fun _ h => h⟩, fun o g _ h => ⟨h, .heap rfl⟩⟩
theorem FreeO.relabel {G : Gh} {w : World} {o : Option Pos} {g : Nat} (h : FreeO G w o g) {f : Pos → Pos} (hf : f qpos = qpos) (ho : o = none ∨ o = some qpos) : FreeO (G.relabel f) w o g :=
  ⟨h.1, by rcases ho with rfl | rfl <;> simp [Gh.relabel, h.2.1, hf], h.2.2⟩
theorem GStep.relabel (G : Gh) (w : World) (f : Pos → Pos) (hf : f qpos = qpos) : GStep G w (G.relabel f) w (fun p q => q = f p) :=
  ⟨Keep.refl _ _, fun _ h => ⟨h, rfl⟩, rfl, fun _ _ => rfl, Nat.le_refl _, fun g p q h e => ⟨by simp [Gh.relabel, h, e], rfl, fun _ h => h⟩, fun o g ho h => ⟨h.relabel hf ho, .heap rfl⟩⟩

theorem Rel.next {P : Program} {F : Fr} {G : Gh} {st : St} {a : Act} {w : World} (h : Rel P F G st a w) {G' : Gh} {w' : World} {kp : Pos → Pos → Prop} (hg : GStep G w G' w' kp)
    {ts : List Nat} {d : Option Nat} {x : PV} {v : Value} {bx : BN → Option (List PV)}
    (hk : ∀ t, t ∉ ts → some t ≠ d → ∀ i j, kp (.t t, i, j) (.t t, i, j)) (hx : ∀ d', d = some d' → RepT P G' w' (.t d') x v) (hd : ∀ d', d = some d' → d' < F.nt)
    (hp : Hp P G' w' bx) (sn : Since F G' w') : Rel P F G' (st.upd ts d x bx) (a.put d v) w' := by
  have hsz : (a.put d v).tmps.size = a.tmps.size := by cases d <;> simp [Act.put]
  refine ⟨fun t => ?_, hp, sn, hsz.trans h.nt, by cases d <;> simpa [Act.put] using h.defers, fun g hz => ⟨(hg.free _ g (.inl rfl) (h.z g hz).1).1, (h.z g hz).2.trans (hg.free _ g (.inl rfl) (h.z g hz).1).2.kindN⟩⟩
  have hother : some t ≠ d → (a.put d v).tmps.getD t undef = a.tmps.getD t undef := by
    intro hne
    cases d with
    | none => rfl
    | some d' =>
      have : d' ≠ t := fun e => hne (by rw [e])
      simp [Act.put, Array.getD_eq_getD_getElem?, Array.getElem?_setIfInBounds, this]
  simp only [St.upd]
  by_cases htd : some t = d
  · rw [if_pos htd]
    obtain rfl := htd.symm
    have hlt := hd t rfl
    have : (a.put (some t) v).tmps.getD t undef = v := by
      simp [Act.put, Array.getD_eq_getD_getElem?, Array.getElem?_setIfInBounds, h.nt, hlt]
    rw [this]
    exact hx t rfl
  · rw [if_neg htd, hother htd]
    by_cases hts : t ∈ ts
    · rw [if_pos hts]; exact (h.tm t).stepB hg _
    · rw [if_neg hts]; exact (h.tm t).step hg (hk t hts htd)

/-- A value that is nobody's own, put into a slot. -/
theorem Rel.put0 {P : Program} {F : Fr} {G : Gh} {st : St} {a : Act} {w : World} (h : Rel P F G st a w) {d : Nat} {x : PV} {v : Value} (hd : d < F.nt)
    (hx : RepT P G w (.t d) x v) : Rel P F G (st.upd [] (some d) x st.bx) (a.put (some d) v) w :=
  h.next (GStep.refl G w) (fun t _ _ i j => rfl) (fun d' e => by cases e; exact hx) (fun d' e => by cases e; exact hd) h.hp h.sn

theorem Hp.relabel {P : Program} {G : Gh} {w : World} {B : BN → Option (List PV)} (h : Hp P G w B) (f : Pos → Pos) (hf : ∀ b j, f (.b b, 0, j) = (.b b, 0, j)) (hq : f qpos = qpos) : Hp P (G.relabel f) w B := by
  refine ⟨fun b cells hb => (h.bx b cells hb).step (GStep.relabel G w f hq) ((h.live b).2 (by simp [hb])) (fun j => (hf b j).symm) rfl, h.live, h.inj, h.imlt, fun g p hg => ?_, h.boxim, fun b hb => ?_⟩
  · simp only [Gh.relabel, Option.map_eq_some_iff] at hg
    obtain ⟨q, hq, _⟩ := hg
    exact h.ownlt g q hq
  · simp [Gh.relabel, h.boxown b hb]
theorem Since.relabel {F : Fr} {G : Gh} {w : World} (h : Since F G w) (f : Pos → Pos) : Since F (G.relabel f) w := by
  refine ⟨h.ext, fun g p hg => ?_, h.box, h.βa, h.fz, h.fzm⟩
  simp only [Gh.relabel, Option.map_eq_some_iff] at hg
  obtain ⟨q, hq, _⟩ := hg
  exact h.own g q hq

/-- From slot s to slot d. -/
def mvT (s d : Nat) (p : Pos) : Pos := if p.1 = .t s then (.t d, p.2) else p
theorem Rel.moveT {P : Program} {F : Fr} {G : Gh} {st : St} {a : Act} {w : World} (h : Rel P F G st a w) {s d : Nat} (hd : d < F.nt) :
    ∃ G', Rel P F G' (st.upd [s] (some d) (st.tm s) st.bx) (a.put (some d) (a.tmps.getD s undef)) w := by
  refine ⟨G.relabel (mvT s d), h.next (GStep.relabel G w (mvT s d) rfl) (fun t ht _ i j => ?_) (fun d' e => ?_) (fun d' e => by cases e; exact hd) (h.hp.relabel _ ?_ rfl) (h.sn.relabel _)⟩
  · have : t ≠ s := by simpa using ht
    simp [mvT, this]
  · cases e
    exact (h.tm s).step (GStep.relabel G w (mvT s d) rfl) (fun i j => by simp [mvT])
  · intro b j; simp [mvT]

end Go.Bee
