/-
The logic and the walks, part 3. No condition.
-/
import Derived.Test.YtjjehnbebcfhpaaGreatDoorBeeG0FECTEb
import Derived.Test.YtjjehnbebcfhpaaGreatDoorProg
import Derived.KernelRfl
/-
Calls whose slice goes on as a variable in memory, and calls that turn such a slice in its place. No condition.
-/
namespace Go.Bee
set_option linter.unusedVariables false

structure Bx1Step (P : Program) (fl : AF) (o : Oper) (st : St) (m : Nat) (f : Nat) (xs : List Operand) (ys : List PV) (R R' : PV) (e sz : Nat) (l : List PD) : Prop where
  call : isValCall o (.func f) xs
  pass : All2 (LendV (vz fl st.bx)) (xs.map st.ev) ys
  ret : BRet P f [] ys R []
  shape : OwnIn (.t m) e sz l R R'
  ne : l ≠ []
  flat : ∀ y ∈ flat l, y.plain = true
  be : fl.be = true
  free : st.bx (.t m) = none
theorem bx1Step_sound {P : Program} {F : Fr} {G : Gh} {st : St} {a : Act} {w : World} (h : Rel P F G st a w) {fl : AF} {o : Oper} {m f : Nat} {xs : List Operand} {ys : List PV} {R R' : PV} {e sz : Nat} {l : List PD}
    (hd : ∀ d', o.dst = some d' → d' < F.nt) (hc : Bx1Step P fl o st m f xs ys R R' e sz l) {K : Act → World → Prop} {Q : Exit → Act → World → Prop} (hK : ∀ a' w', (∃ G', Rel P F G' (st.after fl o R' (Bx.set st.bx (.t m) ((Bee.flat l).map .d))) a' w') → K a' w') : o.wp P a w K Q := by
  have hbsub : ∀ b c, vz fl st.bx b = some c → st.bx b = some c := by
    intro b c hc; unfold vz at hc; split at hc
    · exact hc
    · cases hc
  obtain ⟨hop, hpass, hret, hshape, hne, hflat, hbe, hbn⟩ := hc
  have hlen : ys.length = xs.length := by simpa using hpass.len
  refine callX hop hlen hret (G.lent w) (fun _ => False) (fun i x y hx hy => ?_) (fun g o h => h) (fun _ => rfl) (fun _ h => h) (fun g => ⟨fun h => ⟨h, id⟩, fun h => h.1⟩) (h.tab.mono (fun _ _ => rfl) (fun g _ h => h)) fun rv G' w' hrv hext hown' hz hpG => ?_
  · exact (hpass.get i _ y (by rw [List.getElem?_map, hx]; rfl) hy).rep h.hp hbsub (h.ev x)
  have hold : ∀ g, g < w.heap.size → w'.heap[g]? = w.heap[g]? := fun g hg => hext.old g hg id
  have hr0 : RepV P G' w' .res 0 R rv := by cases hshape <;> exact hrv
  obtain ⟨j, u, hown, hback⟩ := hshape.rep hr0
  obtain ⟨g, c, rfl, hlc, hrun, hgo, cs, e', hgc⟩ := own_at0 hown hne
  have hgn : w.heap.size ≤ g := (hown' g _ hgo).resolve_right id
  have hgl : g < w'.heap.size := (Array.getElem?_eq_some_iff.1 hgc).1
  have hllen : l.length ≤ 140737488355328 := hown.1.len
  have hnl : ¬ G.live (.t m) := fun hl => by have := (h.hp.live _).1 hl; simp [hbn] at this
  have hβlt : ∀ b, G.live b → G.β b < w.heap.size := fun b hl => by obtain ⟨c, _, hbx⟩ := h.hp.box hl; exact hbx.lt
  let G2 : Gh := { im := G.im, β := fun c => if c = .t m then g else G.β c, live := fun c => c = .t m ∨ G.live c, own := G.own, fz := G.fz }
  have hg : GStep G w G2 w' (fun p q => p = q) :=
    ⟨fun b o hb => ⟨hb, cell_of_heap (hold b (h.hp.imlt b o hb)) o⟩, fun b hl => ⟨.inr hl, by simp only [G2]; rw [if_neg]; intro e; subst e; exact hnl hl⟩, rfl, fun g hg => hold g (by have := (h.sn.fz g hg).1; have := h.sn.ext.size; omega), hext.size,
      fun g p q hg e => ⟨by rw [← e]; exact hg, hold g (h.hp.ownlt g p hg), fun _ h => h⟩,
      fun o k ho hf => ⟨⟨by rw [hold k hf.lt]; exact hf.1, hf.2.1, fun b hl => by
        have := hf.lt
        by_cases e : b = .t m
        · simp only [G2, e, if_true]; omega
        · simp only [G2, e, if_false]; exact hf.2.2.1 b (hl.resolve_left e), hf.2.2.2⟩, .heap (hold k hf.lt)⟩⟩
  obtain ⟨vs, hv1, hv2, hv3, hv4⟩ := hrun
  have hcell : ∀ (i : Nat) z, (Bee.flat l)[i]? = some z → ∃ u, cs[i]? = some u ∧ RepD G'.im w' z u ∧ z.scalar = true := fun i z hz => by
    have hi := (List.getElem?_eq_some_iff.1 hz).1
    have hi2 : vs[i]? = some vs[i] := List.getElem?_eq_getElem (by omega)
    have h2 := (hv3 i _ hi2).2
    rw [Nat.zero_add] at h2
    simp only [World.cell?, hgc] at h2
    exact ⟨_, h2, hv4 i z _ hz hi2, hv2 z (List.mem_of_getElem? hz)⟩
  have hsz : (Bee.flat l).length ≤ cs.size := by
    rcases Nat.eq_zero_or_pos (Bee.flat l).length with h0 | h0
    · omega
    · obtain ⟨u, hu, -⟩ := hcell ((Bee.flat l).length - 1) _ (List.getElem?_eq_getElem (by omega))
      have := (Array.getElem?_eq_some_iff.1 hu).1
      omega
  refine hK _ _ ⟨G2, ?_⟩
  unfold St.after
  rw [if_pos hbe]
  refine h.next hg (fun t _ _ i j => rfl) (fun d' _ => ?_) hd ?_ ?_
  · have := hback G2 w' (.t d') (fun p => ⟨c, hlc, by simp [G2], .inl rfl, hllen⟩)
    cases hshape <;> exact this
  · refine ⟨fun b bcells hbc => ?_, fun b => ?_, fun b b' hl hl' he => ?_, fun k o hk => Nat.lt_of_lt_of_le (h.hp.imlt k o hk) hext.size, fun k p hk => Nat.lt_of_lt_of_le (h.hp.ownlt k p hk) hext.size, fun b hl o him => ?_, fun b hl => ?_⟩
    · by_cases hbd : b = .t m
      · subst hbd
        simp only [Bx.set, if_true, Option.some.injEq] at hbc
        subst hbc
        refine ⟨cs, e', by simp only [G2, if_true]; exact hgc, by simpa using hsz, fun i u hi hu => ?_, fun i z u hz hu => ?_⟩
        · obtain ⟨u', h1, h2, h3⟩ := hcell i _ (List.getElem?_eq_getElem (by simpa using hi))
          rw [hu] at h1; cases h1
          exact h2.oneCell h3
        · rw [List.getElem?_map] at hz
          obtain ⟨z', hz', rfl⟩ := Option.map_eq_some_iff.1 hz
          obtain ⟨u', h1, h2, h3⟩ := hcell i z' hz'
          rw [hu] at h1; cases h1
          exact ⟨plain_sc (hflat z' (List.mem_of_getElem? hz')) h3 h2, h3⟩
      · simp only [Bx.set, hbd, if_false] at hbc
        have hl := (h.hp.live b).2 (by simp [hbc])
        exact (h.hp.bx b bcells hbc).step hg hl (fun j => rfl) (hold _ (hβlt b hl))
    · simp only [G2, Bx.set]
      by_cases hbd : b = .t m
      · simp [hbd]
      · simp [hbd, h.hp.live b]
    · simp only [G2] at he hl hl'
      by_cases h1 : b = .t m <;> by_cases h2 : b' = .t m
      · rw [h1, h2]
      · have := hβlt b' (hl'.resolve_left h2)
        simp [h1, h2] at he; omega
      · have := hβlt b (hl.resolve_left h1)
        simp [h1, h2] at he; omega
      · simp only [h1, h2, if_false] at he
        exact h.hp.inj b b' (hl.resolve_left h1) (hl'.resolve_left h2) he
    · by_cases hbd : b = .t m
      · simp only [G2, hbd, if_true] at him
        have := h.hp.imlt _ _ him; omega
      · simp only [G2, hbd, if_false] at him
        exact h.hp.boxim b (hl.resolve_left hbd) o him
    · by_cases hbd : b = .t m
      · simp only [G2, hbd, if_true]
        cases ho : G.own g with
        | none => rfl
        | some p => have := h.hp.ownlt _ _ ho; omega
      · simp only [G2, hbd, if_false]
        exact h.hp.boxown b (hl.resolve_left hbd)
  · have hx := h.sn.ext
    refine ⟨⟨hext.os.trans hx.os, hext.tape.trans hx.tape, hext.output.trans hx.output, Nat.le_trans hx.size hext.size, fun b hb hw => ?_, fun b o hb => ?_, fun b o hb => hx.new b o hb⟩, h.sn.own, fun b hl => ?_, fun k => by simp [G2, h.sn.βa k], h.sn.fz, h.sn.fzm⟩
    · rw [hold b (Nat.lt_of_lt_of_le hb hx.size)]; exact hx.old b hb hw
    · have hk := hx.keep b o hb
      exact ⟨hk.1, (cell_of_heap (hold b (h.hp.imlt b o hk.1)) o).trans hk.2⟩
    · by_cases hbd : b = .t m
      · left; simp only [G2, hbd, if_true]; have := hx.size; omega
      · simp only [G2, hbd, if_false]; exact h.sn.box b (hl.resolve_left hbd)

/-- A call that turns the slice of a variable, and gives its front. -/
structure RdStep (P : Program) (fl : AF) (o : Oper) (st : St) (b : BN) (f : Nat) (x0 : Operand) (xs : List Operand) (ys : List PD) (sz n n' : Nat) (qs ps : List PD) : Prop where
  call : isValCall o (.func f) (x0 :: xs)
  x0 : st.ev x0 = .rsv b sz n
  box : st.bx b = some (qs.map .d)
  qpl : ∀ y ∈ qs, y.plain = true
  args : xs.map st.ev = ys.map .d
  plainA : ∀ y ∈ ys, y.plain = true
  ret : BRet P f [qs.map .d] (.rsv (.a 0) sz n :: ys.map .d) (.rsv (.a 0) sz n') [ps.map .d]
  plain : ∀ y ∈ ps, y.plain = true
  be : fl.be = true
theorem rdStep_sound {P : Program} {F : Fr} {G : Gh} {st : St} {a : Act} {w : World} (h : Rel P F G st a w) {fl : AF} {o : Oper} {b : BN} {f : Nat} {x0 : Operand} {xs : List Operand} {ys : List PD} {sz n n' : Nat} {qs ps : List PD}
    (hd : ∀ d', o.dst = some d' → d' < F.nt) (hc : RdStep P fl o st b f x0 xs ys sz n n' qs ps) {K : Act → World → Prop} {Q : Exit → Act → World → Prop} (hK : ∀ a' w', (∃ G', Rel P F G' (st.after fl o (.rsv b sz n') (Bx.set st.bx b (ps.map .d))) a' w') → K a' w') : o.wp P a w K Q := by
  obtain ⟨hop, hx0, hbx, hqpl, hargs, hplA, hret, hpl, hbe⟩ := hc
  obtain ⟨ts, hop⟩ := hop
  obtain ⟨hisfn, -, hret⟩ := hret
  have hlive : G.live b := (h.hp.live b).2 (by rw [hbx]; rfl)
  have hbox := h.hp.bx b _ hbx
  have hβlt := hbox.lt
  have hnew := h.sn.box b hlive
  let Gc : Gh := { im := G.im, β := fun _ => G.β b, live := fun c => c = .a 0, own := fun _ => none, fz := fun g => g < w.heap.size ∧ g ≠ G.β b }
  have hlenA : ys.length = xs.length := by have := congrArg List.length hargs; simpa using this.symm
  have hp : Hp P Gc w (bxOf [qs.map .d]) := by
    refine ⟨fun c cells hc => ?_, fun c => ?_, fun c c' hl hl' _ => by rw [show c = .a 0 from hl, show c' = .a 0 from hl'], h.hp.imlt, fun g p hg => (by cases hg), fun c hl o => h.hp.boxim b hlive o, fun c hl => rfl⟩
    · cases c with
      | t n => simp [bxOf] at hc
      | a k =>
        cases k with
        | zero =>
          simp [bxOf] at hc
          subst hc
          obtain ⟨cs, e, h1, h2, h3, h4⟩ := hbox
          refine ⟨cs, e, h1, h2, h3, fun j x u hx hu => ?_⟩
          have hr := h4 j x u hx hu
          rw [List.getElem?_map] at hx
          obtain ⟨z, hz, rfl⟩ := Option.map_eq_some_iff.1 hx
          exact ⟨plain_sc (hqpl z (List.mem_of_getElem? hz)) hr.2 hr.1, hr.2⟩
        | succ k => simp [bxOf] at hc
    · cases c with
      | t n => simp [bxOf, Gc]
      | a k => cases k <;> simp [bxOf, Gc]
  have hcalls := hret Gc w ((x0 :: xs).toArray.map a.eval) (fun g => g = G.β b) (by simp [hlenA]) (fun i y u hy hu => by
      cases i with
      | zero =>
        have hu' : u = a.eval x0 := by simpa using hu.symm
        simp at hy
        subst hu'; subst hy
        have hr := h.ev x0
        rw [hx0] at hr
        obtain ⟨c, h1, h2, h3, h4⟩ := hr
        exact ⟨c, h1, h2, rfl, h4⟩
      | succ i =>
        have hil : i < xs.length := by
          have := (List.getElem?_eq_some_iff.1 hy).1
          simp at this; omega
        have hu' : u = a.eval xs[i] := by simp [hil] at hu; exact hu.symm
        subst hu'
        simp only [List.getElem?_cons_succ] at hy
        have hev : (xs.map st.ev)[i]? = some (st.ev xs[i]) := by rw [List.getElem?_map, List.getElem?_eq_getElem hil]; rfl
        rw [hargs, hy] at hev
        have hr := h.ev xs[i]
        rw [← Option.some.inj hev] at hr
        rw [List.getElem?_map] at hy
        obtain ⟨z, hz, rfl⟩ := Option.map_eq_some_iff.1 hy
        exact ⟨plain_sc (hplA z (List.mem_of_getElem? hz)) hr.2 hr.1, hr.2⟩) hp (fun g p hg => (by cases hg)) (fun c hl => rfl) (fun g hg => hg) (fun g h1 h2 => ⟨h1, h2⟩) (h.tab.mono (fun _ _ => rfl) (fun g h1 h2 => ⟨h2, fun e => by
      obtain ⟨h3, h4⟩ := h.sn.fz g h1
      subst e
      rcases hnew with h5 | h5
      · omega
      · exact h4 h5⟩))
  have hrunX : (execOp a.eval o).run P w = .ok (.enter f ((x0 :: xs).toArray.map a.eval)) w := by
    have := run_callFunc hisfn ((x0 :: xs).toArray.map a.eval) w
    simp [execOp, hop, resolve, Deferred.ofValue, Act.eval, invoke]
    simpa [Act.eval] using this
  unfold Oper.wp
  rw [hrunX]
  refine Calls.mono hcalls fun e w' hR => ?_
  obtain ⟨rv, G', rfl, hrv, hpG, hext, hβ', -, -⟩ := hR
  have hβ0 : G'.β (.a 0) = G.β b := hβ' 0
  have hold : ∀ g, g < w.heap.size → g ≠ G.β b → w'.heap[g]? = w.heap[g]? := fun g hg hn => hext.old g hg hn
  have hg : GStep G w G w' (fun p q => p = q) :=
    ⟨fun b o hb => ⟨hb, (hext.keep b o hb).2⟩, fun b hl => ⟨hl, rfl⟩, rfl, fun g hg => by
        obtain ⟨h1, h2⟩ := h.sn.fz g hg
        have hs := h.sn.ext.size
        refine hold g (by omega) (fun e => ?_)
        subst e
        rcases hnew with h3 | h3
        · omega
        · exact h2 h3, hext.size,
      fun g p q hg e => ⟨by rw [hg, e], hold g (h.hp.ownlt g p hg) (fun e => by rw [e, h.hp.boxown b hlive] at hg; cases hg), fun _ h => h⟩,
      fun o g ho hf => by
        have hs := hold g hf.lt (fun e => hf.2.2.1 b hlive e.symm)
        exact ⟨⟨by rw [hs]; exact hf.1, hf.2⟩, .heap hs⟩⟩
  refine hK _ _ ⟨G, ?_⟩
  unfold St.after
  rw [if_pos hbe]
  refine h.next hg (fun t _ _ i j => rfl) (fun d' _ => ?_) hd ⟨fun c cells hc => ?_, fun c => ?_, h.hp.inj, fun g o hg => Nat.lt_of_lt_of_le (h.hp.imlt g o hg) hext.size, fun g p hg => Nat.lt_of_lt_of_le (h.hp.ownlt g p hg) hext.size, h.hp.boxim, h.hp.boxown⟩ ?_
  · obtain ⟨c, h1, h2, h3, h4⟩ := hrv
    exact ⟨c, h1, by rw [← hβ0]; exact h2, hlive, h4⟩
  · by_cases hcb : c = b
    · subst hcb
      simp only [Bx.set, if_true, Option.some.injEq] at hc
      subst hc
      obtain ⟨cs, e, h1, h2, h3, h4⟩ := hpG.bx (.a 0) (ps.map .d) (by simp [bxOf])
      rw [hβ0] at h1
      refine ⟨cs, e, h1, h2, h3, fun j x u hx hu => ?_⟩
      have hr := h4 j x u hx hu
      rw [List.getElem?_map] at hx
      obtain ⟨z, hz, rfl⟩ := Option.map_eq_some_iff.1 hx
      exact ⟨plain_sc (hpl z (List.mem_of_getElem? hz)) hr.2 hr.1, hr.2⟩
    · simp only [Bx.set, hcb, if_false] at hc
      have hl := (h.hp.live c).2 (by simp [hc])
      exact (h.hp.bx c cells hc).step hg hl (fun j => rfl) (hold _ (h.hp.bx c cells hc).lt (fun e => hcb (h.hp.inj c b hl hlive e)))
  · simp only [Bx.set]
    by_cases hcb : c = b
    · simp [hcb, hlive]
    · simp [hcb, h.hp.live c]
  · have hx := h.sn.ext
    refine ⟨⟨hext.os.trans hx.os, hext.tape.trans hx.tape, hext.output.trans hx.output, Nat.le_trans hx.size hext.size, fun g hb hw => ?_, fun g o hb => ?_, fun b o hb => hx.new b o hb⟩, h.sn.own, h.sn.box, h.sn.βa, h.sn.fz, h.sn.fzm⟩
    · rw [hold g (Nat.lt_of_lt_of_le hb hx.size) (fun e => by subst e; rcases hnew with h3 | h3; omega; exact hw h3)]; exact hx.old g hb hw
    · have hk := hx.keep g o hb
      exact ⟨hk.1, (hext.keep g o hk.1).2.trans hk.2⟩
end Go.Bee

/-
The operations of a region, in whatever order. No condition.
-/
namespace Go.Bee
set_option linter.unusedVariables false

def pdsOf : List PV → Option (List PD)
  | [] => some []
  | x :: xs => (x.pd).bind fun y => (pdsOf xs).map fun ys => y :: ys
theorem pdsOf_get : ∀ {l : List PV} {ys : List PD}, pdsOf l = some ys → ys.length = l.length ∧ ∀ (i : Nat) x y, l[i]? = some x → ys[i]? = some y → x.pd = some y
  | [], ys, h => by simp [pdsOf] at h; subst h; simp
  | x :: xs, ys, h => by
    simp only [pdsOf, Option.bind_eq_some_iff, Option.map_eq_some_iff] at h
    obtain ⟨y, hy, zs, hz, rfl⟩ := h
    obtain ⟨h1, h2⟩ := pdsOf_get hz
    refine ⟨by simp [h1], fun i a b ha hb => ?_⟩
    cases i with
    | zero => simp at ha hb; subst ha; subst hb; exact hy
    | succ i => simp at ha hb; exact h2 i a b ha hb
structure FnStep (fl : AF) (o : Oper) (st : St) (v : PV) (X : Operand) (xs : List Operand) (K : List PD → Option PD) (zs : List PD) (r : PD) : Prop where
  call : isValCall o X xs
  fn : st.ev X = .fn K
  args : pdsOf (xs.map st.ev) = some zs
  res : K zs = some r
  out : v = ofPD r

theorem fnStep_sound {P : Program} {F : Fr} {G : Gh} {st : St} {a : Act} {w : World} (h : Rel P F G st a w) {fl : AF} {o : Oper} {v : PV} {X : Operand} {xs : List Operand} {Kf : List PD → Option PD} {zs : List PD} {r : PD}
    (hd : ∀ d', o.dst = some d' → d' < F.nt) (hc : FnStep fl o st v X xs Kf zs r) {K : Act → World → Prop} {Q : Exit → Act → World → Prop} (hK : ∀ a' w', (∃ G', Rel P F G' (st.after fl o v (vz fl st.bx)) a' w') → K a' w') : o.wp P a w K Q := by
  obtain ⟨⟨tys, hop⟩, hfn, hargs, hres, rfl⟩ := hc
  have hX := h.ev X
  rw [hfn] at hX
  obtain ⟨f, caps, hXv, hisfn, hKK⟩ := hX
  obtain ⟨hpl, hcalls⟩ := hKK zs r hres
  obtain ⟨hzl, hzg⟩ := pdsOf_get hargs
  have hc := hcalls G.im w (Keep.refl _ _) (fun _ _ => rfl) (Nat.le_refl _) h.hp.imlt (xs.toArray.map a.eval) (by simpa using hzl.symm) (fun i x u hx hu => by
    have hil : i < xs.length := by
      have := (List.getElem?_eq_some_iff.1 hx).1
      rw [hzl] at this; simpa using this
    have hu' : u = a.eval xs[i] := by simp [hil] at hu; exact hu.symm
    subst hu'
    have hev : (xs.map st.ev)[i]? = some (st.ev xs[i]) := by rw [List.getElem?_map, List.getElem?_eq_getElem hil]; rfl
    exact pd_RepD (h.ev xs[i]) (hzg i _ x hev hx))
  have hrunX : (execOp a.eval o).run P w = .ok (.enter f (xs.toArray.map a.eval ++ caps)) w := by
    have := run_callFunc hisfn (xs.toArray.map a.eval ++ caps) w
    simp [execOp, hop, resolve, Deferred.ofValue, hXv, invoke]
    simpa using this
  unfold Oper.wp
  rw [hrunX]
  refine Calls.mono hc fun e w' hR => ?_
  obtain ⟨u, rfl, hext, hru⟩ := hR
  have hsame : (if fl.be = true then vz fl st.bx else st.bx) = st.bx := by split <;> first | (rename_i hbe; simp [vz, hbe]) | rfl
  have hg : GStep G w G w' (fun p q => p = q) := by
    refine ⟨hext.keep, fun b hl => ⟨hl, rfl⟩, rfl, fun g hg => ?_, hext.size, fun g p q hgp e => ⟨by rw [hgp, e], hext.old g (h.hp.ownlt g p hgp) (fun h => h), fun _ h => h⟩, fun o g ho hf => ⟨⟨by rw [hext.old g hf.lt (fun h => h)]; exact hf.1, hf.2⟩, .heap (hext.old g hf.lt (fun h => h))⟩⟩
    obtain ⟨h1, h2⟩ := h.sn.fz g hg
    have hs := h.sn.ext.size
    exact hext.old g (by omega) (fun h => h)
  refine hK _ _ ⟨G, ?_⟩
  unfold St.after
  rw [hsame]
  refine h.next hg (fun t _ _ i j => rfl) (fun d' _ => ofPD_rep hru) hd ⟨fun b cells hb => ?_, h.hp.live, h.hp.inj, fun g o hg => Nat.lt_of_lt_of_le (h.hp.imlt g o hg) hext.size, fun g p hg => Nat.lt_of_lt_of_le (h.hp.ownlt g p hg) hext.size, h.hp.boxim, h.hp.boxown⟩ ⟨h.sn.ext.trans hext (fun b hb => hb.elim), h.sn.own, h.sn.box, h.sn.βa, h.sn.fz, h.sn.fzm⟩
  have hl := (h.hp.live b).2 (by simp [hb])
  exact (h.hp.bx b cells hb).step hg hl (fun j => rfl) (hext.old _ (h.hp.bx b cells hb).lt (fun h => h))

/-- What an operation that is carried out comes to. -/
inductive OS1 (P : Program) (fl : AF) (o : Oper) (st : St) : PV → Bx → Prop
  | ev (v : PV) (B' : Bx) (h : ev1 P fl o st.ev (vz fl st.bx) = some (v, B')) : OS1 P fl o st v B'
  | call (v : PV) (B' : Bx) (X : Operand) (xs : List Operand) (f : Nat) (caps ys : List PV) (nm : List BN) (bi bo : List (List PV)) (h : CallStep P fl o st v B' X xs f caps ys nm bi bo) : OS1 P fl o st v B'
  | fn (v : PV) (X : Operand) (xs : List Operand) (K : List PD → Option PD) (zs : List PD) (r : PD) (h : FnStep fl o st v X xs K zs r) : OS1 P fl o st v (vz fl st.bx)
  | look (v : PV) (f : Nat) (xs : List Operand) (ys : List PV) (r : PV) (h : QStep P fl o st v f xs ys r) : OS1 P fl o st v (vz fl st.bx)
  | writes (x : PD) (f : Nat) (xs : List Operand) (h : ZStep P fl o st x f xs) : OS1 P fl o st (.d x) (vz fl st.bx)
  | boxed (m f : Nat) (xs : List Operand) (ys : List PV) (R R' : PV) (x : PD) (e sz : Nat) (l : List PD) (h : BxStep P fl o st m f xs ys R R' x e sz l) : OS1 P fl o st (.tup [R', .d x]) (Bx.set st.bx (.t m) ((flat l).map .d))
  | boxed1 (m f : Nat) (xs : List Operand) (ys : List PV) (R R' : PV) (e sz : Nat) (l : List PD) (h : Bx1Step P fl o st m f xs ys R R' e sz l) : OS1 P fl o st R' (Bx.set st.bx (.t m) ((flat l).map .d))
  | redo (b : BN) (f : Nat) (x0 : Operand) (xs : List Operand) (ys : List PD) (sz n n' : Nat) (qs ps : List PD) (h : RdStep P fl o st b f x0 xs ys sz n n' qs ps) : OS1 P fl o st (.rsv b sz n') (Bx.set st.bx b (ps.map .d))
theorem os1_sound {P : Program} {F : Fr} {G : Gh} {st : St} {a : Act} {w : World} (h : Rel P F G st a w) {fl : AF} {o : Oper} {v : PV} {B' : Bx} (hd : ∀ d', o.dst = some d' → d' < F.nt)
    (hs : OS1 P fl o st v B') {K : Act → World → Prop} {Q : Exit → Act → World → Prop} (hK : ∀ a' w', (∃ G', Rel P F G' (st.after fl o v B') a' w') → K a' w') : o.wp P a w K Q := by
  cases hs with
  | ev _ _ he => exact ev1_sound h hd he hK
  | call _ _ X xs f caps ys nm bi bo hc => exact callStep_sound h hd hc hK
  | fn _ X xs K zs r hc => exact fnStep_sound h hd hc hK
  | look _ f xs ys r hc => exact qStep_sound h hd hc hK
  | writes x f xs hc => exact zStep_sound h hd hc hK
  | boxed m f xs ys R R' x e sz l hc => exact bxStep_sound h hd hc hK
  | boxed1 m f xs ys _ R' e sz l hc => exact bx1Step_sound h hd hc hK
  | redo b f x0 xs ys sz n n' qs ps hc => exact rdStep_sound h hd hc hK

/-- Is an operation carried out? -/
def gd (ops : Array Oper) (o : Oper) (st : St) : Option Bool :=
  match o.guard with
  | none => some true
  | some (j, want) => match (ops[j]?).bind (·.dst) with
    | none => none
    | some t => match st.tm t with
      | .d (.bool b) => some (b == want)
      | .und => some false
      | _ => none
inductive OS (P : Program) (ops : Array Oper) (fl : AF) (o : Oper) (st : St) : St → Prop
  | run (v : PV) (B' : Bx) (hg : gd ops o st = some true) (h : OS1 P fl o st v B') : OS P ops fl o st (st.after fl o v B')
  | skip (hg : gd ops o st = some false) : OS P ops fl o st (st.upd [] o.dst .und st.bx)
theorem gd_wanted {P : Program} {F : Fr} {G : Gh} {st : St} {a : Act} {w : World} (h : Rel P F G st a w) {ops : Array Oper} {o : Oper} {b : Bool} (hg : gd ops o st = some b) : Region.wanted o (yielded ops a.tmps) = b := by
  unfold gd at hg
  unfold Region.wanted
  split at hg
  · rename_i hn; simp only [hn]; simpa using hg
  · rename_i j want hn
    simp only [hn]
    split at hg
    · cases hg
    · rename_i t ht
      have hr := h.tm t
      unfold yielded
      rw [ht]
      simp only [Option.bind_some]
      split at hg
      · rename_i c hc
        rw [hc] at hr
        obtain ⟨hr, -⟩ := hr
        have hv : a.tmps.getD t undef = .bool c := by generalize a.tmps.getD t undef = u at hr; cases hr; rfl
        have : a.tmps[t]? = some (.bool c) := by
          rw [Array.getD_eq_getD_getElem?] at hv
          cases hx : a.tmps[t]? with
          | none => rw [hx] at hv; simp [undef] at hv
          | some u => rw [hx] at hv; simp at hv; rw [hv]
        rw [this]
        simp only [Option.some.injEq] at hg
        subst hg
        cases c <;> cases want <;> rfl
      · rename_i hc
        rw [hc] at hr
        have hv : a.tmps.getD t undef = undef := hr
        simp only [Option.some.injEq] at hg
        subst hg
        rw [Array.getD_eq_getD_getElem?] at hv
        cases hx : a.tmps[t]? with
        | none => rfl
        | some u => rw [hx] at hv; simp at hv; rw [hv]; rfl
      · cases hg
theorem os_sound {P : Program} {F : Fr} {G : Gh} {st st' : St} {a : Act} {w : World} (h : Rel P F G st a w) {ops : Array Oper} {fl : AF} {i : Nat} {o : Oper} (ho : ops[i]? = some o) (hd : ∀ d', o.dst = some d' → d' < F.nt)
    (hs : OS P ops fl o st st') {K : Act → World → Prop} {Q : Exit → Act → World → Prop} (hK : ∀ a' w', (∃ G', Rel P F G' st' a' w') → K a' w') : wpOp P ops Q i K a w := by
  unfold wpOp
  rw [ho]
  cases hs with
  | run v B' hg hs =>
    simp only [gd_wanted h hg, if_true]
    exact .inl (os1_sound h hd hs hK)
  | skip hg =>
    simp only [gd_wanted h hg, Bool.false_eq_true, if_false]
    exact hK _ _ ⟨G, h.put1 [] hd (fun loc => rfl)⟩

/-! What looks at some boxes alone. -/
def St.at (st : St) (B : Bx) : St := ⟨st.tm, B⟩
def joinB (l : List BN) (B' B : Bx) : Bx := fun b => if l.contains b = true then B' b else B b
inductive OSx (P : Program) (ops : Array Oper) (fl : AF) (inn : Option (List BN)) (o : Oper) (st st' : St) : Prop
  | all (h : inn = none) (hs : OS P ops fl o st st') : OSx P ops fl inn o st st'
  | loc (l : List BN) (h : inn = some l) (hs : ∀ B2 : Bx, (∀ b, l.contains b = true → B2 b = st.bx b) → OS P ops fl o (st.at B2) ⟨st'.tm, joinB l st'.bx B2⟩) (hout : ∀ b, l.contains b = false → st'.bx b = st.bx b) : OSx P ops fl inn o st st'
theorem OSx.os {P : Program} {ops : Array Oper} {fl : AF} {inn : Option (List BN)} {o : Oper} {st st' : St} (h : OSx P ops fl inn o st st') : OS P ops fl o st st' := by
  cases h with
  | all _ hs => exact hs
  | loc l _ hs hout =>
    have h1 := hs st.bx fun _ _ => rfl
    have e : (⟨st'.tm, joinB l st'.bx st.bx⟩ : St) = st' := by
      cases st' with
      | mk tm bx =>
        simp only [St.mk.injEq, true_and]
        funext b
        unfold joinB
        by_cases hb : l.contains b = true
        · rw [if_pos hb]
        · rw [if_neg hb]; exact (hout b (by simpa using hb)).symm
    rw [e] at h1; exact h1

/-- A run of operations, by their numbers. -/
inductive Runs (P : Program) (ops : Array Oper) (fls : Nat → AF) (inns : Nat → Option (List BN)) : List Nat → St → St → Prop
  | nil (st : St) : Runs P ops fls inns [] st st
  | cons (i : Nat) (l : List Nat) (o : Oper) (st s1 st' : St) (ho : ops[i]? = some o) (h : OSx P ops (fls i) (inns i) o st s1) (hl : Runs P ops fls inns l s1 st') : Runs P ops fls inns (i :: l) st st'

theorem runs_sound {P : Program} {F : Fr} {ops : Array Oper} {fls : Nat → AF} {inns : Nat → Option (List BN)} {Q : Exit → Act → World → Prop} (hd : ∀ (i : Nat) o, ops[i]? = some o → ∀ d', o.dst = some d' → d' < F.nt) {l : List Nat} {st sF : St} (hr : Runs P ops fls inns l st sF) :
    ∀ {G : Gh} {a : Act} {w : World}, Rel P F G st a w → (∀ a' w', (∃ G', Rel P F G' sF a' w') → Q .normal a' w') → wpOps P ops Q l a w := by
  induction hr with
  | nil st => intro G a w h hQ; exact hQ a w ⟨G, h⟩
  | cons i l o st s1 st' ho hs hl ih =>
    intro G a w h hQ
    rw [wpOps_cons]
    exact os_sound h ho (hd i o ho) hs.os fun a' w' ⟨G', h'⟩ => ih h' hQ

/-! Two operations that have nothing to do with one another may change places. -/
def touched (ops : Array Oper) (o : Oper) : List Nat := o.dst.toList ++ o.looksAt ops
def written (fl : AF) (o : Oper) : List Nat := o.dst.toList ++ stripsOf fl o
def apart : Option (List BN) → Option (List BN) → Bool
  | some l, some m => l.all fun b => !m.contains b
  | _, _ => false
def inAll (inn : Option (List BN)) (b : BN) : Bool := match inn with
  | none => true
  | some l => l.contains b
def indep (ops : Array Oper) (f1 f2 : AF) (i1 i2 : Option (List BN)) (x y : Oper) : Bool :=
  ((written f1 x).all fun t => !(touched ops y).contains t) && ((written f2 y).all fun t => !(touched ops x).contains t) && (apart i1 i2 || (!(f1.be && (f2.bt || f2.be)) && !(f2.be && (f1.bt || f1.be))))

theorem looks_tmps {ops : Array Oper} {o : Oper} {t : Nat} (h : Operand.tmp t ∈ o.op.operands) : t ∈ touched ops o := by
  unfold touched Oper.looksAt
  simp only [List.mem_append, List.mem_filterMap]
  exact .inr (.inl ⟨.tmp t, by simpa using h, rfl⟩)
theorem ev_congr {st σ : St} {ops : Array Oper} {o : Oper} (h : ∀ t, t ∈ touched ops o → σ.tm t = st.tm t) : ∀ x, x ∈ o.op.operands → σ.ev x = st.ev x := by
  intro x hx
  cases x with
  | tmp t => exact h t (looks_tmps hx)
  | const v => rfl
  | global g => rfl
  | func f => rfl
theorem ev1_congr {P : Program} {fl : AF} {o : Oper} {ρ ρ' : Operand → PV} {B : Bx} (h : ∀ x, x ∈ o.op.operands → ρ' x = ρ x) : ev1 P fl o ρ' B = ev1 P fl o ρ B := by
  unfold ev1
  cases hop : o.op <;> simp only [hop, Op.operands, Call.operands] at h <;> try rfl
  case move x => simp [h x (by simp)]
  case assign x => simp [h x (by simp)]
  case pick c a b => simp [h c (by simp), h a (by simp), h b (by simp)]
  case box t x => simp [h x (by simp)]
  case build t parts =>
    have : parts.toList.map (fun p => (p.1, ρ' p.2)) = parts.toList.map (fun p => (p.1, ρ p.2)) := by
      apply List.map_congr_left
      intro p hp
      rw [h p.2 (by simp only [List.mem_toArray, List.mem_map]; exact ⟨p, hp, rfl⟩)]
    simp [this]
  case buildSlice t len parts =>
    have : parts.toList.map (fun p => (p.1, ρ' p.2)) = parts.toList.map (fun p => (p.1, ρ p.2)) := by
      apply List.map_congr_left
      intro p hp
      rw [h p.2 (by simp only [List.mem_toArray, List.mem_map]; exact ⟨p, hp, rfl⟩)]
    simp [this]
  case load t x => simp [h x (by simp)]
  case store t x y => simp [h x (by simp), h y (by simp)]
  case nilCheck x => simp [h x (by simp)]
  case binOp op t x y yt => simp [h x (by simp), h y (by simp)]
  case unOp op t x => simp [h x (by simp)]
  case convert s t x => simp [h x (by simp)]
  case makeFunc fn first caps =>
    have e1 : caps.toList.map (fun c => (ρ' c).bC) = caps.toList.map (fun c => (ρ c).bC) := by
      apply List.map_congr_left
      intro c hc
      rw [h c (by simp; exact .inr (by simpa using hc))]
    have e2 : caps.toList.all (fun c => ((ρ' c).bC).isAt) = caps.toList.all (fun c => ((ρ c).bC).isAt) := by
      rw [Bool.eq_iff_iff, List.all_eq_true, List.all_eq_true]
      constructor <;> intro hh c hc
      · have := hh c hc; rwa [h c (by simp; exact .inr (by simpa using hc))] at this
      · have := hh c hc; rwa [← h c (by simp; exact .inr (by simpa using hc))] at this
    cases fn <;> simp only [] <;> rw [e1, e2]
  case slice t x lo hi mx =>
    have e1 : lo.map ρ' = lo.map ρ := by cases lo with | none => rfl | some q => simp [h q (by simp)]
    have e2 : hi.map ρ' = hi.map ρ := by cases hi with | none => rfl | some q => simp [h q (by simp)]
    simp only [h x (by simp), e1, e2]
  case fieldAddr t x f => simp [h x (by simp)]
  case field t x f => simp [h x (by simp)]
  case indexAddr t x i => simp [h x (by simp), h i (by simp)]
  case index t x i => simp [h x (by simp), h i (by simp)]
  case makeSlice t lo hi => simp [h lo (by simp), h hi (by simp)]
  case extract x i => simp [h x (by simp)]
  case call c =>
    simp only
    split
    · rename_i x t hc ha ht
      have : x ∈ c.args := by have : x ∈ c.args.toList := by rw [ha]; simp
                              simpa using this
      rw [h x (by simp [hc, this])]
    · rename_i s x t t' hc ha ht
      have h1 : s ∈ c.args := by have : s ∈ c.args.toList := by rw [ha]; simp
                                 simpa using this
      have h2 : x ∈ c.args := by have : x ∈ c.args.toList := by rw [ha]; simp
                                 simpa using this
      rw [h s (by simp [hc, h1]), h x (by simp [hc, h2])]
    · rename_i s x t t' hc ha ht
      have h1 : s ∈ c.args := by have : s ∈ c.args.toList := by rw [ha]; simp
                                 simpa using this
      have h2 : x ∈ c.args := by have : x ∈ c.args.toList := by rw [ha]; simp
                                 simpa using this
      rw [h s (by simp [hc, h1]), h x (by simp [hc, h2])]
    · rename_i s x t t' hc ha ht
      have h1 : s ∈ c.args := by have : s ∈ c.args.toList := by rw [ha]; simp
                                 simpa using this
      have h2 : x ∈ c.args := by have : x ∈ c.args.toList := by rw [ha]; simp
                                 simpa using this
      rw [h s (by simp [hc, h1]), h x (by simp [hc, h2])]
    · rfl

end Go.Bee

/-
A region whose order is drawn. No condition.
-/
namespace Go.Bee
set_option linter.unusedVariables false

theorem gd_congr {ops : Array Oper} {o : Oper} {st σ : St} (h : ∀ t, t ∈ touched ops o → σ.tm t = st.tm t) : gd ops o σ = gd ops o st := by
  unfold gd
  cases hgd : o.guard with
  | none => rfl
  | some g =>
    obtain ⟨j, want⟩ := g
    simp only
    cases ht : (ops[j]?).bind (·.dst) with
    | none => rfl
    | some t =>
      simp only
      have : t ∈ touched ops o := by
        unfold touched Oper.looksAt
        simp [hgd, ht]
      rw [h t this]

def St.mix (σ st' : St) (ws : List Nat) (be : Bool) : St := ⟨fun t => if t ∈ ws then st'.tm t else σ.tm t, if be = true then st'.bx else σ.bx⟩
theorem vz_congr {fl : AF} {st σ : St} (h : (fl.bt = true ∨ fl.be = true) → σ.bx = st.bx) : vz fl σ.bx = vz fl st.bx := by
  unfold vz
  split
  · rename_i hc; rw [h hc]
  · rfl
theorem strips_touched {ops : Array Oper} {fl : AF} {o : Oper} {t : Nat} (h : t ∈ stripsOf fl o) : t ∈ touched ops o := by
  unfold stripsOf at h
  split at h
  · exact looks_tmps (by simpa using mem_tmpsOf.1 h)
  · simp at h
theorem after_mix {ops : Array Oper} {fl : AF} {o : Oper} {st σ : St} {v : PV} {B' : Bx} (h : ∀ t, t ∈ touched ops o → σ.tm t = st.tm t) : σ.after fl o v B' = σ.mix (st.after fl o v B') (written fl o) fl.be := by
  unfold St.after St.mix St.upd
  congr 1
  · funext t
    simp only [written, List.mem_append]
    by_cases h1 : some t = o.dst
    · have : t ∈ o.dst.toList := by rw [← h1]; simp
      simp [h1, this]
    · have hn : t ∉ o.dst.toList := by intro hm; apply h1; simpa using (Option.mem_toList.1 hm).symm
      by_cases h2 : t ∈ stripsOf fl o
      · simp [h1, h2, h t (strips_touched h2)]
      · simp [h1, h2, hn]
  · by_cases hb : fl.be = true <;> simp [hb]
theorem callF_ev {ops : Array Oper} {o : Oper} {st σ : St} (h : ∀ t, t ∈ touched ops o → σ.tm t = st.tm t) {f : Nat} {xs : List Operand} (hc : isValCall o (.func f) xs) : xs.map σ.ev = xs.map st.ev :=
  List.map_congr_left fun x hx => by
    apply ev_congr h
    obtain ⟨ts, hop⟩ := hc
    rw [hop]
    simp only [Op.operands, Call.operands, Array.mem_append, List.mem_toArray]
    right; exact hx
theorem OS.frame {P : Program} {ops : Array Oper} {fl : AF} {o : Oper} {st st' σ : St} (hs : OS P ops fl o st st') (h : ∀ t, t ∈ touched ops o → σ.tm t = st.tm t) (hb : (fl.bt = true ∨ fl.be = true) → σ.bx = st.bx) :
    OS P ops fl o σ (σ.mix st' (written fl o) fl.be) := by
  have hgd := gd_congr h
  cases hs with
  | run v B' hg hs =>
    rw [← after_mix h]
    refine .run v B' (by rw [hgd]; exact hg) ?_
    have hvz := vz_congr hb
    cases hs with
    | ev _ _ he => exact .ev _ _ (by rw [hvz, ev1_congr (ev_congr h)]; exact he)
    | call _ _ X xs f caps ys nm bi bo hc =>
      have hX : ∀ x, x = X ∨ x ∈ xs → σ.ev x = st.ev x := by
        intro x hx
        apply ev_congr h
        obtain ⟨ts, hop⟩ := hc.call
        rw [hop]
        simp only [Op.operands, Call.operands, Array.mem_append, List.mem_toArray]
        rcases hx with rfl | hx
        · left; simp
        · right; exact hx
      have hmap : xs.map σ.ev = xs.map st.ev := List.map_congr_left fun x hx => hX x (.inr hx)
      exact .call _ _ X xs f caps ys nm bi bo ⟨hc.call, by rw [hX X (.inl rfl)]; exact hc.clo, hc.len, by rw [hmap, hvz]; exact hc.pass, hc.nodup, hc.names, hc.bl, by rw [hvz]; exact hc.bin, hc.bip, hc.bop, hc.gives, hc.ret, hc.be, by rw [hvz]; exact hc.out⟩
    | fn _ X xs K zs r hc =>
      have hX : ∀ x, x = X ∨ x ∈ xs → σ.ev x = st.ev x := by
        intro x hx
        apply ev_congr h
        obtain ⟨ts, hop⟩ := hc.call
        rw [hop]
        simp only [Op.operands, Call.operands, Array.mem_append, List.mem_toArray]
        rcases hx with rfl | hx
        · left; simp
        · right; exact hx
      have hmap : xs.map σ.ev = xs.map st.ev := List.map_congr_left fun x hx => hX x (.inr hx)
      rw [← hvz]
      exact .fn v X xs K zs r ⟨hc.call, by rw [hX X (.inl rfl)]; exact hc.fn, by rw [hmap]; exact hc.args, hc.res, hc.out⟩
    | look _ f xs ys r hc =>
      have hmap : xs.map σ.ev = xs.map st.ev := callF_ev h hc.call
      rw [← hvz]
      exact .look v f xs ys r ⟨hc.call, by rw [hmap, hvz]; exact hc.pass, hc.ret, hc.take⟩
    | writes x f xs hc =>
      have hmap : xs.map σ.ev = xs.map st.ev := callF_ev h hc.call
      rw [← hvz]
      refine .writes x f xs ⟨hc.call, fun y hy => ?_, by rw [hmap]; exact hc.ret, hc.plain⟩
      have : σ.ev y = st.ev y := List.map_inj_left.1 hmap y hy
      rw [this]; exact hc.pass y hy
    | boxed m f xs ys R R' x e sz l hc =>
      have hmap : xs.map σ.ev = xs.map st.ev := callF_ev h hc.call
      have hbx := hb (.inr hc.be)
      rw [← hbx]
      exact .boxed m f xs ys R R' x e sz l ⟨hc.call, by rw [hmap, hvz]; exact hc.pass, hc.ret, hc.shape, hc.plain, hc.ne, hc.flat, hc.be, by rw [hbx]; exact hc.free⟩
    | boxed1 m f xs ys R _ e sz l hc =>
      have hmap : xs.map σ.ev = xs.map st.ev := callF_ev h hc.call
      have hbx := hb (.inr hc.be)
      rw [← hbx]
      exact .boxed1 m f xs ys R _ e sz l ⟨hc.call, by rw [hmap, hvz]; exact hc.pass, hc.ret, hc.shape, hc.ne, hc.flat, hc.be, by rw [hbx]; exact hc.free⟩
    | redo b f x0 xs ys sz n n' qs ps hc =>
      have hmap : (x0 :: xs).map σ.ev = (x0 :: xs).map st.ev := callF_ev h hc.call
      have hbx := hb (.inr hc.be)
      rw [← hbx]
      simp only [List.map_cons, List.cons.injEq] at hmap
      exact .redo b f x0 xs ys sz n n' qs ps ⟨hc.call, by rw [hmap.1]; exact hc.x0, by rw [hbx]; exact hc.box, hc.qpl, by rw [hmap.2]; exact hc.args, hc.plainA, hc.ret, hc.plain, hc.be⟩
  | skip hg =>
    have : σ.mix (st.upd [] o.dst .und st.bx) (written fl o) fl.be = σ.upd [] o.dst .und σ.bx ∨ True := .inr trivial
    have e : (σ.upd [] o.dst .und σ.bx) = σ.mix (st.upd [] o.dst .und st.bx) (written fl o) fl.be := by
      unfold St.mix St.upd
      congr 1
      · funext t
        simp only [written, List.mem_append]
        by_cases h1 : some t = o.dst
        · have : t ∈ o.dst.toList := by rw [← h1]; simp
          simp [h1, this]
        · have hn : t ∉ o.dst.toList := by intro hm; apply h1; simpa using (Option.mem_toList.1 hm).symm
          by_cases h2 : t ∈ stripsOf fl o
          · simp [h1, h2, h t (strips_touched h2)]
          · simp [h1, h2, hn]
      · by_cases hbe : fl.be = true
        · simp [hbe, hb (.inr hbe)]
        · simp [hbe]
    rw [← e]
    exact .skip (by rw [hgd]; exact hg)
theorem OS.outside {P : Program} {ops : Array Oper} {fl : AF} {o : Oper} {st st' : St} (hs : OS P ops fl o st st') : (∀ t, t ∉ written fl o → st'.tm t = st.tm t) ∧ (fl.be = false → st'.bx = st.bx) := by
  cases hs with
  | run v B' hg hs =>
    refine ⟨fun t ht => ?_, fun hbe => by simp [St.after, St.upd, hbe]⟩
    simp only [written, List.mem_append, not_or] at ht
    have h1 : ¬ some t = o.dst := by intro e; apply ht.1; rw [← e]; simp
    simp [St.after, St.upd, h1, ht.2]
  | skip hg =>
    refine ⟨fun t ht => ?_, fun _ => rfl⟩
    simp only [written, List.mem_append, not_or] at ht
    have h1 : ¬ some t = o.dst := by intro e; apply ht.1; rw [← e]; simp
    simp [St.upd, h1]

/-! The same, of what looks at some boxes alone. -/
def rdB (fl : AF) (inn : Option (List BN)) (b : BN) : Prop := (fl.bt = true ∨ fl.be = true) ∧ inAll inn b = true
def wrB (fl : AF) (inn : Option (List BN)) (b : BN) : Bool := fl.be && inAll inn b
def St.mixx (σ st' : St) (ws : List Nat) (wr : BN → Bool) : St := ⟨fun t => if t ∈ ws then st'.tm t else σ.tm t, fun b => if wr b = true then st'.bx b else σ.bx b⟩
theorem OSx.frame {P : Program} {ops : Array Oper} {fl : AF} {inn : Option (List BN)} {o : Oper} {st st' σ : St} (hs : OSx P ops fl inn o st st') (h : ∀ t, t ∈ touched ops o → σ.tm t = st.tm t) (hb : ∀ b, rdB fl inn b → σ.bx b = st.bx b) :
    OSx P ops fl inn o σ (σ.mixx st' (written fl o) (wrB fl inn)) := by
  cases hs with
  | all he hs =>
    subst he
    refine .all rfl ?_
    have h1 := hs.frame h fun hc => funext fun b => hb b ⟨hc, rfl⟩
    have e : σ.mixx st' (written fl o) (wrB fl none) = σ.mix st' (written fl o) fl.be := by
      unfold St.mixx St.mix wrB
      congr 1
      funext b
      by_cases hbe : fl.be = true <;> simp [hbe, inAll]
    rw [e]; exact h1
  | loc l he hs hout =>
    subst he
    refine .loc l rfl (fun B2 hB => ?_) fun b hbl => ?_
    · by_cases hc : fl.bt = true ∨ fl.be = true
      · have h1 := hs B2 fun b hbl => (hB b hbl).trans (hb b ⟨hc, hbl⟩)
        have h2 := h1.frame (σ := σ.at B2) h fun _ => rfl
        have e : (σ.at B2).mix ⟨st'.tm, joinB l st'.bx B2⟩ (written fl o) fl.be = ⟨(σ.mixx st' (written fl o) (wrB fl (some l))).tm, joinB l (σ.mixx st' (written fl o) (wrB fl (some l))).bx B2⟩ := by
          unfold St.mixx St.mix wrB St.at joinB inAll
          simp only [St.mk.injEq, true_and]
          funext b
          by_cases hbe : fl.be = true
          · by_cases hbl : l.contains b = true <;> simp only [hbe, hbl, if_true, Bool.true_and, Bool.false_eq_true, if_false]
          · by_cases hbl : l.contains b = true
            · simp only [hbe, hbl, if_true, Bool.false_eq_true, if_false, Bool.false_and]; exact hB b hbl
            · simp only [hbe, hbl, Bool.false_eq_true, if_false]
        rw [e] at h2; exact h2
      · have hbe : fl.be = false := by
          cases hx : fl.be with
          | false => rfl
          | true => exact absurd (.inr hx) hc
        have h1 := hs st.bx fun _ _ => rfl
        have h2 := h1.frame (σ := σ.at B2) h fun hc' => absurd hc' hc
        have e : (σ.at B2).mix ⟨st'.tm, joinB l st'.bx st.bx⟩ (written fl o) fl.be = ⟨(σ.mixx st' (written fl o) (wrB fl (some l))).tm, joinB l (σ.mixx st' (written fl o) (wrB fl (some l))).bx B2⟩ := by
          unfold St.mixx St.mix wrB St.at joinB inAll
          simp only [St.mk.injEq, true_and]
          funext b
          by_cases hbl : l.contains b = true
          · simp only [hbe, hbl, if_true, Bool.false_eq_true, if_false, Bool.false_and]; exact hB b hbl
          · simp only [hbe, hbl, Bool.false_eq_true, if_false]
        rw [e] at h2; exact h2
    · show (if wrB fl (some l) b = true then st'.bx b else σ.bx b) = σ.bx b
      have : wrB fl (some l) b = false := by simp only [wrB, inAll, hbl, Bool.and_false]
      rw [this]; rfl
theorem OSx.outside {P : Program} {ops : Array Oper} {fl : AF} {inn : Option (List BN)} {o : Oper} {st st' : St} (hs : OSx P ops fl inn o st st') : (∀ t, t ∉ written fl o → st'.tm t = st.tm t) ∧ ∀ b, wrB fl inn b = false → st'.bx b = st.bx b := by
  refine ⟨hs.os.outside.1, fun b hb => ?_⟩
  cases hbe : fl.be with
  | false => rw [hs.os.outside.2 hbe]
  | true =>
    cases hs with
    | all he hs => subst he; simp [wrB, inAll, hbe] at hb
    | loc l he hs hout => subst he; simp only [wrB, inAll, hbe, Bool.true_and] at hb; exact hout b hb
theorem wr_rd {fl : AF} {inn : Option (List BN)} {b : BN} (h : wrB fl inn b = true) : rdB fl inn b := by
  simp only [wrB, Bool.and_eq_true] at h
  exact ⟨.inr h.1, h.2⟩
theorem apart_not {i1 i2 : Option (List BN)} (h : apart i1 i2 = true) {b : BN} (h1 : inAll i1 b = true) : inAll i2 b = false := by
  cases i1 with
  | none => simp [apart] at h
  | some l =>
    cases i2 with
    | none => simp [apart] at h
    | some m =>
      simp only [apart, List.all_eq_true] at h
      have := h b (by simpa [inAll] using h1)
      simpa [inAll] using this
theorem OSx.swap {P : Program} {ops : Array Oper} {f1 f2 : AF} {n1 n2 : Option (List BN)} {x y : Oper} {st s1 s2 : St} (hi : indep ops f1 f2 n1 n2 x y = true) (h1 : OSx P ops f1 n1 x st s1) (h2 : OSx P ops f2 n2 y s1 s2) : ∃ s1', OSx P ops f2 n2 y st s1' ∧ OSx P ops f1 n1 x s1' s2 := by
  unfold indep at hi
  simp only [Bool.and_eq_true, Bool.or_eq_true, Bool.not_eq_true', List.all_eq_true, Bool.and_eq_false_iff, Bool.or_eq_false_iff] at hi
  obtain ⟨⟨i1, i2⟩, i3⟩ := hi
  have w1 : ∀ t, t ∈ written f1 x → t ∉ touched ops y := fun t ht hc => by have := i1 t ht; simp [hc] at this
  have w2 : ∀ t, t ∈ written f2 y → t ∉ touched ops x := fun t ht hc => by have := i2 t ht; simp [hc] at this
  have wt2 : ∀ t, t ∈ written f2 y → t ∈ touched ops y := by
    intro t ht
    simp only [written, List.mem_append] at ht
    rcases ht with ht | ht
    · simp [touched, ht]
    · exact strips_touched ht
  have hA : ∀ b, wrB f1 n1 b = true → ¬ rdB f2 n2 b := by
    intro b hb ⟨hr1, hr2⟩
    simp only [wrB, Bool.and_eq_true] at hb
    rcases i3 with h | ⟨h, -⟩
    · rw [apart_not h hb.2] at hr2; cases hr2
    · rcases h with h | ⟨h, h'⟩
      · rw [h] at hb; cases hb.1
      · rcases hr1 with hc | hc
        · rw [h] at hc; cases hc
        · rw [h'] at hc; cases hc
  have hB : ∀ b, wrB f2 n2 b = true → ¬ rdB f1 n1 b := by
    intro b hb ⟨hr1, hr2⟩
    simp only [wrB, Bool.and_eq_true] at hb
    rcases i3 with h | ⟨-, h⟩
    · rw [apart_not h hr2] at hb; cases hb.2
    · rcases h with h | ⟨h, h'⟩
      · rw [h] at hb; cases hb.1
      · rcases hr1 with hc | hc
        · rw [h] at hc; cases hc
        · rw [h'] at hc; cases hc
  obtain ⟨o1, o2⟩ := h1.outside
  obtain ⟨q1, q2⟩ := h2.outside
  have hf : ∀ {b : Bool}, ¬ b = true → b = false := fun h => by simpa using h
  have e1 := h2.frame (σ := st) (fun t ht => (o1 t (fun hw => w1 t hw ht)).symm) (fun b hb => (o2 b (hf fun hw => hA b hw hb)).symm)
  generalize hs1' : st.mixx s2 (written f2 y) (wrB f2 n2) = s1' at e1
  refine ⟨s1', e1, ?_⟩
  have e2 := h1.frame (σ := s1') (fun t ht => by
    have : t ∉ written f2 y := fun hw => w2 t hw ht
    rw [← hs1']; simp [St.mixx, this]) (fun b hb => by
      rw [← hs1']
      have : wrB f2 n2 b = false := hf fun hw => hB b hw hb
      simp [St.mixx, this])
  have e3 : s1'.mixx s1 (written f1 x) (wrB f1 n1) = s2 := by
    rw [← hs1']
    cases s2 with
    | mk tm2 bx2 =>
      unfold St.mixx
      simp only [St.mk.injEq]
      refine ⟨?_, ?_⟩
      · funext t
        by_cases ht1 : t ∈ written f1 x
        · have hn : t ∉ written f2 y := fun hw => w1 t ht1 (wt2 t hw)
          simp only [ht1, if_true]
          exact (q1 t hn).symm
        · by_cases ht2 : t ∈ written f2 y
          · simp [ht1, ht2]
          · simp only [ht1, ht2, if_false]
            rw [← o1 t ht1]; exact (q1 t ht2).symm
      · funext b
        by_cases hb : wrB f1 n1 b = true
        · have : wrB f2 n2 b = false := hf fun hw => hA b hb (wr_rd hw)
          simp only [hb, if_true]
          exact (q2 b this).symm
        · by_cases hb2 : wrB f2 n2 b = true
          · simp [hb, hb2]
          · simp only [hb, hb2, if_false, Bool.false_eq_true]
            rw [← o2 b (hf hb)]; exact (q2 b (hf hb2)).symm
  rw [← e3]
  exact e2

def edgesOk (ops : Array Oper) : Bool := (List.range ops.size).all fun i => match ops[i]? with
  | some o => o.after.all fun e => !Region.binds .any e || decide (e.on < i)
  | none => true
/-- Does one operation wait for the other, by others between? -/
def reachB (ops : Array Oper) : Nat → Nat → Nat → Bool
  | 0, _, _ => false
  | n + 1, i, j => match ops[i]? with
    | some o => o.after.any fun e => Region.binds .any e && (e.on == j || reachB ops n e.on j)
    | none => false
def Closed (ops : Array Oper) (listed : Array Bool) : Prop := ∀ (i : Nat) o, listed[i]? = some true → ops[i]? = some o → ∀ e ∈ o.after, Region.binds .any e = true → listed[e.on]? = some true
theorem reach_listed {ops : Array Oper} {listed : Array Bool} (hc : Closed ops listed) : ∀ (n i j : Nat), (∀ o, ops[i]? = some o → ∀ e ∈ o.after, Region.binds .any e = true → listed[e.on]? = some true) → reachB ops n i j = true → listed[j]? = some true
  | 0, i, j, _, h => by simp [reachB] at h
  | n + 1, i, j, hi, h => by
    unfold reachB at h
    cases ho : ops[i]? with
    | none => rw [ho] at h; cases h
    | some o =>
      rw [ho] at h
      simp only [Array.any_eq_true'] at h
      obtain ⟨e, he, hb⟩ := h
      simp only [Bool.and_eq_true, Bool.or_eq_true, beq_iff_eq] at hb
      have h1 := hi o ho e he hb.1
      rcases hb.2 with rfl | h2
      · exact h1
      · exact reach_listed hc n e.on j (fun o' ho' => hc e.on o' h1 ho') h2
def regOk (ops : Array Oper) (fls : Nat → AF) (inns : Nat → Option (List BN)) : Bool := edgesOk ops && (List.range ops.size).all fun i => (List.range i).all fun j => match ops[i]?, ops[j]? with
  | some oi, some oj => reachB ops 3 i j || indep ops (fls j) (fls i) (inns j) (inns i) oj oi
  | _, _ => true

theorem runs_bubble {P : Program} {ops : Array Oper} {fls : Nat → AF} {inns : Nat → Option (List BN)} {i : Nat} {oi : Oper} (hoi : ops[i]? = some oi) : ∀ (pre post : List Nat) (st sF : St), (∀ j ∈ pre, ∀ oj, ops[j]? = some oj → indep ops (fls j) (fls i) (inns j) (inns i) oj oi = true) →
    Runs P ops fls inns (pre ++ i :: post) st sF → ∃ s1, OSx P ops (fls i) (inns i) oi st s1 ∧ Runs P ops fls inns (pre ++ post) s1 sF
  | [], post, st, sF, _, h => by
    cases h with
    | cons _ _ o _ s1 _ ho hs hl => rw [hoi] at ho; cases ho; exact ⟨s1, hs, hl⟩
  | j :: pre, post, st, sF, hin, h => by
    cases h with
    | cons _ _ oj _ s1 _ hoj hs hl =>
      obtain ⟨s2, hs2, hl2⟩ := runs_bubble hoi pre post s1 sF (fun k hk => hin k (List.mem_cons_of_mem _ hk)) hl
      obtain ⟨s1', h1, h2⟩ := OSx.swap (hin j (List.mem_cons_self ..) oj hoj) hs hs2
      exact ⟨s1', h1, .cons j _ oj _ _ _ hoj h2 hl2⟩

def remaining (ops : Array Oper) (listed : Array Bool) : List Nat := (List.range ops.size).filter fun i => !listed.getD i true

theorem remaining_split {ops : Array Oper} {listed : Array Bool} {i : Nat} (hi : i < ops.size) (hl : listed.getD i true = false) (hsz : listed.size = ops.size) :
    ∃ pre post, remaining ops listed = pre ++ i :: post ∧ remaining ops (listed.setIfInBounds i true) = pre ++ post ∧ ∀ j ∈ pre, j < i ∧ listed.getD j true = false := by
  have hr : List.range ops.size = List.range i ++ i :: (List.range (ops.size - i - 1)).map (· + (i + 1)) := by
    apply List.ext_getElem?
    intro k
    by_cases h1 : k < i
    · rw [List.getElem?_append_left (by simpa using h1), List.getElem?_range (by omega), List.getElem?_range h1]
    · rw [List.getElem?_append_right (by simpa using h1), List.length_range]
      by_cases h2 : k = i
      · subst h2; simp [hi]
      · have : k - i = (k - i - 1) + 1 := by omega
        rw [this, List.getElem?_cons_succ, List.getElem?_map]
        by_cases h3 : k < ops.size
        · rw [List.getElem?_range h3, List.getElem?_range (by omega)]
          simp; omega
        · rw [List.getElem?_eq_none (by simpa using h3), List.getElem?_eq_none (by simp; omega)]
          rfl
  have hset : ∀ j, j ≠ i → (listed.setIfInBounds i true).getD j true = listed.getD j true := fun j hj => getD_set_ne true (Ne.symm hj)
  have hseti : (listed.setIfInBounds i true).getD i true = true := by simp [hsz, hi]
  refine ⟨(List.range i).filter fun j => !listed.getD j true, ((List.range (ops.size - i - 1)).map (· + (i + 1))).filter fun j => !listed.getD j true, ?_, ?_, ?_⟩
  · unfold remaining
    rw [hr, List.filter_append, List.filter_cons]
    simp only [hl, Bool.not_false, if_true]
  · unfold remaining
    rw [hr, List.filter_append, List.filter_cons]
    simp only [hseti, Bool.not_true, Bool.false_eq_true, if_false]
    congr 1
    · apply List.filter_congr
      intro j hj
      rw [hset j (by have := List.mem_range.1 hj; omega)]
    · apply List.filter_congr
      intro j hj
      obtain ⟨k, _, rfl⟩ := List.mem_map.1 hj
      rw [hset _ (by omega)]
  · intro j hj
    obtain ⟨h1, h2⟩ := List.mem_filter.1 hj
    exact ⟨List.mem_range.1 h1, by simpa using h2⟩

theorem getD_true {l : Array Bool} {k : Nat} (h : l.getD k false = true) : l[k]? = some true := by
  rw [Array.getD_eq_getD_getElem?] at h
  cases hk : l[k]? with
  | none => rw [hk] at h; cases h
  | some b => rw [hk] at h; simp at h; rw [h]
theorem closed_set {ops : Array Oper} {listed : Array Bool} {i : Nat} {oi : Oper} (hc : Closed ops listed) (hoi : ops[i]? = some oi) (hi : ∀ e ∈ oi.after, Region.binds .any e = true → listed[e.on]? = some true) : Closed ops (listed.setIfInBounds i true) := by
  have hup : ∀ k : Nat, listed[k]? = some true → (listed.setIfInBounds i true)[k]? = some true := by
    intro k hk
    rw [Array.getElem?_setIfInBounds]
    split
    · rename_i e
      subst e
      have := (Array.getElem?_eq_some_iff.1 hk).1
      rw [if_pos this]
    · exact hk
  intro k o hk ho e he hb
  apply hup
  by_cases hik : i = k
  · subst hik
    rw [hoi] at ho; cases ho
    exact hi e he hb
  · rw [Array.getElem?_setIfInBounds, if_neg hik] at hk
    exact hc k o hk ho e he hb
theorem any_sound {P : Program} {F : Fr} {ops : Array Oper} {fls : Nat → AF} {inns : Nat → Option (List BN)} {Q : Exit → Act → World → Prop} (hd : ∀ (i : Nat) o, ops[i]? = some o → ∀ d', o.dst = some d' → d' < F.nt) (hok : regOk ops fls inns = true) {sF : St}
    (hQ : ∀ a' w', (∃ G', Rel P F G' sF a' w') → Q .normal a' w') : ∀ (fuel : Nat) (listed : Array Bool) (st : St) (G : Gh) (a : Act) (w : World), listed.size = ops.size → Closed ops listed → Rel P F G st a w → Runs P ops fls inns (remaining ops listed) st sF → (remaining ops listed).length ≤ fuel →
    wpAny P .any ops Q fuel listed a w := by
  unfold regOk edgesOk at hok
  simp only [Bool.and_eq_true, List.all_eq_true, List.mem_range] at hok
  obtain ⟨hedge, hind⟩ := hok
  -- where nothing may come up, nothing is left
  have hnone : ∀ listed : Array Bool, listed.size = ops.size → Region.ready .any ops listed = [] → remaining ops listed = [] := by
    intro listed hsz hr
    apply Classical.byContradiction
    intro hne
    obtain ⟨m, rest, hm⟩ := List.exists_cons_of_ne_nil hne
    have hm1 : m ∈ remaining ops listed := by rw [hm]; simp
    obtain ⟨hm2, hm3⟩ := List.mem_filter.1 hm1
    have hmlt := List.mem_range.1 hm2
    have hmin : ∀ j, j < m → listed.getD j true = true := by
      intro j hj
      apply Classical.byContradiction
      intro hc
      have hc' : listed.getD j true = false := by simpa using hc
      have hjm : j ∈ remaining ops listed := List.mem_filter.2 ⟨List.mem_range.2 (by omega), by simp [hc']⟩
      rw [hm] at hjm
      have hsorted : (remaining ops listed).Pairwise (· < ·) := List.Pairwise.filter _ List.pairwise_lt_range
      rw [hm] at hsorted
      rcases List.mem_cons.1 hjm with rfl | hjr
      · omega
      · have := (List.pairwise_cons.1 hsorted).1 j hjr; omega
    have : m ∈ Region.ready .any ops listed := by
      rw [mem_ready]
      refine ⟨by simpa using hm3, ops[m], Array.getElem?_eq_getElem hmlt, fun e he hb => ?_⟩
      have h1 := hedge m hmlt
      rw [Array.getElem?_eq_getElem hmlt] at h1
      simp only [Array.all_eq_true_iff_forall_mem] at h1
      have h2 := h1 e he
      simp only [hb, Bool.not_true, Bool.false_or, decide_eq_true_eq] at h2
      have h3 := hmin e.on h2
      have hlt : e.on < listed.size := by omega
      simp [hlt] at h3 ⊢
      exact h3
    rw [hr] at this; simp at this
  intro fuel
  induction fuel with
  | zero =>
    intro listed st G a w hsz hcl h hr hl
    have hn : remaining ops listed = [] := List.length_eq_zero_iff.1 (by omega)
    rw [hn] at hr
    cases hr
    refine ⟨?_, hQ a w ⟨G, h⟩⟩
    apply Classical.byContradiction
    intro hne
    obtain ⟨m, rest, hm⟩ := List.exists_cons_of_ne_nil hne
    have hm1 : m ∈ Region.ready .any ops listed := by rw [hm]; simp
    rw [mem_ready] at hm1
    obtain ⟨h1, o, ho, _⟩ := hm1
    have : m ∈ remaining ops listed := List.mem_filter.2 ⟨List.mem_range.2 (Array.getElem?_eq_some_iff.1 ho).1, by simp [h1]⟩
    rw [hn] at this; simp at this
  | succ fuel ih =>
    intro listed st G a w hsz hcl h hr hl
    refine ⟨fun hn => ?_, fun i hi => ?_⟩
    · rw [hnone listed hsz hn] at hr
      cases hr
      exact hQ a w ⟨G, h⟩
    · rw [mem_ready] at hi
      obtain ⟨h1, oi, hoi, hall⟩ := hi
      have hlt := (Array.getElem?_eq_some_iff.1 hoi).1
      obtain ⟨pre, post, e1, e2, e3⟩ := remaining_split hlt h1 hsz
      rw [e1] at hr hl
      obtain ⟨s1, hs1, hr1⟩ := runs_bubble hoi pre post st sF (fun j hj oj hoj => by
        obtain ⟨hji, hjl⟩ := e3 j hj
        have hk := hind i hlt j hji
        rw [hoi, hoj] at hk
        simp only [Bool.or_eq_true] at hk
        rcases hk with hk | hk
        · exfalso
          have h5 := reach_listed hcl 3 i j (fun o ho e he hb => by
            rw [hoi] at ho; cases ho
            exact getD_true (hall e he hb)) hk
          rw [Array.getD_eq_getD_getElem?, h5] at hjl
          cases hjl
        · exact hk) hr
      refine os_sound h hoi (hd i oi hoi) hs1.os fun a' w' ⟨G', h'⟩ => ?_
      refine ih _ s1 G' a' w' (by simpa using hsz) (closed_set hcl hoi fun e he hb => getD_true (hall e he hb)) h' (by rw [e2]; exact hr1) ?_
      rw [e2]
      simp only [List.length_append, List.length_cons] at hl ⊢
      omega

theorem Rel.drew {P : Program} {F : Fr} {G : Gh} {st : St} {a : Act} {w : World} (h : Rel P F G st a w) : Rel P F G st a { w with drawn := w.drawn + 1 } := by
  have hg : GStep G w G { w with drawn := w.drawn + 1 } (fun p q => p = q) := ⟨fun _ _ h => ⟨h, rfl⟩, fun _ h => ⟨h, rfl⟩, rfl, fun _ _ => rfl, Nat.le_refl _, fun g p q h e => ⟨by rw [h, e], rfl, fun _ h => h⟩, fun o g _ h => ⟨h, .heap rfl⟩⟩
  refine ⟨fun t => (h.tm t).step hg (fun i j => rfl), ⟨fun b cells hb => (h.hp.bx b cells hb).step hg ((h.hp.live b).2 (by simp [hb])) (fun j => rfl) rfl, h.hp.live, h.hp.inj, h.hp.imlt, h.hp.ownlt, h.hp.boxim, h.hp.boxown⟩, ⟨?_, h.sn.own, h.sn.box, h.sn.βa, h.sn.fz, h.sn.fzm⟩, h.nt, h.defers, h.z, h.tab⟩
  have := h.sn.ext
  exact ⟨this.os, this.tape, this.output, this.size, this.old, fun b o hb => ⟨(this.keep b o hb).1, (this.keep b o hb).2⟩, this.new⟩

end Go.Bee

/-
The code of a function, walked in the logic. No condition.
-/
namespace Go.Bee
set_option linter.unusedVariables false

/-! What moves: which operations take over what is a slot's own. -/
def consumesT (o : Oper) (t : Nat) : Bool :=
  match o.op with
  | .assign (.tmp u) => u == t
  | .store _ _ (.tmp u) => u == t
  | .box _ (.tmp u) => u == t
  | .extract (.tmp u) _ => u == t
  | .call c => match c.callee, c.args.toList with
    | .builtin .append, .tmp u :: _ => u == t
    | _, _ => false
  | _ => false
def mvOf (dr : Bool) (hs : List Nat) (i : Nat) (o : Oper) (rest : List Oper) : Bool :=
  match o.op with
  | .assign _ => true
  | .box _ _ => true
  | .store _ _ _ => true
  | .extract _ _ => !dr
  | .call c => (match c.callee with
    | .builtin .append => true
    | _ => hs.contains i)
  | .move _ => (match o.dst with | some t => rest.any (fun q => consumesT q t) || hs.contains i | none => false)
  | .load _ _ => (match o.dst with | some t => rest.any (fun q => consumesT q t) || hs.contains i | none => false)
  | _ => false
def flagMv (dr : Bool) (l : List Oper) (hs : List Nat) (i : Nat) : Bool :=
  match l.drop i with
  | o :: rest => mvOf dr hs i o rest
  | [] => false
/-- Is the slot an address in a slice, by an operation of the region itself? -/
def isElem (l : List Oper) : Nat → Operand → Bool
  | n + 1, .tmp t => l.any fun q => q.dst == some t && (match q.op with
    | .indexAddr _ _ _ => true
    | .fieldAddr _ x _ => isElem l n x
    | _ => false)
  | _, _ => false
def flagBe (P : Program) (l : List Oper) (hs : List Nat) (i : Nat) : Bool :=
  match l[i]? with
  | some o => (match o.op with
    | .alloc _ => true
    | .box _ _ => true
    | .store _ _ _ => true
    | .makeSlice _ _ _ => true
    | .load _ x => flagMv false l hs i && !isElem l l.length x
    | .call c => (match c.callee with
      | .value _ => c.argTypes.any fun t => match tyi P t with | some i => i.ptr | none => true
      | _ => false)
    | _ => false)
  | none => false
def flagBt (P : Program) (l : List Oper) (i : Nat) : Bool :=
  match l[i]? with
  | some o => (match o.op with
    | .alloc _ => true
    | .box _ _ => true
    | .store _ _ _ => true
    | .makeSlice _ _ _ => true
    | .load _ x => !isElem l l.length x
    | .call c => (match c.callee with
      | .value _ => c.argTypes.any fun t => match tyi P t with | some i => i.ref | none => true
      | _ => false)
    | _ => false)
  | none => false
def flagsOf (P : Program) (l : List Oper) (hs : List Nat) (draw : Bool) (i : Nat) : AF := { mv := flagMv draw l hs i, bt := !draw || flagBt P l i, be := !draw || flagBe P l hs i }

/-- The boxes that a slot may point to: the box of the slot that it is made from, or a parameter's. -/
def baseN (l : List Oper) : Nat → Nat → Nat
  | n + 1, t => match l.find? fun q => q.dst == some t with
    | some q => (match q.op with
      | .fieldAddr _ (.tmp u) _ => baseN l n u
      | .move (.tmp u) => baseN l n u
      | .nilCheck (.tmp u) => baseN l n u
      | _ => t)
    | none => t
  | 0, t => t
def baseB (l : List Oper) : Operand → List BN
  | .tmp t => [.t (baseN l l.length t), .a (baseN l l.length t)]
  | _ => []
/-- Which boxes an operation of a drawn region may look at; none: any. -/
def inL (P : Program) (dr : Bool) (l : List Oper) (o : Oper) : Option (List BN) :=
  match o.op with
  | .load _ x => if dr = true then some (baseB l x) else none
  | .store _ x _ => if dr = true then some (baseB l x) else none
  | .alloc _ => (match o.dst with | some d => if dr = true then some [.t d] else none | none => none)
  | .box _ _ => (match o.dst with | some d => if dr = true then some [.t d] else none | none => none)
  | .call c => (match c.callee with
    | .value _ => if (dr && c.argTypes.any fun t => match tyi P t with | some i => i.ptr | none => true) = true then some (c.args.toList.flatMap (baseB l)) else none
    | _ => none)
  | _ => none
def innsOf (P : Program) (dr : Bool) (l : List Oper) (i : Nat) : Option (List BN) := match l[i]? with
  | some o => inL P dr l o
  | none => none
/-- What is found is found by these boxes alone. -/
def Loc1 (P : Program) (l : List BN) (fl : AF) (o : Oper) (st : St) (v : PV) (B' : Bx) : Prop :=
  (∀ B2 : Bx, (∀ b, l.contains b = true → B2 b = st.bx b) → ∃ B2', OS1 P fl o (st.at B2) v B2' ∧ (fl.be = true → B2' = joinB l B' B2)) ∧ (fl.be = true → ∀ b, l.contains b = false → B' b = st.bx b)
def okB (l : List BN) : PV → Prop
  | .ptr b _ => l.contains b = true
  | _ => True
/-- Does an operation look at these boxes alone? -/
def locP (l : List BN) (o : Oper) (st : St) : Prop :=
  match o.op with
  | .load _ x => okB l (st.ev x)
  | .store _ x _ => okB l (st.ev x)
  | .alloc _ => (match o.dst with | some d => l.contains (.t d) = true | none => False)
  | .box _ _ => (match o.dst with | some d => l.contains (.t d) = true | none => False)
  | _ => False
def bcallL (P : Program) (l : List BN) (fl : AF) (o : Oper) (K : St → Prop) (st : St) : Prop := ∃ v B', OS1 P fl o st v B' ∧ Loc1 P l fl o st v B' ∧ K (st.after fl o v B')
def bcall (P : Program) (fl : AF) (o : Oper) (K : St → Prop) (st : St) : Prop := ∃ v B', OS1 P fl o st v B' ∧ K (st.after fl o v B')
def bop (P : Program) (fl : AF) (o : Oper) (K : St → Prop) (st : St) : Prop :=
  match o.op with
  | .call c => match c.callee with
    | .value _ => bcall P fl o K st
    | _ => match ev1 P fl o st.ev (vz fl st.bx) with
      | some q => K (st.after fl o q.1 q.2)
      | none => False
  | _ => match ev1 P fl o st.ev (vz fl st.bx) with
    | some q => K (st.after fl o q.1 q.2)
    | none => False
theorem bop_os1 {P : Program} {fl : AF} {o : Oper} {K : St → Prop} {st : St} (h : bop P fl o K st) : ∃ v B', OS1 P fl o st v B' ∧ K (st.after fl o v B') := by
  have key : (match ev1 P fl o st.ev (vz fl st.bx) with | some q => K (st.after fl o q.1 q.2) | none => False) → ∃ v B', OS1 P fl o st v B' ∧ K (st.after fl o v B') := by
    intro h
    cases he : ev1 P fl o st.ev (vz fl st.bx) with
    | none => rw [he] at h; exact h.elim
    | some q => rw [he] at h; exact ⟨q.1, q.2, .ev _ _ he, h⟩
  unfold bop at h
  split at h
  · split at h
    · exact h
    · exact key h
  · exact key h
def bcallD (P : Program) (inn : Option (List BN)) (fl : AF) (o : Oper) (K : St → Prop) (st : St) : Prop :=
  match inn with
  | none => bcall P fl o K st
  | some l => bcallL P l fl o K st
def bopx (P : Program) (inn : Option (List BN)) (fl : AF) (o : Oper) (K : St → Prop) (st : St) : Prop :=
  match inn with
  | none => bop P fl o K st
  | some l => match o.op with
    | .call _ => bcallL P l fl o K st
    | _ => locP l o st ∧ bop P fl o K st
theorem ev_at (st : St) (B : Bx) : (st.at B).ev = st.ev := by
  funext x; cases x <;> rfl
/-- An operation that looks at one box. -/
theorem loc_one {P : Program} {l : List BN} {fl : AF} {o : Oper} {st : St} {b : BN} (hb : l.contains b = true) (F : Option (List PV) → Option (PV × Option (List PV)))
    (hF : ∀ B : Bx, ev1 P fl o st.ev B = (F (B b)).map fun q => (q.1, match q.2 with | none => B | some c => B.set b c)) {v : PV} {B' : Bx} (he : ev1 P fl o st.ev (vz fl st.bx) = some (v, B')) : Loc1 P l fl o st v B' := by
  rw [hF] at he
  simp only [Option.map_eq_some_iff, Prod.mk.injEq] at he
  obtain ⟨⟨v', c⟩, hq, rfl, rfl⟩ := he
  refine ⟨fun B2 hB => ?_, fun hbe b2 hb2 => ?_⟩
  · have e1 : vz fl B2 b = vz fl st.bx b := by
      unfold vz
      split
      · exact hB b hb
      · rfl
    refine ⟨_, .ev _ _ (by rw [ev_at, hF]; show (F (vz fl B2 b)).map _ = _; rw [e1, hq]; rfl), fun hbe => ?_⟩
    have h1 : ∀ B : Bx, vz fl B = B := fun B => by simp [vz, hbe]
    funext b2
    show (match c with | none => vz fl B2 | some c => (vz fl B2).set b c) b2 = _
    rw [h1, h1]
    unfold joinB
    cases c with
    | none =>
      by_cases hl : l.contains b2 = true
      · rw [if_pos hl]; exact hB b2 hl
      · rw [if_neg hl]
    | some c =>
      simp only [Bx.set]
      by_cases hl : l.contains b2 = true
      · rw [if_pos hl]
        by_cases hbb : b2 = b
        · rw [if_pos hbb, if_pos hbb]
        · rw [if_neg hbb, if_neg hbb]; exact hB b2 hl
      · rw [if_neg hl]
        have : ¬ b2 = b := fun e => hl (e ▸ hb)
        rw [if_neg this]
  · have h1 : ∀ B : Bx, vz fl B = B := fun B => by simp [vz, hbe]
    rw [h1]
    cases c with
    | none => rfl
    | some c =>
      have : ¬ b2 = b := fun e => by rw [e, hb] at hb2; cases hb2
      simp only [Bx.set, if_neg this]
/-- An operation that looks at none. -/
theorem loc_no {P : Program} {l : List BN} {fl : AF} {o : Oper} {st : St} (F : Option PV) (hF : ∀ B : Bx, ev1 P fl o st.ev B = F.map fun q => (q, B)) {v : PV} {B' : Bx} (he : ev1 P fl o st.ev (vz fl st.bx) = some (v, B')) : Loc1 P l fl o st v B' := by
  rw [hF] at he
  simp only [Option.map_eq_some_iff, Prod.mk.injEq] at he
  obtain ⟨v', hq, rfl, rfl⟩ := he
  refine ⟨fun B2 hB => ⟨vz fl B2, .ev _ _ (by rw [ev_at, hF]; show F.map _ = _; rw [hq]; rfl), fun hbe => ?_⟩, fun hbe b2 hb2 => by simp [vz, hbe]⟩
  have h1 : ∀ B : Bx, vz fl B = B := fun B => by simp [vz, hbe]
  rw [h1, h1]
  funext b2
  unfold joinB
  by_cases hl : l.contains b2 = true
  · rw [if_pos hl]; exact hB b2 hl
  · rw [if_neg hl]
theorem locP_ok {P : Program} {l : List BN} {fl : AF} {o : Oper} {st : St} (h : locP l o st) {v : PV} {B' : Bx} (he : ev1 P fl o st.ev (vz fl st.bx) = some (v, B')) : Loc1 P l fl o st v B' := by
  obtain ⟨dst, op, ty, pos, af, g⟩ := o
  unfold locP at h
  cases op <;> simp only at h
  case load t x =>
    cases hx : st.ev x
    case ptr b off =>
      rw [hx] at h
      refine loc_one (b := b) h (fun c => c.bind fun cells => (tyi P t).bind fun i => (bxRead cells off i.sz i.agg).bind fun r =>
        if fl.mv = true then (if fl.be = true then some (r, some (stripAt cells off (if i.agg then i.sz else 1))) else none) else some (r.bV, none)) (fun B => ?_) he
      simp only [ev1, evLoad, hx]
      cases B b with
      | none => rfl
      | some cells =>
        simp only [Option.bind_some]
        cases tyi P t with
        | none => rfl
        | some i =>
          simp only [Option.bind_some]
          cases bxRead cells off i.sz i.agg with
          | none => rfl
          | some r =>
            simp only [Option.bind_some]
            split
            · split <;> rfl
            · rfl
    case eptr cs => exact loc_no (evELoad P t cs) (fun B => by simp only [ev1, evLoad, hx]) he
    case efn K => exact loc_no ((tyi P t).bind fun i => if i.agg = true then none else some (PV.fn K)) (fun B => by simp only [ev1, evLoad, hx]) he
    case zp cs => exact loc_no (evZLoad P t cs) (fun B => by simp only [ev1, evLoad, hx]) he
    all_goals exact loc_no none (fun B => by simp only [ev1, evLoad, hx]; rfl) he
  case store t x y =>
    cases hx : st.ev x
    case ptr b off =>
      rw [hx] at h
      refine loc_one (b := b) h (fun c => if dst = none then (c.bind fun cells => (tyi P t).bind fun i => (pvCells (mvd fl.mv (st.ev y))).bind fun new =>
        if fl.be = true ∧ new.length = i.sz ∧ off + new.length ≤ cells.length then some (PV.junk, some (cells.take off ++ new ++ cells.drop (off + new.length))) else none) else none) (fun B => ?_) he
      simp only [ev1, evStore, hx]
      split
      · cases B b with
        | none => rfl
        | some cells =>
          simp only [Option.bind_some]
          cases tyi P t with
          | none => rfl
          | some i =>
            simp only [Option.bind_some]
            cases pvCells (mvd fl.mv (st.ev y)) with
            | none => rfl
            | some new =>
              simp only [Option.bind_some]
              split <;> rfl
      · rfl
    case zp cs =>
      refine loc_no (if dst = none then ((tyi P t).bind fun i => (pvCells (st.ev y).bT).bind fun new => if fl.be = true ∧ new.length = i.sz ∧ 0 < new.length ∧ zfit new cs = true then some PV.junk else none) else none) (fun B => ?_) he
      simp only [ev1, evStore, hx]
      split
      · cases tyi P t with
        | none => rfl
        | some i =>
          simp only [Option.bind_some]
          cases pvCells (st.ev y).bT with
          | none => rfl
          | some new =>
            simp only [Option.bind_some]
            split <;> rfl
      · rfl
    all_goals exact loc_no none (fun B => by simp only [ev1, evStore, hx]; split <;> rfl) he
  case alloc t =>
    cases dst with
    | none => exact h.elim
    | some d =>
      refine loc_one (b := .t d) h (fun c => (tyi P t).bind fun i => if fl.be = true ∧ c = none ∧ i.zero ≠ [] ∧ i.zero.all (fun x => !x.isJunk) = true then some (.ptr (.t d) 0, some i.zero) else none) (fun B => ?_) he
      simp only [ev1, Option.bind_some]
      cases tyi P t with
      | none => rfl
      | some i =>
        simp only [Option.bind_some]
        split <;> rfl
  case box t x =>
    cases dst with
    | none => exact h.elim
    | some d =>
      refine loc_one (b := .t d) h (fun c => (pvCells (mvd fl.mv (st.ev x))).bind fun cells => if fl.be = true ∧ c = none then some (.ptr (.t d) 0, some cells) else none) (fun B => ?_) he
      simp only [ev1, Option.bind_some]
      cases pvCells (mvd fl.mv (st.ev x)) with
      | none => rfl
      | some i =>
        simp only [Option.bind_some]
        split <;> rfl
theorem bopx_os1 {P : Program} {inn : Option (List BN)} {fl : AF} {o : Oper} {K : St → Prop} {st : St} (h : bopx P inn fl o K st) : ∃ v B', OS1 P fl o st v B' ∧ (∀ l, inn = some l → Loc1 P l fl o st v B') ∧ K (st.after fl o v B') := by
  cases inn with
  | none =>
    obtain ⟨v, B', h1, h2⟩ := bop_os1 h
    exact ⟨v, B', h1, fun l e => (by cases e), h2⟩
  | some l =>
    have key : (∀ c, o.op ≠ .call c) → locP l o st → bop P fl o K st → ∃ v B', OS1 P fl o st v B' ∧ (∀ l', some l = some l' → Loc1 P l' fl o st v B') ∧ K (st.after fl o v B') := by
      intro hn hl hb
      have hb2 : match ev1 P fl o st.ev (vz fl st.bx) with | some q => K (st.after fl o q.1 q.2) | none => False := by
        unfold bop at hb
        split at hb
        · rename_i c hc; exact absurd hc (hn c)
        · exact hb
      cases he : ev1 P fl o st.ev (vz fl st.bx) with
      | none => rw [he] at hb2; exact hb2.elim
      | some q => rw [he] at hb2; exact ⟨q.1, q.2, .ev _ _ he, fun l' e => by cases e; exact locP_ok hl he, hb2⟩
    unfold bopx at h
    split at h
    · rename_i e; cases e
    · rename_i l2 e
      cases e
      split at h
      · obtain ⟨v, B', h1, h2, h3⟩ := h
        exact ⟨v, B', h1, fun l' e => (by cases e; exact h2), h3⟩
      · rename_i hn
        exact key (fun c hc => hn c hc) h.1 h.2
theorem osx_run {P : Program} {ops : Array Oper} {inn : Option (List BN)} {fl : AF} {o : Oper} {st : St} {v : PV} {B' : Bx} (hg : gd ops o st = some true) (h : OS1 P fl o st v B') (hl : ∀ l, inn = some l → Loc1 P l fl o st v B') : OSx P ops fl inn o st (st.after fl o v B') := by
  cases inn with
  | none => exact .all rfl (.run v B' hg h)
  | some l =>
    obtain ⟨h1, h2⟩ := hl l rfl
    refine .loc l rfl (fun B2 hB => ?_) fun b hb => ?_
    · obtain ⟨B2', h3, h4⟩ := h1 B2 hB
      have h5 : OS P ops fl o (st.at B2) ((st.at B2).after fl o v B2') := .run v B2' hg h3
      have e : (st.at B2).after fl o v B2' = ⟨(st.after fl o v B').tm, joinB l (st.after fl o v B').bx B2⟩ := by
        unfold St.after St.upd St.at
        simp only [St.mk.injEq, true_and]
        by_cases hbe : fl.be = true
        · simp only [hbe, if_true]; exact h4 hbe
        · simp only [hbe, Bool.false_eq_true, if_false]
          funext b
          unfold joinB
          by_cases hbl : l.contains b = true
          · rw [if_pos hbl]; exact hB b hbl
          · rw [if_neg hbl]
      rw [e] at h5; exact h5
    · show (if fl.be = true then B' else st.bx) b = st.bx b
      by_cases hbe : fl.be = true
      · rw [if_pos hbe]; exact h2 hbe b hb
      · rw [if_neg hbe]
theorem osx_skip {P : Program} {ops : Array Oper} {inn : Option (List BN)} {fl : AF} {o : Oper} {st : St} (hg : gd ops o st = some false) : OSx P ops fl inn o st (st.upd [] o.dst .und st.bx) := by
  cases inn with
  | none => exact .all rfl (.skip hg)
  | some l =>
    refine .loc l rfl (fun B2 hB => ?_) fun b hb => rfl
    have h5 : OS P ops fl o (st.at B2) ((st.at B2).upd [] o.dst .und (st.at B2).bx) := .skip hg
    have e : (st.at B2).upd [] o.dst .und (st.at B2).bx = ⟨(st.upd [] o.dst .und st.bx).tm, joinB l (st.upd [] o.dst .und st.bx).bx B2⟩ := by
      unfold St.upd St.at
      simp only [St.mk.injEq, true_and]
      funext b
      unfold joinB
      by_cases hbl : l.contains b = true
      · rw [if_pos hbl]; exact hB b hbl
      · rw [if_neg hbl]
    rw [e] at h5; exact h5
def bgd (x : Option PV) (want : Bool) (A B : Prop) : Prop :=
  match x with
  | some (.d (.bool b)) => (b = want → A) ∧ (b = !want → B)
  | some .und => B
  | _ => False
def bops (P : Program) (L : List Oper) (fls : Nat → AF) (inns : Nat → Option (List BN)) : List Oper → Nat → (St → Prop) → St → Prop
  | [], _, Q, st => Q st
  | o :: l, i, Q, st => match o.guard with
    | none => bopx P (inns i) (fls i) o (bops P L fls inns l (i + 1) Q) st
    | some g => bgd (((L[g.1]?).bind (·.dst)).map st.tm) g.2 (bopx P (inns i) (fls i) o (bops P L fls inns l (i + 1) Q) st) (bops P L fls inns l (i + 1) Q (st.upd [] o.dst .und st.bx))
theorem bops_runs {P : Program} {L : List Oper} {fls : Nat → AF} {inns : Nat → Option (List BN)} {Q : St → Prop} : ∀ (l : List Oper) (i : Nat) (st : St), (∀ (k : Nat), l[k]? = L[i + k]?) → bops P L fls inns l i Q st → ∃ sF, Runs P L.toArray fls inns (List.range' i l.length) st sF ∧ Q sF
  | [], i, st, _, h => ⟨st, .nil st, h⟩
  | o :: l, i, st, hl, h => by
    have ho : L.toArray[i]? = some o := by have := hl 0; simp at this; simpa using this.symm
    have hl' : ∀ (k : Nat), l[k]? = L[i + 1 + k]? := by
      intro k
      have := hl (k + 1)
      rw [List.getElem?_cons_succ] at this
      rw [this]; congr 1; omega
    simp only [List.length_cons, List.range'_succ]
    have goRun : gd L.toArray o st = some true → bopx P (inns i) (fls i) o (bops P L fls inns l (i + 1) Q) st → ∃ sF, Runs P L.toArray fls inns (i :: List.range' (i + 1) l.length) st sF ∧ Q sF := by
      intro hg hb
      obtain ⟨v, B', hs, hl2, hk⟩ := bopx_os1 hb
      obtain ⟨sF, hr, hq⟩ := bops_runs l (i + 1) _ hl' hk
      exact ⟨sF, .cons i _ o _ _ _ ho (osx_run hg hs hl2) hr, hq⟩
    have goSkip : gd L.toArray o st = some false → bops P L fls inns l (i + 1) Q (st.upd [] o.dst .und st.bx) → ∃ sF, Runs P L.toArray fls inns (i :: List.range' (i + 1) l.length) st sF ∧ Q sF := by
      intro hg hb
      obtain ⟨sF, hr, hq⟩ := bops_runs l (i + 1) _ hl' hb
      exact ⟨sF, .cons i _ o _ _ _ ho (osx_skip hg) hr, hq⟩
    unfold bops at h
    split at h
    · rename_i hn
      exact goRun (by simp [gd, hn]) h
    · rename_i g hn
      obtain ⟨j, want⟩ := g
      have hget : (L.toArray[j]?).bind (·.dst) = (L[j]?).bind (·.dst) := by simp
      simp only at h
      cases hd : (L[j]?).bind (·.dst) with
      | none => rw [hd] at h; simp [bgd] at h
      | some t =>
        rw [hd] at h
        simp only [Option.map_some] at h
        unfold bgd at h
        split at h
        · rename_i b hb
          simp only [Option.some.injEq] at hb
          by_cases hbw : b = want
          · exact goRun (by simp [gd, hn, hd, hb, hbw]) (h.1 hbw)
          · exact goSkip (by simp [gd, hn, hd, hb, hbw]) (h.2 (by cases b <;> cases want <;> simp_all))
        · rename_i hb
          simp only [Option.some.injEq] at hb
          exact goSkip (by simp [gd, hn, hd, hb]) h
        · exact h.elim

inductive Ex where
  | normal
  | exit (id : Nat)
  | ret
def seqK (K : St → Prop) (Q : Ex → St → Prop) : Ex → St → Prop
  | .normal => K
  | .exit i => Q (.exit i)
  | .ret => Q .ret
def blkK (id : Nat) (Q : Ex → St → Prop) : Ex → St → Prop
  | .normal => Q .normal
  | .exit i => if i = id then Q .normal else Q (.exit i)
  | .ret => Q .ret
def bcond (x : PV) (A B : Prop) : Prop :=
  match x with
  | .d (.bool b) => (b = true → A) ∧ (b = false → B)
  | _ => False
/-- What is true of one state is true of the other, which says less. -/
def Weak (P : Program) (s s' : St) : Prop := ∀ F G a w, Rel P F G s a w → ∃ G', Rel P F G' s' a w
/-- Behind a loop one may forget. -/
def wk (P : Program) (K : St → Prop) (s : St) : Prop := ∃ s', Weak P s s' ∧ K s'
def loopK (P : Program) (I : Nat → St → Prop) (n : Nat) (Q : Ex → St → Prop) : Ex → St → Prop
  | .normal => fun s => ∃ m s', Weak P s s' ∧ m < n ∧ I m s'
  | .exit i => wk P (Q (.exit i))
  | .ret => Q .ret
def bloop (P : Program) (body : (Ex → St → Prop) → St → Prop) (Q : Ex → St → Prop) (st : St) : Prop :=
  ∃ I : Nat → St → Prop, (∃ n s, Weak P st s ∧ I n s) ∧ ∀ n s, I n s → body (loopK P I n Q) s
def breg (P : Program) (hs : List Nat) (ops : Array Oper) (draw : Bool) (Q : St → Prop) (st : St) : Prop := bops P ops.toList (flagsOf P ops.toList hs draw) (innsOf P draw ops.toList) ops.toList 0 Q st
/-- Ahead of a region that is marked one may forget. -/
def mreg (P : Program) (hs : List Nat) (ops : Array Oper) (draw : Bool) (Q : St → Prop) (st : St) : Prop := if hs.contains 1000000 = true then wk P (breg P hs ops draw Q) st else breg P hs ops draw Q st
/-- H: for a region, which of its reads take over what is a slot's own. -/
def bwp (P : Program) (H : Nat → List Nat) : Code → (Ex → St → Prop) → St → Prop
  | .skip, Q => Q .normal
  | .region id ops draw, Q => mreg P (H id) ops draw (Q .normal)
  | .seq a b, Q => bwp P H a (seqK (bwp P H b Q) Q)
  | .cond c t e, Q => fun st => bcond (st.ev c) (bwp P H t Q st) (bwp P H e Q st)
  | .block id b, Q => bwp P H b (blkK id Q)
  | .loop b, Q => bloop P (bwp P H b) Q
  | .exit id, Q => Q (.exit id)
  | .ret, Q => Q .ret
  | _, _ => fun _ => False

/-- Each slot that is written is there, and each order that is drawn comes to the same. -/
def cOk (P : Program) (H : Nat → List Nat) (nt : Nat) : Code → Bool
  | .region id ops draw => (ops.all fun o => match o.dst with | some d => decide (d < nt) | none => true) && (!draw || regOk ops (flagsOf P ops.toList (H id) true) (innsOf P true ops.toList))
  | .seq a b => cOk P H nt a && cOk P H nt b
  | .cond _ a b => cOk P H nt a && cOk P H nt b
  | .block _ b => cOk P H nt b
  | .loop b => cOk P H nt b
  | _ => true

/-- The logic's post-condition, as the machine's. -/
def lift (P : Program) (F : Fr) (Q : Ex → St → Prop) : Exit → Act → World → Prop
  | .normal, a, w => ∃ G s, Rel P F G s a w ∧ Q .normal s
  | .exit id, a, w => ∃ G s, Rel P F G s a w ∧ Q (.exit id) s
  | .ret, a, w => ∃ G s, Rel P F G s a w ∧ Q .ret s
  | _, _, _ => False

theorem bwp_sound {P : Program} {H : Nat → List Nat} {F : Fr} (hm : P.follows .mixedOrders = true) : ∀ (c : Code) (Q : Ex → St → Prop) (G : Gh) (st : St) (a : Act) (w : World), cOk P H F.nt c = true → bwp P H c Q st → Rel P F G st a w → c.wp P (lift P F Q) a w
  | .skip, Q, G, st, a, w, hd, h, hr => wp_skip ⟨G, st, hr, h⟩
  | .exit id, Q, G, st, a, w, hd, h, hr => wp_exit ⟨G, st, hr, h⟩
  | .ret, Q, G, st, a, w, hd, h, hr => wp_ret ⟨G, st, hr, h⟩
  | .region id ops draw, Q, G, st, a, w, hd, h, hr => by
    have hmr : mreg P (H id) ops draw (Q .normal) st := h
    have hmk : ∃ G st, breg P (H id) ops draw (Q .normal) st ∧ Rel P F G st a w := by
      unfold mreg at hmr
      split at hmr
      · obtain ⟨s', hw, hb⟩ := hmr
        obtain ⟨G', hr'⟩ := hw F G a w hr
        exact ⟨G', s', hb, hr'⟩
      · exact ⟨G, st, hmr, hr⟩
    clear h hmr hr
    obtain ⟨G, st, h, hr⟩ := hmk
    have hb : bops P ops.toList (flagsOf P ops.toList (H id) draw) (innsOf P draw ops.toList) ops.toList 0 (Q .normal) st := h
    simp only [cOk, Bool.and_eq_true] at hd
    have hdst : ∀ (i : Nat) o, ops[i]? = some o → ∀ d', o.dst = some d' → d' < F.nt := by
      intro i o ho d' hd'
      have hd1 := hd.1
      simp only [Array.all_eq_true_iff_forall_mem] at hd1
      have := hd1 o (Array.mem_of_getElem? ho)
      rw [hd'] at this
      simpa using this
    obtain ⟨sF, hruns, hq⟩ := bops_runs (L := ops.toList) ops.toList 0 st (fun k => by simp) hb
    rw [Array.toArray_toList] at hruns
    have hrange : List.range' 0 ops.toList.length = List.range ops.size := by rw [List.range_eq_range']; simp
    rw [hrange] at hruns
    cases draw with
    | false => exact wp_region (runs_sound hdst hruns hr (fun a' w' ⟨G', h'⟩ => ⟨G', sF, h', hq⟩))
    | true =>
      refine wp_region_any hm ?_
      have hrem : remaining ops (Array.replicate ops.size false) = List.range ops.size := by
        unfold remaining
        apply List.filter_eq_self.2
        intro i hi
        have := List.mem_range.1 hi
        simp [this]
      exact any_sound hdst (by simpa using hd.2) (fun a' w' ⟨G', h'⟩ => ⟨G', sF, h', hq⟩) ops.size _ st G a _ (by simp) (fun i o h => by simp [Array.getElem?_replicate] at h) hr.drew (by rw [hrem]; exact hruns) (by rw [hrem]; simp)
  | .seq x y, Q, G, st, a, w, hd, h, hr => by
    simp only [cOk, Bool.and_eq_true] at hd
    refine wp_seq ?_
    refine wp_mono (bwp_sound hm x _ G st a w hd.1 h hr) fun e a' w' he => ?_
    cases e with
    | normal => obtain ⟨G', s', h', hq⟩ := he; exact bwp_sound hm y Q G' s' a' w' hd.2 hq h'
    | exit id => exact he
    | ret => exact he
    | goto l => exact he
    | panic c => exact he
    | outgrown => exact he
  | .cond c t e, Q, G, st, a, w, hd, h, hr => by
    simp only [cOk, Bool.and_eq_true] at hd
    simp only [bwp, bcond] at h
    split at h
    · rename_i b hb
      have hc := hr.ev c
      rw [hb] at hc
      obtain ⟨hc, -⟩ := hc
      have hcv : a.eval c = .bool b := by generalize a.eval c = u at hc; cases hc; rfl
      refine wp_cond_split hcv (fun hbt => ?_) (fun hbf => ?_)
      · exact bwp_sound hm t Q G st a w hd.1 (h.1 hbt) hr
      · exact bwp_sound hm e Q G st a w hd.2 (h.2 hbf) hr
    · exact h.elim
  | .block id b, Q, G, st, a, w, hd, h, hr => by
    simp only [cOk] at hd
    refine wp_block ?_
    refine wp_mono (bwp_sound hm b _ G st a w hd h hr) fun e a' w' he => ?_
    cases e with
    | normal => exact he
    | exit i =>
      obtain ⟨G', s', h', hq⟩ := he
      simp only [blkK] at hq
      simp only [Exit.inBlock]
      split
      · rename_i hi; rw [if_pos hi] at hq; exact ⟨G', s', h', hq⟩
      · rename_i hi; rw [if_neg hi] at hq; exact ⟨G', s', h', hq⟩
    | ret => exact he
    | goto l => exact he
    | panic c => exact he
    | outgrown => exact he
  | .loop b, Q, G, st, a, w, hd, h, hr => by
    simp only [cOk] at hd
    obtain ⟨I, ⟨n0, s0, hw0, hI0⟩, hround⟩ := h
    obtain ⟨G0, hr0⟩ := hw0 F G a w hr
    let R : Nat → Act → World → Prop := fun n a w => ∃ G s, Rel P F G s a w ∧ I n s
    have hμ : ∀ a w, (∃ n, R n a w) → ∃ μ, R μ a w ∧ ∀ m, R m a w → μ ≤ m := by
      intro a w ⟨n, hn⟩
      induction n using Nat.strongRecOn with
      | _ n ih =>
        by_cases hex : ∃ m, m < n ∧ R m a w
        · obtain ⟨m, hmn, hRm⟩ := hex
          exact ih m hmn hRm
        · refine ⟨n, hn, fun m hRm => ?_⟩
          apply Classical.byContradiction; intro hc
          exact hex ⟨m, by omega, hRm⟩
    let μ : Act → World → Nat := fun a w => open Classical in if hx : ∃ n, R n a w then Classical.choose (hμ a w hx) else 0
    have hμs : ∀ a w (hx : ∃ n, R n a w), R (μ a w) a w ∧ ∀ m, R m a w → μ a w ≤ m := by
      intro a w hx
      have := Classical.choose_spec (hμ a w hx)
      simp only [μ, dif_pos hx]
      exact this
    refine wp_loop (fun a w => ∃ n, R n a w) μ ⟨n0, G0, s0, hr0, hI0⟩ fun a1 w1 hx => ?_
    obtain ⟨⟨G1, s1, hr1, hI1⟩, -⟩ := hμs a1 w1 hx
    refine wp_mono (bwp_sound hm b _ G1 s1 a1 w1 hd (hround _ s1 hI1) hr1) fun e a' w' he => ?_
    cases e with
    | normal =>
      obtain ⟨G', s', h', m, s2, hw, hlt, hI2⟩ := he
      obtain ⟨G2, hr2⟩ := hw F G' a' w' h'
      have hRm : R m a' w' := ⟨G2, s2, hr2, hI2⟩
      have hle := (hμs a' w' ⟨m, hRm⟩).2 m hRm
      exact ⟨⟨m, hRm⟩, by omega⟩
    | exit id =>
      obtain ⟨G', s', h', s2, hw, hq⟩ := he
      obtain ⟨G2, hr2⟩ := hw F G' a' w' h'
      exact ⟨G2, s2, hr2, hq⟩
    | ret => exact he
    | goto l => exact he
    | panic c => exact he
    | outgrown => exact he
  | .rangeFunc _ _ _ _, Q, G, st, a, w, hd, h, hr => h.elim
  | .scope _, Q, G, st, a, w, hd, h, hr => h.elim
  | .label _, Q, G, st, a, w, hd, h, hr => h.elim
  | .goto _, Q, G, st, a, w, hd, h, hr => h.elim
  | .refuse _, Q, G, st, a, w, hd, h, hr => h.elim

end Go.Bee

/-
A function's entry and its end; what may be forgotten. No condition.
-/
namespace Go.Bee
set_option linter.unusedVariables false

/-- Where a result stands, and what it is. -/
def resOf (st : St) : ResultVar → Option (Loc × PV)
  | .tmp t => some (.t t, st.tm t)
  | .cell a _ => match st.tm a with
    | .ptr (.t n) 0 => (st.bx (.t n)).map fun cells => (.b (.t n), .agg cells)
    | _ => none
def resAll (st : St) : List ResultVar → Option (List (Loc × PV))
  | [] => some []
  | r :: rs => (resOf st r).bind fun x => (resAll st rs).map fun xs => x :: xs
def resPV : List PV → PV
  | [x] => x
  | xs => .tup xs
def cellsFit (P : Program) (st : St) : List ResultVar → Bool
  | [] => true
  | .tmp _ :: rs => cellsFit P st rs
  | .cell a t :: rs => (match st.tm a with
    | .ptr (.t n) 0 => (match st.bx (.t n), tyi P t with | some cells, some i => i.agg && cells.length == i.sz | _, _ => false)
    | _ => false) && cellsFit P st rs
/-- The end of a function: r is given back, and bo is in the variables that were handed in. -/
def retK (P : Program) (rs : List ResultVar) (r : PV) (bo : List (List PV)) (st : St) : Prop :=
  ∃ xs, resAll st rs = some xs ∧ cellsFit P st rs = true ∧ (xs.map (·.1)).Nodup ∧ (xs.map (·.2)).all PV.gives2 = true ∧ resPV (xs.map (·.2)) = r ∧ (∀ k, st.bx (.a k) = bo[k]?) ∧ ∀ cells : List PV, cells ∈ bo → cells.all PV.gives1 = true
def endK (P : Program) (rs : List ResultVar) (r : PV) (bo : List (List PV)) : Ex → St → Prop
  | .normal => retK P rs r bo
  | .ret => retK P rs r bo
  | .exit _ => fun _ => False
def St.init (args : List PV) (bi : List (List PV)) : St := ⟨fun t => args.getD t .und, bxOf bi⟩

theorem resAll_get {st : St} : ∀ {rs : List ResultVar} {xs : List (Loc × PV)}, resAll st rs = some xs → xs.length = rs.length ∧ ∀ (i : Nat) r x, rs[i]? = some r → xs[i]? = some x → resOf st r = some x
  | [], xs, h => by simp [resAll] at h; subst h; simp
  | r :: rs, xs, h => by
    simp only [resAll, Option.bind_eq_some_iff, Option.map_eq_some_iff] at h
    obtain ⟨y, hy, zs, hz, rfl⟩ := h
    obtain ⟨h1, h2⟩ := resAll_get hz
    refine ⟨by simp [h1], fun i a b ha hb => ?_⟩
    cases i with
    | zero => simp at ha hb; subst ha; subst hb; exact hy
    | succ i => simp at ha hb; exact h2 i a b ha hb
theorem cellsFit_get {P : Program} {st : St} : ∀ {rs : List ResultVar}, cellsFit P st rs = true → ∀ (i : Nat) a t, rs[i]? = some (.cell a t) → ∃ n cells ti, st.tm a = .ptr (.t n) 0 ∧ st.bx (.t n) = some cells ∧ tyi P t = some ti ∧ ti.agg = true ∧ cells.length = ti.sz
  | [], h, i, a, t, hi => by simp at hi
  | .tmp u :: rs, h, i, a, t, hi => by
    cases i with
    | zero => simp at hi
    | succ i => simp at hi; exact cellsFit_get (rs := rs) h i a t hi
  | .cell b u :: rs, h, i, a, t, hi => by
    simp only [cellsFit, Bool.and_eq_true] at h
    cases i with
    | zero =>
      simp at hi
      obtain ⟨rfl, rfl⟩ := hi
      have h1 := h.1
      split at h1
      · rename_i n hn
        split at h1
        · rename_i cells ti hc hti
          simp only [Bool.and_eq_true, beq_iff_eq] at h1
          exact ⟨n, cells, ti, hn, hc, hti, h1.1, h1.2⟩
        · cases h1
      · cases h1
    | succ i => simp at hi; exact cellsFit_get (rs := rs) h.2 i a t hi

def resSem (tmps : Array Value) : ResultVar → Sem Value
  | .tmp t => pure (tmps.getD t undef)
  | .cell a t => do loadVar t (← asAddr (tmps.getD a undef))
theorem resSem_cell {P : Program} {w : World} {tmps : Array Value} {a : Nat} {t : TypeId} {g : Addr} {v : Value} (hp : tmps.getD a undef = .pointer (some g)) (h : (loadVar t g).run P w = .ok v w) : (resSem tmps (.cell a t)).run P w = .ok v w := by
  simp only [resSem, Sem.run_bind, hp, asAddr, Sem.run_pure, Result.andThen_ok, h]
theorem results_eq (fn : Func) (tmps : Array Value) : results fn tmps = (do let vs ← fn.results.mapM (resSem tmps); pure (if h : vs.size = 1 then vs[0] else .tuple vs)) := by
  unfold results
  have : (fun x : ResultVar => (match x with | .tmp t => pure (tmps.getD t undef) | .cell a t => do loadVar t (← asAddr (tmps.getD a undef)) : Sem Value)) = resSem tmps := by
    funext x; cases x <;> rfl
  rw [← this]
  rfl
theorem ret_sound {P : Program} {F : Fr} {G : Gh} {st : St} {a : Act} {w : World} (h : Rel P F G st a w) {fn : Func} {r : PV} {bo : List (List PV)} (hr : retK P fn.results.toList r bo st) :
    ∃ v G', (results fn a.tmps).run P w = .ok v w ∧ RepT P G' w .res r v ∧ Hp P G' w (bxOf bo) ∧ G'.im = G.im ∧ (∀ k, G'.β (.a k) = G.β (.a k)) ∧ (∀ g p, G'.own g = some p → ∃ q, G.own g = some q) := by
  obtain ⟨xs, hxs, hfit, hnd, hgv, rfl, hbo, hbg⟩ := hr
  obtain ⟨hl, hget⟩ := resAll_get hxs
  -- the values
  have hval : ∀ rs : List ResultVar, ∀ xs : List (Loc × PV), resAll st rs = some xs → cellsFit P st rs = true → ∃ vs : List Value, (rs.mapM (resSem a.tmps)).run P w = .ok vs w ∧ vs.length = xs.length ∧
      ∀ (i : Nat) x v, xs[i]? = some x → vs[i]? = some v → (∃ t, x.1 = .t t ∧ RepT P G w (.t t) x.2 v) ∨ (∃ n cells, x.1 = .b (.t n) ∧ x.2 = .agg cells ∧ ∃ cs : Array Value, v = .agg cs ∧ cs.size = cells.length ∧ (∀ u ∈ cs, u.oneCell' = true) ∧ ∀ (j : Nat) y u, cells[j]? = some y → cs[j]? = some u → RepC P G w (.b (.t n), 0, j) y u) := by
    intro rs
    induction rs with
    | nil => intro xs hx _; simp [resAll] at hx; subst hx; exact ⟨[], by simp, rfl, by simp⟩
    | cons rv rs ih =>
      intro xs hx hf
      simp only [resAll, Option.bind_eq_some_iff, Option.map_eq_some_iff] at hx
      obtain ⟨y, hy, zs, hz, rfl⟩ := hx
      cases rv with
      | tmp t =>
        obtain ⟨vs, h1, h2, h3⟩ := ih zs hz hf
        simp only [resOf, Option.some.injEq] at hy
        subst hy
        refine ⟨a.tmps.getD t undef :: vs, by simp only [List.mapM_cons, Sem.run_bind, resSem, Sem.run_pure, Result.andThen_ok, h1], by simp [h2], fun i x v hi hv => ?_⟩
        cases i with
        | zero => simp at hi hv; subst hi; subst hv; left; refine ⟨t, rfl, ?_⟩; have := h.tm t; simpa using this
        | succ i => simp at hi hv; exact h3 i x v hi hv
      | cell a' t =>
        have hf' := hf
        simp only [cellsFit, Bool.and_eq_true] at hf'
        obtain ⟨vs, h1, h2, h3⟩ := ih zs hz hf'.2
        obtain ⟨n, cells, ti, e1, e2, e3, e4, e5⟩ := cellsFit_get hf 0 a' t rfl
        simp only [resOf, e1, e2, Option.map_some, Option.some.injEq] at hy
        subst hy
        have hp := h.tm a'
        rw [e1] at hp
        obtain ⟨hp, hlv⟩ := hp
        have hbox := h.hp.bx _ cells e2
        obtain ⟨rv, hrun, hrep⟩ := run_loadBox hbox e3 (o := 0) (r := .agg cells) (by simp [bxRead, e4, ← e5])
        obtain ⟨-, cs, rfl, hsz, hone, hcr⟩ := hrep
        have hrun' : (loadVar t ⟨G.β (.t n), 0, none⟩).run P w = .ok (.agg cs) w := by simpa [Instr.loadAt, Instr.sureAddr] using hrun
        refine ⟨.agg cs :: vs, by simp only [List.mapM_cons, Sem.run_bind, resSem_cell hp hrun', Sem.run_pure, Result.andThen_ok, h1], by simp [h2], fun i x v hi hv => ?_⟩
        cases i with
        | zero =>
          simp at hi hv; subst hi; subst hv
          right
          refine ⟨n, cells, rfl, rfl, cs, rfl, hsz, hone, fun j y u hy hu => ?_⟩
          have := hcr j y u hy hu
          rwa [Nat.zero_add] at this
        | succ i => simp at hi hv; exact h3 i x v hi hv
  obtain ⟨vs, hrun, hvl, hrep⟩ := hval fn.results.toList xs hxs hfit
  -- whose own becomes the results'
  let f : Pos → Pos := fun p => open Classical in if hx : ∃ i : Nat, p.2.1 = 0 ∧ ∃ x, xs[i]? = some x ∧ x.1 = p.1 then (.res, Classical.choose hx, p.2.2) else p
  have hf : ∀ (i : Nat) x j, xs[i]? = some x → f (x.1, 0, j) = (.res, i, j) := by
    intro i x j hx
    have hex : ∃ i : Nat, (x.1, 0, j).2.1 = 0 ∧ ∃ y, xs[i]? = some y ∧ y.1 = ((x.1, 0, j) : Pos).1 := ⟨i, rfl, x, hx, rfl⟩
    have hspec := Classical.choose_spec hex
    obtain ⟨-, y, hy, hyx⟩ := hspec
    have : Classical.choose hex = i := by
      apply nodup_inj hnd (x := x.1)
      · rw [List.getElem?_map, hy]; simp at hyx; simp [hyx]
      · rw [List.getElem?_map, hx]; rfl
    have h1 : f (x.1, 0, j) = (.res, Classical.choose hex, j) := dif_pos hex
    rw [h1, this]
  have hfb : ∀ k j, f (.b (.a k), 0, j) = (.b (.a k), 0, j) := by
    intro k j
    have : ¬ ∃ i : Nat, ((.b (.a k), 0, j) : Pos).2.1 = 0 ∧ ∃ x, xs[i]? = some x ∧ x.1 = ((.b (.a k), 0, j) : Pos).1 := by
      rintro ⟨i, -, x, hx, he⟩
      have hv : i < vs.length := by rw [hvl]; exact (List.getElem?_eq_some_iff.1 hx).1
      rcases hrep i x vs[i] hx (List.getElem?_eq_getElem hv) with ⟨t, h1, _⟩ | ⟨n, cells, h1, _⟩
      · rw [h1] at he; simp at he
      · rw [h1] at he; simp at he
    simp only [f, dif_neg this]
  let G' : Gh := { im := G.im, β := G.β, live := (fun b => match b with | .a k => k < bo.length | .t _ => False), own := (fun g => (G.own g).map f), fz := G.fz }
  have hps : PStep G w G' w (fun p q => q = f p) := ⟨Keep.refl _ _, fun g p q hg e => ⟨by simp [G', hg, e], rfl, fun _ h => h⟩⟩
  have hlive : ∀ k, k < bo.length → G.live (.a k) := by
    intro k hk
    refine (h.hp.live _).2 ?_
    rw [hbo k, List.getElem?_eq_getElem hk]; rfl
  have hparts : ∀ (i : Nat) x v, xs[i]? = some x → vs[i]? = some v → RepV P G' w .res i x.2 v := by
    intro i x v hx hv
    have hgx : x.2.gives2 = true := by
      have := List.all_eq_true.1 hgv x.2 (List.mem_map.2 ⟨x, List.mem_of_getElem? hx, rfl⟩)
      exact this
    rcases hrep i x v hx hv with ⟨t, h1, h2⟩ | ⟨n, cells, h1, h2, cs, rfl, hsz, hone, hcr⟩
    · have h3 : RepV P G w (.t t) 0 x.2 v := h2.ofV (by intro l e; rw [e] at hgx; simp [PV.gives2, PV.gives1, PV.pass1] at hgx)
      exact h3.pstepG hps (fun j => by rw [← h1]; exact (hf i x j hx).symm) hgx
    · rw [h2] at hgx ⊢
      refine ⟨cs, rfl, hsz, hone, fun j y u hy hu => ?_⟩
      have hgy := List.all_eq_true.1 hgx y (List.mem_of_getElem? hy)
      have g1 : y.pass1 = true ∧ ¬ ∃ K, y = .fn K ∨ y = .efn K := by
        cases y <;> simp [PV.gives1, PV.pass1] at hgy ⊢
      exact (hcr j y u hy hu).pstep hps (by rw [← h1]; exact (hf i x j hx).symm) g1.1 (fun e => absurd e g1.2)
  have hres : ∃ v, (results fn a.tmps).run P w = .ok v w ∧ RepT P G' w .res (resPV (xs.map (·.2))) v := by
    have hrunA : (fn.results.mapM (resSem a.tmps)).run P w = .ok vs.toArray w := by
      rw [Array.mapM_eq_mapM_toList]
      simp only [Sem.run_map, hrun]
      rfl
    refine ⟨if hv : vs.toArray.size = 1 then vs.toArray[0] else .tuple vs.toArray, ?_, ?_⟩
    · rw [results_eq]
      simp only [Sem.run_bind, hrunA, Result.andThen_ok, Sem.run_pure]
    · by_cases h1 : vs.toArray.size = 1
      · rw [dif_pos h1]
        have hv1 : vs.length = 1 := by simpa using h1
        have hx1 : xs.length = 1 := by omega
        match xs, vs, hx1, hv1, hparts with
        | [x], [v], _, _, hparts => exact (hparts 0 x v rfl rfl).toT
      · rw [dif_neg h1]
        have hne : xs.length ≠ 1 := by intro e; apply h1; simp; omega
        have : resPV (xs.map (·.2)) = .tup (xs.map (·.2)) := by
          match xs, hne with
          | [], _ => rfl
          | [x], hne => simp at hne
          | x :: y :: zs, _ => rfl
        rw [this]
        refine ⟨vs.toArray, rfl, by simp [hvl], fun i y u hy hu => ?_⟩
        rw [List.getElem?_map] at hy
        obtain ⟨x, hx, rfl⟩ := Option.map_eq_some_iff.1 hy
        exact hparts i x u hx (by simpa using hu)
  obtain ⟨v, hv1, hv2⟩ := hres
  refine ⟨v, G', hv1, hv2, ⟨fun b cells hb => ?_, fun b => ?_, fun b b' hl hl' he => ?_, h.hp.imlt, fun g p hg => ?_, fun b hl o => ?_, fun b hl => ?_⟩, rfl, fun _ => rfl, fun g p hg => ?_⟩
  · cases b with
    | t n => simp [bxOf] at hb
    | a k =>
      simp only [bxOf] at hb
      have hst : st.bx (.a k) = some cells := by rw [hbo k]; exact hb
      obtain ⟨cs, e, h1, h2, h3, h4⟩ := h.hp.bx _ cells hst
      refine ⟨cs, e, h1, h2, h3, fun j y u hy hu => ?_⟩
      have hgy := List.all_eq_true.1 (hbg cells (List.mem_of_getElem? hb)) y (List.mem_of_getElem? hy)
      have g1 : y.pass1 = true ∧ ¬ ∃ K, y = .fn K ∨ y = .efn K := by
        cases y <;> simp [PV.gives1, PV.pass1] at hgy ⊢
      exact (h4 j y u hy hu).pstep hps (hfb k j).symm g1.1 (fun e => absurd e g1.2)
  · cases b with
    | t n => simp [bxOf, G']
    | a k => simp [bxOf, G']
  · cases b with
    | t n => exact hl.elim
    | a k =>
      cases b' with
      | t n => exact hl'.elim
      | a k' => exact h.hp.inj _ _ (hlive k hl) (hlive k' hl') he
  · simp only [G', Option.map_eq_some_iff] at hg
    obtain ⟨q, hq, _⟩ := hg
    exact h.hp.ownlt g q hq
  · cases b with
    | t n => exact hl.elim
    | a k => exact h.hp.boxim _ (hlive k hl) o
  · cases b with
    | t n => exact hl.elim
    | a k => simp [G', h.hp.boxown _ (hlive k hl)]
  · simp only [G', Option.map_eq_some_iff] at hg
    obtain ⟨q, hq, _⟩ := hg
    exact ⟨q, hq⟩

theorem BRet.of_bodyG {P : Program} (H : Nat → List Nat) (hm : P.follows .mixedOrders = true) {f : Nat} {fn : Func} {c : Code} (hf : P.funcs[f]? = some fn) (hb : fn.body = some c) (hn : (fn.name != "runtime.NumGoroutine") = true) (hd : cOk P H fn.ntmps c = true) {rs : List ResultVar} (hrs : fn.results = rs.toArray)
    {bi bo : List (List PV)} {args : List PV} {r : PV} (hl : bo.length = bi.length) (ha : args.length ≤ fn.ntmps) {Q : Ex → St → Prop} (hQn : ∀ s, Q .normal s → wk P (retK P rs r bo) s) (hQr : ∀ s, Q .ret s → wk P (retK P rs r bo) s) (hQe : ∀ i s, Q (.exit i) s → False) (h : bwp P H c Q (St.init args bi)) : BRet P f bi args r bo := by
  have hrs' : fn.results.toList = rs := by rw [hrs]
  rw [← hrs'] at hQn hQr
  refine ⟨by simp [isFn, hf, hb, hn], hl, fun G w vs Wr hvs hargs hp hown hbox hfz hfm htb => ?_⟩
  let F : Fr := ⟨fn.ntmps, G.im, w, Wr, fun k => G.β (.a k), FreeB G w⟩
  have hsz : (vs ++ Array.replicate (fn.ntmps - vs.size) undef).size = fn.ntmps := by simp; omega
  have hrel : Rel P F G (St.init args bi) { tmps := vs ++ Array.replicate (fn.ntmps - vs.size) undef, defers := [] } w := by
    refine ⟨fun t => ?_, hp, ⟨Ext.refl _ _ _, fun g p hg => .inr (hown g p hg), fun b hl => .inr (hbox b hl), fun k => rfl, hfz, hfm⟩, hsz, rfl, fun g hg => ⟨hg, .refl w g⟩, htb⟩
    by_cases ht : t < args.length
    · have h1 : args[t]? = some args[t] := List.getElem?_eq_getElem ht
      have h2 : vs[t]? = some vs[t] := Array.getElem?_eq_getElem (by omega)
      have h3 : (vs ++ Array.replicate (fn.ntmps - vs.size) undef).getD t undef = vs[t] := by
        rw [Array.getD_eq_getD_getElem?, Array.getElem?_append_left (by omega), h2]; rfl
      have h4 : (St.init args bi).tm t = args[t] := by simp [St.init, h1]
      show RepT P G w (.t t) ((St.init args bi).tm t) ((vs ++ Array.replicate (fn.ntmps - vs.size) undef).getD t undef)
      rw [h3, h4]
      exact hargs t _ _ h1 h2
    · have h4 : (St.init args bi).tm t = .und := by simp [St.init, List.getElem?_eq_none (Nat.le_of_not_lt ht)]
      show RepT P G w (.t t) ((St.init args bi).tm t) ((vs ++ Array.replicate (fn.ntmps - vs.size) undef).getD t undef)
      rw [h4]
      show (vs ++ Array.replicate (fn.ntmps - vs.size) undef).getD t undef = undef
      rw [Array.getD_eq_getD_getElem?, Array.getElem?_append_right (by omega)]
      by_cases h5 : t - vs.size < fn.ntmps - vs.size
      · simp [h5]
      · simp [h5]
  refine calls_of_wp hf hb ?_
  refine wp_mono (bwp_sound (F := F) hm c _ G _ _ w hd h hrel) fun e a' w' he => ?_
  have hend : ∀ G1 s, Rel P F G1 s a' w' → wk P (retK P fn.results.toList r bo) s → a'.defers = [] ∧ ∃ v, (results fn a'.tmps).run P w' = .ok v w' ∧
      ∃ v' G', Ending.returned v = .returned v' ∧ RepT P G' w' .res r v' ∧ Hp P G' w' (bxOf bo) ∧ Ext G.im w G'.im w' Wr ∧ (∀ k, G'.β (.a k) = G.β (.a k)) ∧ (∀ g p, G'.own g = some p → w.heap.size ≤ g ∨ Wr g) ∧
      ∀ g, FreeB G w g → KindSame w w' g ∧ (∃ cs e, w'.heap[g]? = some (.cells cs e (0, 0))) ∧ G'.own g = none ∧ ∀ o, ¬ G'.im g o := by
    rintro G0 s0 hR0 ⟨s, hw, hk⟩
    obtain ⟨G1, hR⟩ := hw F G0 a' w' hR0
    obtain ⟨v, G', h1, h2, h3, h4, h5, h6⟩ := ret_sound hR hk
    refine ⟨hR.defers, v, h1, v, G', rfl, h2, h3, by rw [h4]; exact hR.sn.ext, fun k => by rw [h5 k]; exact hR.sn.βa k, fun g p hg => ?_, fun g hg => ?_⟩
    rotate_left
    · obtain ⟨hz1, hz2⟩ := hR.z g hg
      refine ⟨hz2, hz1.1, ?_, by rw [h4]; exact hz1.2.2.2.1⟩
      cases ho : G'.own g with
      | none => rfl
      | some p =>
        obtain ⟨q, hq⟩ := h6 g p ho
        rw [hz1.2.1] at hq; cases hq
    obtain ⟨q, hq⟩ := h6 g p hg
    exact hR.sn.own g q hq
  cases e with
  | normal => obtain ⟨G1, s, hR, hk⟩ := he; exact hend G1 s hR (hQn s hk)
  | ret => obtain ⟨G1, s, hR, hk⟩ := he; exact hend G1 s hR (hQr s hk)
  | exit id => obtain ⟨G1, s, hR, hk⟩ := he; exact (hQe id s hk).elim
  | goto l => exact he.elim
  | panic c => exact he.elim
  | outgrown => exact he.elim
/-- A function's text, walked in the logic. -/
theorem BRet.of_body {P : Program} (H : Nat → List Nat) (hm : P.follows .mixedOrders = true) {f : Nat} {fn : Func} {c : Code} (hf : P.funcs[f]? = some fn) (hb : fn.body = some c) (hn : (fn.name != "runtime.NumGoroutine") = true) (hd : cOk P H fn.ntmps c = true) {rs : List ResultVar} (hrs : fn.results = rs.toArray)
    {bi bo : List (List PV)} {args : List PV} {r : PV} (hl : bo.length = bi.length) (ha : args.length ≤ fn.ntmps) (h : bwp P H c (endK P rs r bo) (St.init args bi)) : BRet P f bi args r bo :=
  BRet.of_bodyG H hm hf hb hn hd hrs hl ha (fun s hs => ⟨s, fun F G a w hr => ⟨G, hr⟩, hs⟩) (fun s hs => ⟨s, fun F G a w hr => ⟨G, hr⟩, hs⟩) (fun i s hs => hs) h
def endW (P : Program) (rs : List ResultVar) (r : PV) (bo : List (List PV)) : Ex → St → Prop
  | .normal => wk P (retK P rs r bo)
  | .ret => wk P (retK P rs r bo)
  | .exit _ => fun _ => False
theorem BRet.of_bodyW {P : Program} (H : Nat → List Nat) (hm : P.follows .mixedOrders = true) {f : Nat} {fn : Func} {c : Code} (hf : P.funcs[f]? = some fn) (hb : fn.body = some c) (hn : (fn.name != "runtime.NumGoroutine") = true) (hd : cOk P H fn.ntmps c = true) {rs : List ResultVar} (hrs : fn.results = rs.toArray)
    {bi bo : List (List PV)} {args : List PV} {r : PV} (hl : bo.length = bi.length) (ha : args.length ≤ fn.ntmps) (h : bwp P H c (endW P rs r bo) (St.init args bi)) : BRet P f bi args r bo :=
  BRet.of_bodyG H hm hf hb hn hd hrs hl ha (fun s hs => hs) (fun s hs => hs) (fun i s hs => hs) h

end Go.Bee

/- What the logic asks of the types. No condition. -/
namespace Go.Bee.Ty
open Go Go.Bee Go.Proofs
theorem ty0 : tyi Tryz.prog 0 = some ⟨1, 0, false, none, false, false, true, false, none, [], [.junk]⟩ := by kernel_rfl
theorem ty1 : tyi Tryz.prog 1 = some ⟨1, 8, false, none, false, false, true, false, none, [], [.one]⟩ := by kernel_rfl
theorem ty2 : tyi Tryz.prog 2 = some ⟨1, 8, false, none, false, false, false, false, some .i64, [], [.d (.int .i64 0)]⟩ := by kernel_rfl
theorem ty3 : tyi Tryz.prog 3 = some ⟨1, 8, false, none, false, false, false, false, some .i64, [], [.d (.int .i64 0)]⟩ := by kernel_rfl
theorem ty4 : tyi Tryz.prog 4 = some ⟨1, 1, false, none, false, true, false, false, none, [], [.d (.bool false)]⟩ := by kernel_rfl
theorem ty5 : tyi Tryz.prog 5 = some ⟨1, 1, false, none, false, false, false, false, some .u8, [], [.d (.int .u8 0)]⟩ := by kernel_rfl
theorem ty6 : tyi Tryz.prog 6 = some ⟨1, 1, false, none, false, false, false, false, some .u8, [], [.d (.int .u8 0)]⟩ := by kernel_rfl
theorem ty7 : tyi Tryz.prog 7 = some ⟨4, 24, true, none, false, false, false, false, none, [some (0, 1, false), some (1, 1, false), some (2, 1, false), some (3, 1, false)], [.d (.int .i64 0), .d (.int .i64 0), .d (.bool false), .d (.int .u8 0)]⟩ := by kernel_rfl
theorem ty8 : tyi Tryz.prog 8 = some ⟨4, 24, true, none, false, false, false, false, none, [some (0, 1, false), some (1, 1, false), some (2, 1, false), some (3, 1, false)], [.d (.int .i64 0), .d (.int .i64 0), .d (.bool false), .d (.int .u8 0)]⟩ := by kernel_rfl
theorem ty9 : tyi Tryz.prog 9 = some ⟨1, 16, false, none, true, false, false, false, none, [], [.d (.str [])]⟩ := by kernel_rfl
theorem ty10 : tyi Tryz.prog 10 = some ⟨1, 16, false, none, true, false, false, false, none, [], [.d (.str [])]⟩ := by kernel_rfl
theorem ty11 : tyi Tryz.prog 11 = some ⟨1, 16, false, none, true, false, false, false, none, [], [.d (.str [])]⟩ := by kernel_rfl
theorem ty12 : tyi Tryz.prog 12 = some ⟨1, 8, false, none, false, false, false, false, some .u64, [], [.d (.int .u64 0)]⟩ := by kernel_rfl
theorem ty13 : tyi Tryz.prog 13 = some ⟨2, 24, true, none, false, false, false, false, none, [some (0, 1, false), some (1, 1, false)], [.d (.str []), .d (.int .u64 0)]⟩ := by kernel_rfl
theorem ty14 : tyi Tryz.prog 14 = some ⟨2, 24, true, none, false, false, false, false, none, [some (0, 1, false), some (1, 1, false)], [.d (.str []), .d (.int .u64 0)]⟩ := by kernel_rfl
theorem ty15 : tyi Tryz.prog 15 = some ⟨1, 8, false, none, false, false, true, true, none, [], [.one]⟩ := by kernel_rfl
theorem ty16 : tyi Tryz.prog 16 = some ⟨1, 8, false, none, false, false, true, true, none, [], [.one]⟩ := by kernel_rfl
theorem ty17 : tyi Tryz.prog 17 = some ⟨1, 8, false, none, false, false, true, true, none, [], [.one]⟩ := by kernel_rfl
theorem ty18 : tyi Tryz.prog 18 = some ⟨1, 8, true, none, false, false, false, false, none, [some (0, 1, false)], [.one]⟩ := by kernel_rfl
theorem ty19 : tyi Tryz.prog 19 = some ⟨1, 8, true, none, false, false, false, false, none, [some (0, 1, false)], [.one]⟩ := by kernel_rfl
theorem ty20 : tyi Tryz.prog 20 = some ⟨1, 16, false, none, false, false, true, false, none, [], [.one]⟩ := by kernel_rfl
theorem ty21 : tyi Tryz.prog 21 = some ⟨1, 4, false, none, false, false, false, false, some .i32, [], [.d (.int .i32 0)]⟩ := by kernel_rfl
theorem ty22 : tyi Tryz.prog 22 = some ⟨1, 24, false, some 9, false, false, false, false, none, [], [.nilS]⟩ := by kernel_rfl
theorem ty23 : tyi Tryz.prog 23 = some ⟨1, 24, false, some 85, false, false, false, false, none, [], [.nilS]⟩ := by kernel_rfl
theorem ty24 : tyi Tryz.prog 24 = some ⟨2, 48, true, none, false, false, false, false, none, [some (0, 1, false), some (1, 1, false)], [.nilS, .nilS]⟩ := by kernel_rfl
theorem ty25 : tyi Tryz.prog 25 = some ⟨2, 48, true, none, false, false, false, false, none, [some (0, 1, false), some (1, 1, false)], [.nilS, .nilS]⟩ := by kernel_rfl
theorem ty26 : tyi Tryz.prog 26 = some ⟨1, 8, false, none, false, false, true, false, none, [], [.one]⟩ := by kernel_rfl
theorem ty27 : tyi Tryz.prog 27 = some ⟨1, 0, false, none, false, false, true, false, none, [], [.junk]⟩ := by kernel_rfl
theorem ty28 : tyi Tryz.prog 28 = some ⟨1, 8, false, none, false, false, true, false, none, [], [.one]⟩ := by kernel_rfl
theorem ty29 : tyi Tryz.prog 29 = some ⟨1, 24, false, some 66, false, false, false, false, none, [], [.nilS]⟩ := by kernel_rfl
theorem ty30 : tyi Tryz.prog 30 = some ⟨2, 48, true, none, false, false, false, false, none, [some (0, 1, false), some (1, 1, false)], [.nilS, .nilS]⟩ := by kernel_rfl
theorem ty31 : tyi Tryz.prog 31 = some ⟨2, 48, true, none, false, false, false, false, none, [some (0, 1, false), some (1, 1, false)], [.nilS, .nilS]⟩ := by kernel_rfl
theorem ty32 : tyi Tryz.prog 32 = some ⟨1, 8, false, none, false, false, true, false, none, [], [.one]⟩ := by kernel_rfl
theorem ty33 : tyi Tryz.prog 33 = some ⟨1, 8, false, none, false, false, true, false, none, [], [.one]⟩ := by kernel_rfl
theorem ty34 : tyi Tryz.prog 34 = some ⟨1, 8, false, none, false, false, true, false, none, [], [.one]⟩ := by kernel_rfl
theorem ty35 : tyi Tryz.prog 35 = some ⟨1, 24, false, some 99, false, false, false, false, none, [], [.nilS]⟩ := by kernel_rfl
theorem ty36 : tyi Tryz.prog 36 = some ⟨1, 24, false, some 3, false, false, false, false, none, [], [.nilS]⟩ := by kernel_rfl
theorem ty37 : tyi Tryz.prog 37 = some ⟨5, 88, true, none, false, false, false, false, none, [some (0, 1, false), some (1, 1, false), some (2, 1, false), some (3, 1, false), some (4, 1, false)], [.d (.int .i64 0), .nilS, .nilS, .nilS, .d (.bool false)]⟩ := by kernel_rfl
theorem ty38 : tyi Tryz.prog 38 = some ⟨5, 88, true, none, false, false, false, false, none, [some (0, 1, false), some (1, 1, false), some (2, 1, false), some (3, 1, false), some (4, 1, false)], [.d (.int .i64 0), .nilS, .nilS, .nilS, .d (.bool false)]⟩ := by kernel_rfl
theorem ty39 : tyi Tryz.prog 39 = some ⟨1, 8, false, none, false, false, true, false, none, [], [.one]⟩ := by kernel_rfl
theorem ty40 : tyi Tryz.prog 40 = some ⟨4, 32, true, none, false, false, false, false, none, [some (0, 1, false), some (1, 1, false), some (2, 1, false), some (3, 1, false)], [.d (.int .i64 0), .d (.int .i64 0), .d (.int .i64 0), .d (.int .i64 0)]⟩ := by kernel_rfl
theorem ty41 : tyi Tryz.prog 41 = some ⟨4, 32, true, none, false, false, false, false, none, [some (0, 1, false), some (1, 1, false), some (2, 1, false), some (3, 1, false)], [.d (.int .i64 0), .d (.int .i64 0), .d (.int .i64 0), .d (.int .i64 0)]⟩ := by kernel_rfl
theorem ty42 : tyi Tryz.prog 42 = some ⟨1, 0, false, none, false, false, true, false, none, [], [.junk]⟩ := by kernel_rfl
theorem ty43 : tyi Tryz.prog 43 = some ⟨1, 8, false, none, false, false, true, false, none, [], [.one]⟩ := by kernel_rfl
theorem ty44 : tyi Tryz.prog 44 = some ⟨1, 24, false, some 97, false, false, false, false, none, [], [.nilS]⟩ := by kernel_rfl
theorem ty45 : tyi Tryz.prog 45 = some ⟨5, 88, true, none, false, false, false, false, none, [some (0, 1, false), some (1, 1, false), some (2, 1, false), some (3, 1, false), some (4, 1, false)], [.d (.int .i64 0), .nilS, .nilS, .nilS, .d (.bool false)]⟩ := by kernel_rfl
theorem ty46 : tyi Tryz.prog 46 = some ⟨5, 88, true, none, false, false, false, false, none, [some (0, 1, false), some (1, 1, false), some (2, 1, false), some (3, 1, false), some (4, 1, false)], [.d (.int .i64 0), .nilS, .nilS, .nilS, .d (.bool false)]⟩ := by kernel_rfl
theorem ty47 : tyi Tryz.prog 47 = some ⟨1, 8, false, none, false, false, true, false, none, [], [.one]⟩ := by kernel_rfl
theorem ty48 : tyi Tryz.prog 48 = some ⟨1, 8, false, none, false, false, true, false, none, [], [.one]⟩ := by kernel_rfl
theorem ty49 : tyi Tryz.prog 49 = some ⟨1, 8, false, none, false, false, true, false, none, [], [.one]⟩ := by kernel_rfl
theorem ty50 : tyi Tryz.prog 50 = some ⟨1, 8, false, none, false, false, true, false, none, [], [.one]⟩ := by kernel_rfl
theorem ty51 : tyi Tryz.prog 51 = some ⟨1, 0, false, none, false, false, true, false, none, [], [.junk]⟩ := by kernel_rfl
theorem ty52 : tyi Tryz.prog 52 = some ⟨1, 8, false, none, false, false, true, false, none, [], [.one]⟩ := by kernel_rfl
theorem ty53 : tyi Tryz.prog 53 = some ⟨1, 8, false, none, false, false, true, false, none, [], [.one]⟩ := by kernel_rfl
theorem ty54 : tyi Tryz.prog 54 = some ⟨1, 8, false, none, false, false, true, false, none, [], [.one]⟩ := by kernel_rfl
theorem ty55 : tyi Tryz.prog 55 = some ⟨1, 8, false, none, false, false, true, false, none, [], [.one]⟩ := by kernel_rfl
theorem ty56 : tyi Tryz.prog 56 = some ⟨1, 8, false, none, false, false, true, false, none, [], [.one]⟩ := by kernel_rfl
theorem ty57 : tyi Tryz.prog 57 = some ⟨1, 8, false, none, false, false, true, false, none, [], [.one]⟩ := by kernel_rfl
theorem ty58 : tyi Tryz.prog 58 = some ⟨1, 8, false, none, false, false, true, false, none, [], [.one]⟩ := by kernel_rfl
theorem ty59 : tyi Tryz.prog 59 = some ⟨1, 8, false, none, false, false, true, false, none, [], [.one]⟩ := by kernel_rfl
theorem ty60 : tyi Tryz.prog 60 = some ⟨1, 8, false, none, false, false, true, false, none, [], [.one]⟩ := by kernel_rfl
theorem ty61 : tyi Tryz.prog 61 = some ⟨1, 8, false, none, false, false, true, false, none, [], [.one]⟩ := by kernel_rfl
theorem ty62 : tyi Tryz.prog 62 = some ⟨1, 24, false, some 64, false, false, false, false, none, [], [.nilS]⟩ := by kernel_rfl
theorem ty63 : tyi Tryz.prog 63 = some ⟨4, 56, true, none, false, false, false, false, none, [some (0, 1, false), some (1, 1, false), some (2, 1, false), some (3, 1, false)], [.d (.int .i64 0), .d (.str []), .d (.int .i64 0), .nilS]⟩ := by kernel_rfl
theorem ty64 : tyi Tryz.prog 64 = some ⟨4, 56, true, none, false, false, false, false, none, [some (0, 1, false), some (1, 1, false), some (2, 1, false), some (3, 1, false)], [.d (.int .i64 0), .d (.str []), .d (.int .i64 0), .nilS]⟩ := by kernel_rfl
theorem ty65 : tyi Tryz.prog 65 = some ⟨12, 144, true, none, false, false, false, false, none, [some (0, 1, false), some (1, 1, false), some (2, 1, false), some (3, 1, false), some (4, 1, false), some (5, 1, false), some (6, 4, true), some (10, 1, false), some (11, 1, false)], [.d (.str []), .d (.int .i64 0), .d (.int .i64 0), .d (.str []), .d (.int .i64 0), .d (.int .i64 0), .d (.int .i64 0), .d (.str []), .d (.int .i64 0), .nilS, .d (.int .i64 0), .d (.str [])]⟩ := by kernel_rfl
theorem ty66 : tyi Tryz.prog 66 = some ⟨12, 144, true, none, false, false, false, false, none, [some (0, 1, false), some (1, 1, false), some (2, 1, false), some (3, 1, false), some (4, 1, false), some (5, 1, false), some (6, 4, true), some (10, 1, false), some (11, 1, false)], [.d (.str []), .d (.int .i64 0), .d (.int .i64 0), .d (.str []), .d (.int .i64 0), .d (.int .i64 0), .d (.int .i64 0), .d (.str []), .d (.int .i64 0), .nilS, .d (.int .i64 0), .d (.str [])]⟩ := by kernel_rfl
theorem ty67 : tyi Tryz.prog 67 = some ⟨1, 8, false, none, false, false, true, false, none, [], [.one]⟩ := by kernel_rfl
theorem ty68 : tyi Tryz.prog 68 = some ⟨1, 8, false, none, false, false, true, false, none, [], [.one]⟩ := by kernel_rfl
theorem ty69 : tyi Tryz.prog 69 = some ⟨1, 8, false, none, false, false, true, false, none, [], [.one]⟩ := by kernel_rfl
theorem ty70 : tyi Tryz.prog 70 = some ⟨1, 8, false, none, false, false, true, false, none, [], [.one]⟩ := by kernel_rfl
theorem ty71 : tyi Tryz.prog 71 = some ⟨1, 8, false, none, false, false, true, false, none, [], [.one]⟩ := by kernel_rfl
theorem ty72 : tyi Tryz.prog 72 = some ⟨1, 8, false, none, false, false, true, false, none, [], [.one]⟩ := by kernel_rfl
theorem ty73 : tyi Tryz.prog 73 = some ⟨1, 8, false, none, false, false, true, false, none, [], [.one]⟩ := by kernel_rfl
theorem ty74 : tyi Tryz.prog 74 = some ⟨1, 8, false, none, false, false, true, false, none, [], [.one]⟩ := by kernel_rfl
theorem ty75 : tyi Tryz.prog 75 = some ⟨1, 8, false, none, false, false, true, false, none, [], [.one]⟩ := by kernel_rfl
theorem ty76 : tyi Tryz.prog 76 = some ⟨1, 8, false, none, false, false, true, false, none, [], [.one]⟩ := by kernel_rfl
theorem ty77 : tyi Tryz.prog 77 = some ⟨1, 8, false, none, false, false, true, false, none, [], [.one]⟩ := by kernel_rfl
theorem ty78 : tyi Tryz.prog 78 = some ⟨1, 8, false, none, false, false, true, false, none, [], [.one]⟩ := by kernel_rfl
theorem ty79 : tyi Tryz.prog 79 = some ⟨1, 8, false, none, false, false, true, false, none, [], [.one]⟩ := by kernel_rfl
theorem ty80 : tyi Tryz.prog 80 = some ⟨1, 8, false, none, false, false, true, false, none, [], [.one]⟩ := by kernel_rfl
theorem ty81 : tyi Tryz.prog 81 = some ⟨1, 24, false, some 83, false, false, false, false, none, [], [.nilS]⟩ := by kernel_rfl
theorem ty82 : tyi Tryz.prog 82 = some ⟨4, 56, true, none, false, false, false, false, none, [some (0, 1, false), some (1, 1, false), some (2, 1, false), some (3, 1, false)], [.d (.int .i64 0), .d (.str []), .d (.int .i64 0), .nilS]⟩ := by kernel_rfl
theorem ty83 : tyi Tryz.prog 83 = some ⟨4, 56, true, none, false, false, false, false, none, [some (0, 1, false), some (1, 1, false), some (2, 1, false), some (3, 1, false)], [.d (.int .i64 0), .d (.str []), .d (.int .i64 0), .nilS]⟩ := by kernel_rfl
theorem ty84 : tyi Tryz.prog 84 = some ⟨12, 144, true, none, false, false, false, false, none, [some (0, 1, false), some (1, 1, false), some (2, 1, false), some (3, 1, false), some (4, 1, false), some (5, 1, false), some (6, 4, true), some (10, 1, false), some (11, 1, false)], [.d (.str []), .d (.int .i64 0), .d (.int .i64 0), .d (.str []), .d (.int .i64 0), .d (.int .i64 0), .d (.int .i64 0), .d (.str []), .d (.int .i64 0), .nilS, .d (.int .i64 0), .d (.str [])]⟩ := by kernel_rfl
theorem ty85 : tyi Tryz.prog 85 = some ⟨12, 144, true, none, false, false, false, false, none, [some (0, 1, false), some (1, 1, false), some (2, 1, false), some (3, 1, false), some (4, 1, false), some (5, 1, false), some (6, 4, true), some (10, 1, false), some (11, 1, false)], [.d (.str []), .d (.int .i64 0), .d (.int .i64 0), .d (.str []), .d (.int .i64 0), .d (.int .i64 0), .d (.int .i64 0), .d (.str []), .d (.int .i64 0), .nilS, .d (.int .i64 0), .d (.str [])]⟩ := by kernel_rfl
theorem ty86 : tyi Tryz.prog 86 = some ⟨1, 8, false, none, false, false, true, false, none, [], [.one]⟩ := by kernel_rfl
theorem ty87 : tyi Tryz.prog 87 = some ⟨1, 8, false, none, false, false, true, false, none, [], [.one]⟩ := by kernel_rfl
theorem ty88 : tyi Tryz.prog 88 = some ⟨1, 8, false, none, false, false, true, false, none, [], [.one]⟩ := by kernel_rfl
theorem ty89 : tyi Tryz.prog 89 = some ⟨1, 8, false, none, false, false, true, false, none, [], [.one]⟩ := by kernel_rfl
theorem ty90 : tyi Tryz.prog 90 = some ⟨1, 8, false, none, false, false, true, false, none, [], [.one]⟩ := by kernel_rfl
theorem ty91 : tyi Tryz.prog 91 = some ⟨1, 8, false, none, false, false, true, false, none, [], [.one]⟩ := by kernel_rfl
theorem ty92 : tyi Tryz.prog 92 = some ⟨1, 8, false, none, false, false, true, false, none, [], [.one]⟩ := by kernel_rfl
theorem ty93 : tyi Tryz.prog 93 = some ⟨1, 8, false, none, false, false, true, false, none, [], [.one]⟩ := by kernel_rfl
theorem ty94 : tyi Tryz.prog 94 = some ⟨1, 8, false, none, false, false, true, false, none, [], [.one]⟩ := by kernel_rfl
theorem ty95 : tyi Tryz.prog 95 = some ⟨1, 8, false, none, false, false, true, false, none, [], [.one]⟩ := by kernel_rfl
theorem ty96 : tyi Tryz.prog 96 = some ⟨4, 32, true, none, false, false, false, false, none, [some (0, 1, false), some (1, 1, false), some (2, 1, false), some (3, 1, false)], [.d (.int .i64 0), .d (.int .i64 0), .d (.int .i64 0), .d (.int .i64 0)]⟩ := by kernel_rfl
theorem ty97 : tyi Tryz.prog 97 = some ⟨4, 32, true, none, false, false, false, false, none, [some (0, 1, false), some (1, 1, false), some (2, 1, false), some (3, 1, false)], [.d (.int .i64 0), .d (.int .i64 0), .d (.int .i64 0), .d (.int .i64 0)]⟩ := by kernel_rfl
theorem ty98 : tyi Tryz.prog 98 = some ⟨1, 8, false, none, false, false, true, false, none, [], [.one]⟩ := by kernel_rfl
theorem ty99 : tyi Tryz.prog 99 = some ⟨4, 32, true, none, false, false, false, false, none, [some (0, 1, false), some (1, 1, false), some (2, 1, false), some (3, 1, false)], [.d (.int .i64 0), .d (.int .i64 0), .d (.int .i64 0), .d (.int .i64 0)]⟩ := by kernel_rfl
theorem ty100 : tyi Tryz.prog 100 = some ⟨1, 8, false, none, false, false, true, false, none, [], [.one]⟩ := by kernel_rfl
theorem ty101 : tyi Tryz.prog 101 = some ⟨1, 8, false, none, false, false, true, false, none, [], [.one]⟩ := by kernel_rfl
theorem ty102 : tyi Tryz.prog 102 = some ⟨1, 8, false, none, false, false, true, false, none, [], [.one]⟩ := by kernel_rfl
theorem ty103 : tyi Tryz.prog 103 = some ⟨1, 8, false, none, false, false, true, false, none, [], [.one]⟩ := by kernel_rfl
theorem ty104 : tyi Tryz.prog 104 = some ⟨1, 8, false, none, false, false, true, false, none, [], [.one]⟩ := by kernel_rfl
theorem ty105 : tyi Tryz.prog 105 = some ⟨1, 8, false, none, false, false, true, false, none, [], [.one]⟩ := by kernel_rfl
theorem ty106 : tyi Tryz.prog 106 = some ⟨1, 8, false, none, false, false, true, false, none, [], [.one]⟩ := by kernel_rfl
theorem ty107 : tyi Tryz.prog 107 = some ⟨1, 8, false, none, false, false, true, false, none, [], [.one]⟩ := by kernel_rfl
theorem ty108 : tyi Tryz.prog 108 = some ⟨1, 8, false, none, false, false, true, false, none, [], [.one]⟩ := by kernel_rfl
theorem ty109 : tyi Tryz.prog 109 = some ⟨1, 8, false, none, false, false, true, false, none, [], [.one]⟩ := by kernel_rfl
theorem ty110 : tyi Tryz.prog 110 = some ⟨1, 8, false, none, false, false, true, false, none, [], [.one]⟩ := by kernel_rfl
theorem ty111 : tyi Tryz.prog 111 = some ⟨1, 8, false, none, false, false, true, false, none, [], [.one]⟩ := by kernel_rfl
theorem ty112 : tyi Tryz.prog 112 = some ⟨1, 8, false, none, false, false, true, false, none, [], [.one]⟩ := by kernel_rfl
theorem ty113 : tyi Tryz.prog 113 = some ⟨1, 8, false, none, false, false, true, false, none, [], [.one]⟩ := by kernel_rfl
theorem ty114 : tyi Tryz.prog 114 = some ⟨1, 8, false, none, false, false, true, false, none, [], [.one]⟩ := by kernel_rfl
theorem ty115 : tyi Tryz.prog 115 = some ⟨1, 8, false, none, false, false, true, false, none, [], [.one]⟩ := by kernel_rfl
theorem ty116 : tyi Tryz.prog 116 = some ⟨1, 8, false, none, false, false, true, false, none, [], [.one]⟩ := by kernel_rfl
theorem ty117 : tyi Tryz.prog 117 = some ⟨1, 8, false, none, false, false, true, false, none, [], [.one]⟩ := by kernel_rfl
theorem ty118 : tyi Tryz.prog 118 = some ⟨1, 8, false, none, false, false, true, false, none, [], [.one]⟩ := by kernel_rfl
theorem ty119 : tyi Tryz.prog 119 = some ⟨1, 8, false, none, false, false, true, false, none, [], [.one]⟩ := by kernel_rfl
theorem ty120 : tyi Tryz.prog 120 = some ⟨1, 8, false, none, false, false, true, false, none, [], [.one]⟩ := by kernel_rfl
theorem ty121 : tyi Tryz.prog 121 = some ⟨1, 8, false, none, false, false, true, false, none, [], [.one]⟩ := by kernel_rfl
theorem ty122 : tyi Tryz.prog 122 = some ⟨1, 8, false, none, false, false, true, false, none, [], [.one]⟩ := by kernel_rfl
theorem ty123 : tyi Tryz.prog 123 = some ⟨1, 8, false, none, false, false, true, false, none, [], [.one]⟩ := by kernel_rfl
theorem ty124 : tyi Tryz.prog 124 = some ⟨1, 8, false, none, false, false, true, false, none, [], [.one]⟩ := by kernel_rfl
theorem ty125 : tyi Tryz.prog 125 = some ⟨1, 8, false, none, false, false, true, false, none, [], [.one]⟩ := by kernel_rfl
theorem ty126 : tyi Tryz.prog 126 = some ⟨1, 8, false, none, false, false, true, false, none, [], [.one]⟩ := by kernel_rfl
theorem ty127 : tyi Tryz.prog 127 = some ⟨1, 8, false, none, false, false, true, false, none, [], [.one]⟩ := by kernel_rfl
theorem ty128 : tyi Tryz.prog 128 = some ⟨1, 8, false, none, false, false, true, false, none, [], [.one]⟩ := by kernel_rfl
theorem ty129 : tyi Tryz.prog 129 = some ⟨1, 8, false, none, false, false, true, false, none, [], [.one]⟩ := by kernel_rfl
theorem ty130 : tyi Tryz.prog 130 = some ⟨1, 8, false, none, false, false, true, false, none, [], [.one]⟩ := by kernel_rfl
theorem ty131 : tyi Tryz.prog 131 = some ⟨1, 8, false, none, false, false, true, false, none, [], [.one]⟩ := by kernel_rfl
theorem ty132 : tyi Tryz.prog 132 = some ⟨1, 8, false, none, false, false, true, false, none, [], [.one]⟩ := by kernel_rfl
theorem ty133 : tyi Tryz.prog 133 = some ⟨1, 8, false, none, false, false, true, false, none, [], [.one]⟩ := by kernel_rfl
theorem ty134 : tyi Tryz.prog 134 = some ⟨3, 24, true, none, false, false, false, false, none, [some (0, 1, false), some (1, 1, false), some (2, 1, false)], [.d (.int .i64 0), .d (.int .i64 0), .d (.int .i64 0)]⟩ := by kernel_rfl
theorem ty135 : tyi Tryz.prog 135 = some ⟨3, 24, true, none, false, false, false, false, none, [some (0, 1, false), some (1, 1, false), some (2, 1, false)], [.d (.int .i64 0), .d (.int .i64 0), .d (.int .i64 0)]⟩ := by kernel_rfl
theorem ty136 : tyi Tryz.prog 136 = some ⟨1, 8, false, none, false, false, true, false, none, [], [.one]⟩ := by kernel_rfl
theorem ty137 : tyi Tryz.prog 137 = some ⟨1, 8, false, none, false, false, true, false, none, [], [.one]⟩ := by kernel_rfl
theorem ty138 : tyi Tryz.prog 138 = some ⟨1, 8, false, none, false, false, true, false, none, [], [.one]⟩ := by kernel_rfl
theorem ty139 : tyi Tryz.prog 139 = some ⟨1, 8, false, none, false, false, true, false, none, [], [.one]⟩ := by kernel_rfl
theorem ty140 : tyi Tryz.prog 140 = some ⟨1, 8, false, none, false, false, true, false, none, [], [.one]⟩ := by kernel_rfl
theorem ty141 : tyi Tryz.prog 141 = some ⟨1, 8, false, none, false, false, true, false, none, [], [.one]⟩ := by kernel_rfl
theorem ty142 : tyi Tryz.prog 142 = some ⟨1, 8, false, none, false, false, true, false, none, [], [.one]⟩ := by kernel_rfl
theorem ty143 : tyi Tryz.prog 143 = some ⟨1, 8, false, none, false, false, true, false, none, [], [.one]⟩ := by kernel_rfl
theorem ty144 : tyi Tryz.prog 144 = some ⟨1, 8, false, none, false, false, true, false, none, [], [.one]⟩ := by kernel_rfl
theorem ty145 : tyi Tryz.prog 145 = some ⟨1, 8, false, none, false, false, true, false, none, [], [.one]⟩ := by kernel_rfl
theorem ty146 : tyi Tryz.prog 146 = some ⟨1, 8, false, none, false, false, true, false, none, [], [.one]⟩ := by kernel_rfl
theorem ty147 : tyi Tryz.prog 147 = some ⟨1, 8, false, none, false, false, true, false, none, [], [.one]⟩ := by kernel_rfl
theorem ty148 : tyi Tryz.prog 148 = some ⟨1, 8, false, none, false, false, true, false, none, [], [.one]⟩ := by kernel_rfl
theorem ty149 : tyi Tryz.prog 149 = some ⟨1, 8, false, none, false, false, true, false, none, [], [.one]⟩ := by kernel_rfl
theorem ty150 : tyi Tryz.prog 150 = some ⟨1, 8, false, none, false, false, true, false, none, [], [.one]⟩ := by kernel_rfl
theorem ty151 : tyi Tryz.prog 151 = some ⟨1, 8, false, none, false, false, false, false, some .u64, [], [.d (.int .u64 0)]⟩ := by kernel_rfl
theorem ty152 : tyi Tryz.prog 152 = some ⟨1, 8, false, none, false, false, true, false, none, [], [.one]⟩ := by kernel_rfl
theorem ty153 : tyi Tryz.prog 153 = some ⟨1, 8, false, none, false, false, true, false, none, [], [.one]⟩ := by kernel_rfl
theorem ty154 : tyi Tryz.prog 154 = some ⟨1, 8, false, none, false, false, true, false, none, [], [.one]⟩ := by kernel_rfl
theorem ty155 : tyi Tryz.prog 155 = some ⟨1, 8, false, none, false, false, true, false, none, [], [.one]⟩ := by kernel_rfl
theorem ty156 : tyi Tryz.prog 156 = some ⟨1, 8, false, none, false, false, true, false, none, [], [.one]⟩ := by kernel_rfl
theorem ty157 : tyi Tryz.prog 157 = some ⟨1, 8, false, none, false, false, false, false, some .i64, [], [.d (.int .i64 0)]⟩ := by kernel_rfl
theorem ty158 : tyi Tryz.prog 158 = some ⟨1, 0, false, none, false, false, true, false, none, [], [.junk]⟩ := by kernel_rfl
theorem ty159 : tyi Tryz.prog 159 = some ⟨1, 8, false, none, false, false, true, false, none, [], [.one]⟩ := by kernel_rfl
theorem ty160 : tyi Tryz.prog 160 = some ⟨1, 8, false, none, false, false, true, false, none, [], [.one]⟩ := by kernel_rfl
theorem ty161 : tyi Tryz.prog 161 = some ⟨1, 8, false, none, false, false, true, false, none, [], [.one]⟩ := by kernel_rfl
theorem ty162 : tyi Tryz.prog 162 = some ⟨1, 8, false, none, false, false, true, false, none, [], [.one]⟩ := by kernel_rfl
theorem ty163 : tyi Tryz.prog 163 = some ⟨1, 8, false, none, false, false, true, false, none, [], [.one]⟩ := by kernel_rfl
theorem ty164 : tyi Tryz.prog 164 = some ⟨1, 8, false, none, false, false, true, false, none, [], [.one]⟩ := by kernel_rfl
theorem ty165 : tyi Tryz.prog 165 = some ⟨1, 4, false, none, false, false, false, false, some .u32, [], [.d (.int .u32 0)]⟩ := by kernel_rfl
theorem ty166 : tyi Tryz.prog 166 = some ⟨1, 8, false, none, false, false, true, false, none, [], [.one]⟩ := by kernel_rfl
theorem ty167 : tyi Tryz.prog 167 = some ⟨1, 8, false, none, false, false, false, false, some .u64, [], [.d (.int .u64 0)]⟩ := by kernel_rfl
theorem ty168 : tyi Tryz.prog 168 = some ⟨24, 24, true, none, false, false, true, false, none, [], [.d (.int .u8 0), .d (.int .u8 0), .d (.int .u8 0), .d (.int .u8 0), .d (.int .u8 0), .d (.int .u8 0), .d (.int .u8 0), .d (.int .u8 0), .d (.int .u8 0), .d (.int .u8 0), .d (.int .u8 0), .d (.int .u8 0), .d (.int .u8 0), .d (.int .u8 0), .d (.int .u8 0), .d (.int .u8 0), .d (.int .u8 0), .d (.int .u8 0), .d (.int .u8 0), .d (.int .u8 0), .d (.int .u8 0), .d (.int .u8 0), .d (.int .u8 0), .d (.int .u8 0)]⟩ := by kernel_rfl
theorem ty169 : tyi Tryz.prog 169 = some ⟨1, 8, false, none, false, false, true, false, none, [], [.one]⟩ := by kernel_rfl
theorem ty170 : tyi Tryz.prog 170 = some ⟨1, 24, false, some 5, false, false, false, false, none, [], [.nilS]⟩ := by kernel_rfl
theorem ty171 : tyi Tryz.prog 171 = some ⟨1, 0, false, none, false, false, true, false, none, [], [.junk]⟩ := by kernel_rfl
theorem ty172 : tyi Tryz.prog 172 = some ⟨1, 8, false, none, false, false, true, false, none, [], [.one]⟩ := by kernel_rfl
theorem ty173 : tyi Tryz.prog 173 = some ⟨1, 8, false, none, false, false, true, false, none, [], [.one]⟩ := by kernel_rfl
theorem ty174 : tyi Tryz.prog 174 = some ⟨1, 8, false, none, false, false, true, false, none, [], [.one]⟩ := by kernel_rfl
theorem ty175 : tyi Tryz.prog 175 = some ⟨1, 8, false, none, false, false, true, false, none, [], [.one]⟩ := by kernel_rfl
theorem ty176 : tyi Tryz.prog 176 = some ⟨1, 0, false, none, false, false, true, false, none, [], [.junk]⟩ := by kernel_rfl
theorem ty177 : tyi Tryz.prog 177 = some ⟨1, 8, false, none, false, false, true, false, none, [], [.one]⟩ := by kernel_rfl
theorem ty178 : tyi Tryz.prog 178 = some ⟨1, 8, false, none, false, false, true, false, none, [], [.one]⟩ := by kernel_rfl
theorem ty179 : tyi Tryz.prog 179 = some ⟨1, 8, false, none, false, false, false, false, some .u64, [], [.d (.int .u64 0)]⟩ := by kernel_rfl
theorem ty180 : tyi Tryz.prog 180 = some ⟨1, 8, false, none, false, false, true, false, none, [], [.one]⟩ := by kernel_rfl
theorem ty181 : tyi Tryz.prog 181 = some ⟨1, 8, false, none, false, false, true, false, none, [], [.one]⟩ := by kernel_rfl
theorem ty182 : tyi Tryz.prog 182 = some ⟨1, 8, false, none, false, false, true, false, none, [], [.one]⟩ := by kernel_rfl
theorem ty183 : tyi Tryz.prog 183 = some ⟨1, 8, false, none, false, false, true, true, none, [], [.one]⟩ := by kernel_rfl
theorem ty184 : tyi Tryz.prog 184 = some ⟨1, 8, false, none, false, false, true, false, none, [], [.one]⟩ := by kernel_rfl
theorem ty185 : tyi Tryz.prog 185 = some ⟨1, 8, false, none, false, false, true, false, none, [], [.one]⟩ := by kernel_rfl
theorem ty186 : tyi Tryz.prog 186 = some ⟨20, 160, true, none, false, false, true, false, none, [], [.d (.int .u64 0), .d (.int .u64 0), .d (.int .u64 0), .d (.int .u64 0), .d (.int .u64 0), .d (.int .u64 0), .d (.int .u64 0), .d (.int .u64 0), .d (.int .u64 0), .d (.int .u64 0), .d (.int .u64 0), .d (.int .u64 0), .d (.int .u64 0), .d (.int .u64 0), .d (.int .u64 0), .d (.int .u64 0), .d (.int .u64 0), .d (.int .u64 0), .d (.int .u64 0), .d (.int .u64 0)]⟩ := by kernel_rfl
theorem ty188 : tyi Tryz.prog 188 = some ⟨1, 8, false, none, false, false, true, true, none, [], [.one]⟩ := by kernel_rfl
theorem ty189 : tyi Tryz.prog 189 = some ⟨1, 0, false, none, false, false, true, false, none, [], [.junk]⟩ := by kernel_rfl
theorem ty190 : tyi Tryz.prog 190 = some ⟨1, 8, false, none, false, false, true, false, none, [], [.one]⟩ := by kernel_rfl
theorem ty192 : tyi Tryz.prog 192 = some ⟨2, 2, true, none, false, false, false, false, none, [some (0, 1, false), some (1, 1, false)], [.d (.int .u8 0), .d (.int .u8 0)]⟩ := by kernel_rfl
theorem ty193 : tyi Tryz.prog 193 = some ⟨2, 2, true, none, false, false, false, false, none, [some (0, 1, false), some (1, 1, false)], [.d (.int .u8 0), .d (.int .u8 0)]⟩ := by kernel_rfl
theorem ty194 : tyi Tryz.prog 194 = some ⟨32, 32, true, none, false, false, true, false, none, [], [.d (.int .u8 0), .d (.int .u8 0), .d (.int .u8 0), .d (.int .u8 0), .d (.int .u8 0), .d (.int .u8 0), .d (.int .u8 0), .d (.int .u8 0), .d (.int .u8 0), .d (.int .u8 0), .d (.int .u8 0), .d (.int .u8 0), .d (.int .u8 0), .d (.int .u8 0), .d (.int .u8 0), .d (.int .u8 0), .d (.int .u8 0), .d (.int .u8 0), .d (.int .u8 0), .d (.int .u8 0), .d (.int .u8 0), .d (.int .u8 0), .d (.int .u8 0), .d (.int .u8 0), .d (.int .u8 0), .d (.int .u8 0), .d (.int .u8 0), .d (.int .u8 0), .d (.int .u8 0), .d (.int .u8 0), .d (.int .u8 0), .d (.int .u8 0)]⟩ := by kernel_rfl
theorem ty195 : tyi Tryz.prog 195 = some ⟨1, 0, false, none, false, false, true, false, none, [], [.junk]⟩ := by kernel_rfl
theorem ty196 : tyi Tryz.prog 196 = some ⟨1, 8, false, none, false, false, true, false, none, [], [.one]⟩ := by kernel_rfl
theorem ty197 : tyi Tryz.prog 197 = some ⟨32, 32, true, none, false, false, true, false, none, [], [.d (.int .u8 0), .d (.int .u8 0), .d (.int .u8 0), .d (.int .u8 0), .d (.int .u8 0), .d (.int .u8 0), .d (.int .u8 0), .d (.int .u8 0), .d (.int .u8 0), .d (.int .u8 0), .d (.int .u8 0), .d (.int .u8 0), .d (.int .u8 0), .d (.int .u8 0), .d (.int .u8 0), .d (.int .u8 0), .d (.int .u8 0), .d (.int .u8 0), .d (.int .u8 0), .d (.int .u8 0), .d (.int .u8 0), .d (.int .u8 0), .d (.int .u8 0), .d (.int .u8 0), .d (.int .u8 0), .d (.int .u8 0), .d (.int .u8 0), .d (.int .u8 0), .d (.int .u8 0), .d (.int .u8 0), .d (.int .u8 0), .d (.int .u8 0)]⟩ := by kernel_rfl
theorem ty199 : tyi Tryz.prog 199 = some ⟨1, 8, false, none, false, false, true, false, none, [], [.one]⟩ := by kernel_rfl
theorem ty200 : tyi Tryz.prog 200 = some ⟨4, 40, true, none, false, false, false, false, none, [some (0, 1, false), some (1, 1, false), some (2, 1, false), some (3, 1, false)], [.one, .one, .one, .d (.str [])]⟩ := by kernel_rfl
theorem ty201 : tyi Tryz.prog 201 = some ⟨4, 40, true, none, false, false, false, false, none, [some (0, 1, false), some (1, 1, false), some (2, 1, false), some (3, 1, false)], [.one, .one, .one, .d (.str [])]⟩ := by kernel_rfl
theorem ty202 : tyi Tryz.prog 202 = some ⟨0, 0, true, none, false, false, true, false, none, [], []⟩ := by kernel_rfl
theorem ty203 : tyi Tryz.prog 203 = some ⟨0, 0, true, none, false, false, false, false, none, [some (0, 0, true)], []⟩ := by kernel_rfl
theorem ty204 : tyi Tryz.prog 204 = some ⟨0, 0, true, none, false, false, false, false, none, [some (0, 0, true)], []⟩ := by kernel_rfl
theorem ty205 : tyi Tryz.prog 205 = some ⟨1, 8, false, none, false, false, true, false, none, [], [.one]⟩ := by kernel_rfl
theorem ty206 : tyi Tryz.prog 206 = some ⟨1, 1, false, none, false, false, false, false, some .u8, [], [.d (.int .u8 0)]⟩ := by kernel_rfl
theorem ty207 : tyi Tryz.prog 207 = some ⟨1, 1, false, none, false, false, false, false, some .u8, [], [.d (.int .u8 0)]⟩ := by kernel_rfl
theorem ty208 : tyi Tryz.prog 208 = some ⟨1, 8, false, none, false, false, true, false, none, [], [.one]⟩ := by kernel_rfl
theorem ty209 : tyi Tryz.prog 209 = some ⟨1, 8, false, none, false, false, true, true, none, [], [.one]⟩ := by kernel_rfl
theorem ty210 : tyi Tryz.prog 210 = some ⟨1, 4, false, none, false, false, false, false, some .i32, [], [.d (.int .i32 0)]⟩ := by kernel_rfl
theorem ty211 : tyi Tryz.prog 211 = some ⟨1, 4, false, none, false, false, false, false, some .i32, [], [.d (.int .i32 0)]⟩ := by kernel_rfl
theorem ty212 : tyi Tryz.prog 212 = some ⟨11, 48, true, none, false, false, false, false, none, [some (0, 1, false), some (1, 1, false), some (2, 1, false), some (3, 1, false), some (4, 1, false), some (5, 1, false), some (6, 1, false), some (7, 1, false), some (8, 1, false), some (9, 1, false), some (10, 1, false)], [.d (.int .u64 0), .d (.int .u64 0), .d (.int .u32 0), .d (.int .u8 0), .d (.int .u8 0), .d (.int .u8 0), .d (.int .u8 0), .one, .one, .d (.int .i32 0), .d (.int .i32 0)]⟩ := by kernel_rfl
theorem ty213 : tyi Tryz.prog 213 = some ⟨11, 48, true, none, false, false, false, false, none, [some (0, 1, false), some (1, 1, false), some (2, 1, false), some (3, 1, false), some (4, 1, false), some (5, 1, false), some (6, 1, false), some (7, 1, false), some (8, 1, false), some (9, 1, false), some (10, 1, false)], [.d (.int .u64 0), .d (.int .u64 0), .d (.int .u32 0), .d (.int .u8 0), .d (.int .u8 0), .d (.int .u8 0), .d (.int .u8 0), .one, .one, .d (.int .i32 0), .d (.int .i32 0)]⟩ := by kernel_rfl
theorem ty214 : tyi Tryz.prog 214 = some ⟨1, 8, false, none, false, false, true, false, none, [], [.one]⟩ := by kernel_rfl
theorem tys : (tyi Tryz.prog 0 = some ⟨1, 0, false, none, false, false, true, false, none, [], [.junk]⟩) ∧ (tyi Tryz.prog 1 = some ⟨1, 8, false, none, false, false, true, false, none, [], [.one]⟩) ∧ (tyi Tryz.prog 2 = some ⟨1, 8, false, none, false, false, false, false, some .i64, [], [.d (.int .i64 0)]⟩) ∧ (tyi Tryz.prog 3 = some ⟨1, 8, false, none, false, false, false, false, some .i64, [], [.d (.int .i64 0)]⟩) ∧ (tyi Tryz.prog 4 = some ⟨1, 1, false, none, false, true, false, false, none, [], [.d (.bool false)]⟩) ∧ (tyi Tryz.prog 5 = some ⟨1, 1, false, none, false, false, false, false, some .u8, [], [.d (.int .u8 0)]⟩) ∧ (tyi Tryz.prog 6 = some ⟨1, 1, false, none, false, false, false, false, some .u8, [], [.d (.int .u8 0)]⟩) ∧ (tyi Tryz.prog 7 = some ⟨4, 24, true, none, false, false, false, false, none, [some (0, 1, false), some (1, 1, false), some (2, 1, false), some (3, 1, false)], [.d (.int .i64 0), .d (.int .i64 0), .d (.bool false), .d (.int .u8 0)]⟩) ∧ (tyi Tryz.prog 8 = some ⟨4, 24, true, none, false, false, false, false, none, [some (0, 1, false), some (1, 1, false), some (2, 1, false), some (3, 1, false)], [.d (.int .i64 0), .d (.int .i64 0), .d (.bool false), .d (.int .u8 0)]⟩) ∧ (tyi Tryz.prog 9 = some ⟨1, 16, false, none, true, false, false, false, none, [], [.d (.str [])]⟩) ∧ (tyi Tryz.prog 10 = some ⟨1, 16, false, none, true, false, false, false, none, [], [.d (.str [])]⟩) ∧ (tyi Tryz.prog 11 = some ⟨1, 16, false, none, true, false, false, false, none, [], [.d (.str [])]⟩) ∧ (tyi Tryz.prog 12 = some ⟨1, 8, false, none, false, false, false, false, some .u64, [], [.d (.int .u64 0)]⟩) ∧ (tyi Tryz.prog 13 = some ⟨2, 24, true, none, false, false, false, false, none, [some (0, 1, false), some (1, 1, false)], [.d (.str []), .d (.int .u64 0)]⟩) ∧ (tyi Tryz.prog 14 = some ⟨2, 24, true, none, false, false, false, false, none, [some (0, 1, false), some (1, 1, false)], [.d (.str []), .d (.int .u64 0)]⟩) ∧ (tyi Tryz.prog 15 = some ⟨1, 8, false, none, false, false, true, true, none, [], [.one]⟩) ∧ (tyi Tryz.prog 16 = some ⟨1, 8, false, none, false, false, true, true, none, [], [.one]⟩) ∧ (tyi Tryz.prog 17 = some ⟨1, 8, false, none, false, false, true, true, none, [], [.one]⟩) ∧ (tyi Tryz.prog 18 = some ⟨1, 8, true, none, false, false, false, false, none, [some (0, 1, false)], [.one]⟩) ∧ (tyi Tryz.prog 19 = some ⟨1, 8, true, none, false, false, false, false, none, [some (0, 1, false)], [.one]⟩) ∧ (tyi Tryz.prog 20 = some ⟨1, 16, false, none, false, false, true, false, none, [], [.one]⟩) ∧ (tyi Tryz.prog 21 = some ⟨1, 4, false, none, false, false, false, false, some .i32, [], [.d (.int .i32 0)]⟩) ∧ (tyi Tryz.prog 22 = some ⟨1, 24, false, some 9, false, false, false, false, none, [], [.nilS]⟩) ∧ (tyi Tryz.prog 23 = some ⟨1, 24, false, some 85, false, false, false, false, none, [], [.nilS]⟩) ∧ (tyi Tryz.prog 24 = some ⟨2, 48, true, none, false, false, false, false, none, [some (0, 1, false), some (1, 1, false)], [.nilS, .nilS]⟩) ∧ (tyi Tryz.prog 25 = some ⟨2, 48, true, none, false, false, false, false, none, [some (0, 1, false), some (1, 1, false)], [.nilS, .nilS]⟩) ∧ (tyi Tryz.prog 26 = some ⟨1, 8, false, none, false, false, true, false, none, [], [.one]⟩) ∧ (tyi Tryz.prog 27 = some ⟨1, 0, false, none, false, false, true, false, none, [], [.junk]⟩) ∧ (tyi Tryz.prog 28 = some ⟨1, 8, false, none, false, false, true, false, none, [], [.one]⟩) ∧ (tyi Tryz.prog 29 = some ⟨1, 24, false, some 66, false, false, false, false, none, [], [.nilS]⟩) ∧ (tyi Tryz.prog 30 = some ⟨2, 48, true, none, false, false, false, false, none, [some (0, 1, false), some (1, 1, false)], [.nilS, .nilS]⟩) ∧ (tyi Tryz.prog 31 = some ⟨2, 48, true, none, false, false, false, false, none, [some (0, 1, false), some (1, 1, false)], [.nilS, .nilS]⟩) ∧ (tyi Tryz.prog 32 = some ⟨1, 8, false, none, false, false, true, false, none, [], [.one]⟩) ∧ (tyi Tryz.prog 33 = some ⟨1, 8, false, none, false, false, true, false, none, [], [.one]⟩) ∧ (tyi Tryz.prog 34 = some ⟨1, 8, false, none, false, false, true, false, none, [], [.one]⟩) ∧ (tyi Tryz.prog 35 = some ⟨1, 24, false, some 99, false, false, false, false, none, [], [.nilS]⟩) ∧ (tyi Tryz.prog 36 = some ⟨1, 24, false, some 3, false, false, false, false, none, [], [.nilS]⟩) ∧ (tyi Tryz.prog 37 = some ⟨5, 88, true, none, false, false, false, false, none, [some (0, 1, false), some (1, 1, false), some (2, 1, false), some (3, 1, false), some (4, 1, false)], [.d (.int .i64 0), .nilS, .nilS, .nilS, .d (.bool false)]⟩) ∧ (tyi Tryz.prog 38 = some ⟨5, 88, true, none, false, false, false, false, none, [some (0, 1, false), some (1, 1, false), some (2, 1, false), some (3, 1, false), some (4, 1, false)], [.d (.int .i64 0), .nilS, .nilS, .nilS, .d (.bool false)]⟩) ∧ (tyi Tryz.prog 39 = some ⟨1, 8, false, none, false, false, true, false, none, [], [.one]⟩) ∧ (tyi Tryz.prog 40 = some ⟨4, 32, true, none, false, false, false, false, none, [some (0, 1, false), some (1, 1, false), some (2, 1, false), some (3, 1, false)], [.d (.int .i64 0), .d (.int .i64 0), .d (.int .i64 0), .d (.int .i64 0)]⟩) ∧ (tyi Tryz.prog 41 = some ⟨4, 32, true, none, false, false, false, false, none, [some (0, 1, false), some (1, 1, false), some (2, 1, false), some (3, 1, false)], [.d (.int .i64 0), .d (.int .i64 0), .d (.int .i64 0), .d (.int .i64 0)]⟩) ∧ (tyi Tryz.prog 42 = some ⟨1, 0, false, none, false, false, true, false, none, [], [.junk]⟩) ∧ (tyi Tryz.prog 43 = some ⟨1, 8, false, none, false, false, true, false, none, [], [.one]⟩) ∧ (tyi Tryz.prog 44 = some ⟨1, 24, false, some 97, false, false, false, false, none, [], [.nilS]⟩) ∧ (tyi Tryz.prog 45 = some ⟨5, 88, true, none, false, false, false, false, none, [some (0, 1, false), some (1, 1, false), some (2, 1, false), some (3, 1, false), some (4, 1, false)], [.d (.int .i64 0), .nilS, .nilS, .nilS, .d (.bool false)]⟩) ∧ (tyi Tryz.prog 46 = some ⟨5, 88, true, none, false, false, false, false, none, [some (0, 1, false), some (1, 1, false), some (2, 1, false), some (3, 1, false), some (4, 1, false)], [.d (.int .i64 0), .nilS, .nilS, .nilS, .d (.bool false)]⟩) ∧ (tyi Tryz.prog 47 = some ⟨1, 8, false, none, false, false, true, false, none, [], [.one]⟩) ∧ (tyi Tryz.prog 48 = some ⟨1, 8, false, none, false, false, true, false, none, [], [.one]⟩) ∧ (tyi Tryz.prog 49 = some ⟨1, 8, false, none, false, false, true, false, none, [], [.one]⟩) ∧ (tyi Tryz.prog 50 = some ⟨1, 8, false, none, false, false, true, false, none, [], [.one]⟩) ∧ (tyi Tryz.prog 51 = some ⟨1, 0, false, none, false, false, true, false, none, [], [.junk]⟩) ∧ (tyi Tryz.prog 52 = some ⟨1, 8, false, none, false, false, true, false, none, [], [.one]⟩) ∧ (tyi Tryz.prog 53 = some ⟨1, 8, false, none, false, false, true, false, none, [], [.one]⟩) ∧ (tyi Tryz.prog 54 = some ⟨1, 8, false, none, false, false, true, false, none, [], [.one]⟩) ∧ (tyi Tryz.prog 55 = some ⟨1, 8, false, none, false, false, true, false, none, [], [.one]⟩) ∧ (tyi Tryz.prog 56 = some ⟨1, 8, false, none, false, false, true, false, none, [], [.one]⟩) ∧ (tyi Tryz.prog 57 = some ⟨1, 8, false, none, false, false, true, false, none, [], [.one]⟩) ∧ (tyi Tryz.prog 58 = some ⟨1, 8, false, none, false, false, true, false, none, [], [.one]⟩) ∧ (tyi Tryz.prog 59 = some ⟨1, 8, false, none, false, false, true, false, none, [], [.one]⟩) ∧ (tyi Tryz.prog 60 = some ⟨1, 8, false, none, false, false, true, false, none, [], [.one]⟩) ∧ (tyi Tryz.prog 61 = some ⟨1, 8, false, none, false, false, true, false, none, [], [.one]⟩) ∧ (tyi Tryz.prog 62 = some ⟨1, 24, false, some 64, false, false, false, false, none, [], [.nilS]⟩) ∧ (tyi Tryz.prog 63 = some ⟨4, 56, true, none, false, false, false, false, none, [some (0, 1, false), some (1, 1, false), some (2, 1, false), some (3, 1, false)], [.d (.int .i64 0), .d (.str []), .d (.int .i64 0), .nilS]⟩) ∧ (tyi Tryz.prog 64 = some ⟨4, 56, true, none, false, false, false, false, none, [some (0, 1, false), some (1, 1, false), some (2, 1, false), some (3, 1, false)], [.d (.int .i64 0), .d (.str []), .d (.int .i64 0), .nilS]⟩) ∧ (tyi Tryz.prog 65 = some ⟨12, 144, true, none, false, false, false, false, none, [some (0, 1, false), some (1, 1, false), some (2, 1, false), some (3, 1, false), some (4, 1, false), some (5, 1, false), some (6, 4, true), some (10, 1, false), some (11, 1, false)], [.d (.str []), .d (.int .i64 0), .d (.int .i64 0), .d (.str []), .d (.int .i64 0), .d (.int .i64 0), .d (.int .i64 0), .d (.str []), .d (.int .i64 0), .nilS, .d (.int .i64 0), .d (.str [])]⟩) ∧ (tyi Tryz.prog 66 = some ⟨12, 144, true, none, false, false, false, false, none, [some (0, 1, false), some (1, 1, false), some (2, 1, false), some (3, 1, false), some (4, 1, false), some (5, 1, false), some (6, 4, true), some (10, 1, false), some (11, 1, false)], [.d (.str []), .d (.int .i64 0), .d (.int .i64 0), .d (.str []), .d (.int .i64 0), .d (.int .i64 0), .d (.int .i64 0), .d (.str []), .d (.int .i64 0), .nilS, .d (.int .i64 0), .d (.str [])]⟩) ∧ (tyi Tryz.prog 67 = some ⟨1, 8, false, none, false, false, true, false, none, [], [.one]⟩) ∧ (tyi Tryz.prog 68 = some ⟨1, 8, false, none, false, false, true, false, none, [], [.one]⟩) ∧ (tyi Tryz.prog 69 = some ⟨1, 8, false, none, false, false, true, false, none, [], [.one]⟩) ∧ (tyi Tryz.prog 70 = some ⟨1, 8, false, none, false, false, true, false, none, [], [.one]⟩) ∧ (tyi Tryz.prog 71 = some ⟨1, 8, false, none, false, false, true, false, none, [], [.one]⟩) ∧ (tyi Tryz.prog 72 = some ⟨1, 8, false, none, false, false, true, false, none, [], [.one]⟩) ∧ (tyi Tryz.prog 73 = some ⟨1, 8, false, none, false, false, true, false, none, [], [.one]⟩) ∧ (tyi Tryz.prog 74 = some ⟨1, 8, false, none, false, false, true, false, none, [], [.one]⟩) ∧ (tyi Tryz.prog 75 = some ⟨1, 8, false, none, false, false, true, false, none, [], [.one]⟩) ∧ (tyi Tryz.prog 76 = some ⟨1, 8, false, none, false, false, true, false, none, [], [.one]⟩) ∧ (tyi Tryz.prog 77 = some ⟨1, 8, false, none, false, false, true, false, none, [], [.one]⟩) ∧ (tyi Tryz.prog 78 = some ⟨1, 8, false, none, false, false, true, false, none, [], [.one]⟩) ∧ (tyi Tryz.prog 79 = some ⟨1, 8, false, none, false, false, true, false, none, [], [.one]⟩) ∧ (tyi Tryz.prog 80 = some ⟨1, 8, false, none, false, false, true, false, none, [], [.one]⟩) ∧ (tyi Tryz.prog 81 = some ⟨1, 24, false, some 83, false, false, false, false, none, [], [.nilS]⟩) ∧ (tyi Tryz.prog 82 = some ⟨4, 56, true, none, false, false, false, false, none, [some (0, 1, false), some (1, 1, false), some (2, 1, false), some (3, 1, false)], [.d (.int .i64 0), .d (.str []), .d (.int .i64 0), .nilS]⟩) ∧ (tyi Tryz.prog 83 = some ⟨4, 56, true, none, false, false, false, false, none, [some (0, 1, false), some (1, 1, false), some (2, 1, false), some (3, 1, false)], [.d (.int .i64 0), .d (.str []), .d (.int .i64 0), .nilS]⟩) ∧ (tyi Tryz.prog 84 = some ⟨12, 144, true, none, false, false, false, false, none, [some (0, 1, false), some (1, 1, false), some (2, 1, false), some (3, 1, false), some (4, 1, false), some (5, 1, false), some (6, 4, true), some (10, 1, false), some (11, 1, false)], [.d (.str []), .d (.int .i64 0), .d (.int .i64 0), .d (.str []), .d (.int .i64 0), .d (.int .i64 0), .d (.int .i64 0), .d (.str []), .d (.int .i64 0), .nilS, .d (.int .i64 0), .d (.str [])]⟩) ∧ (tyi Tryz.prog 85 = some ⟨12, 144, true, none, false, false, false, false, none, [some (0, 1, false), some (1, 1, false), some (2, 1, false), some (3, 1, false), some (4, 1, false), some (5, 1, false), some (6, 4, true), some (10, 1, false), some (11, 1, false)], [.d (.str []), .d (.int .i64 0), .d (.int .i64 0), .d (.str []), .d (.int .i64 0), .d (.int .i64 0), .d (.int .i64 0), .d (.str []), .d (.int .i64 0), .nilS, .d (.int .i64 0), .d (.str [])]⟩) ∧ (tyi Tryz.prog 86 = some ⟨1, 8, false, none, false, false, true, false, none, [], [.one]⟩) ∧ (tyi Tryz.prog 87 = some ⟨1, 8, false, none, false, false, true, false, none, [], [.one]⟩) ∧ (tyi Tryz.prog 88 = some ⟨1, 8, false, none, false, false, true, false, none, [], [.one]⟩) ∧ (tyi Tryz.prog 89 = some ⟨1, 8, false, none, false, false, true, false, none, [], [.one]⟩) ∧ (tyi Tryz.prog 90 = some ⟨1, 8, false, none, false, false, true, false, none, [], [.one]⟩) ∧ (tyi Tryz.prog 91 = some ⟨1, 8, false, none, false, false, true, false, none, [], [.one]⟩) ∧ (tyi Tryz.prog 92 = some ⟨1, 8, false, none, false, false, true, false, none, [], [.one]⟩) ∧ (tyi Tryz.prog 93 = some ⟨1, 8, false, none, false, false, true, false, none, [], [.one]⟩) ∧ (tyi Tryz.prog 94 = some ⟨1, 8, false, none, false, false, true, false, none, [], [.one]⟩) ∧ (tyi Tryz.prog 95 = some ⟨1, 8, false, none, false, false, true, false, none, [], [.one]⟩) ∧ (tyi Tryz.prog 96 = some ⟨4, 32, true, none, false, false, false, false, none, [some (0, 1, false), some (1, 1, false), some (2, 1, false), some (3, 1, false)], [.d (.int .i64 0), .d (.int .i64 0), .d (.int .i64 0), .d (.int .i64 0)]⟩) ∧ (tyi Tryz.prog 97 = some ⟨4, 32, true, none, false, false, false, false, none, [some (0, 1, false), some (1, 1, false), some (2, 1, false), some (3, 1, false)], [.d (.int .i64 0), .d (.int .i64 0), .d (.int .i64 0), .d (.int .i64 0)]⟩) ∧ (tyi Tryz.prog 98 = some ⟨1, 8, false, none, false, false, true, false, none, [], [.one]⟩) ∧ (tyi Tryz.prog 99 = some ⟨4, 32, true, none, false, false, false, false, none, [some (0, 1, false), some (1, 1, false), some (2, 1, false), some (3, 1, false)], [.d (.int .i64 0), .d (.int .i64 0), .d (.int .i64 0), .d (.int .i64 0)]⟩) ∧ (tyi Tryz.prog 100 = some ⟨1, 8, false, none, false, false, true, false, none, [], [.one]⟩) ∧ (tyi Tryz.prog 101 = some ⟨1, 8, false, none, false, false, true, false, none, [], [.one]⟩) ∧ (tyi Tryz.prog 102 = some ⟨1, 8, false, none, false, false, true, false, none, [], [.one]⟩) ∧ (tyi Tryz.prog 103 = some ⟨1, 8, false, none, false, false, true, false, none, [], [.one]⟩) ∧ (tyi Tryz.prog 104 = some ⟨1, 8, false, none, false, false, true, false, none, [], [.one]⟩) ∧ (tyi Tryz.prog 105 = some ⟨1, 8, false, none, false, false, true, false, none, [], [.one]⟩) ∧ (tyi Tryz.prog 106 = some ⟨1, 8, false, none, false, false, true, false, none, [], [.one]⟩) ∧ (tyi Tryz.prog 107 = some ⟨1, 8, false, none, false, false, true, false, none, [], [.one]⟩) ∧ (tyi Tryz.prog 108 = some ⟨1, 8, false, none, false, false, true, false, none, [], [.one]⟩) ∧ (tyi Tryz.prog 109 = some ⟨1, 8, false, none, false, false, true, false, none, [], [.one]⟩) ∧ (tyi Tryz.prog 110 = some ⟨1, 8, false, none, false, false, true, false, none, [], [.one]⟩) ∧ (tyi Tryz.prog 111 = some ⟨1, 8, false, none, false, false, true, false, none, [], [.one]⟩) ∧ (tyi Tryz.prog 112 = some ⟨1, 8, false, none, false, false, true, false, none, [], [.one]⟩) ∧ (tyi Tryz.prog 113 = some ⟨1, 8, false, none, false, false, true, false, none, [], [.one]⟩) ∧ (tyi Tryz.prog 114 = some ⟨1, 8, false, none, false, false, true, false, none, [], [.one]⟩) ∧ (tyi Tryz.prog 115 = some ⟨1, 8, false, none, false, false, true, false, none, [], [.one]⟩) ∧ (tyi Tryz.prog 116 = some ⟨1, 8, false, none, false, false, true, false, none, [], [.one]⟩) ∧ (tyi Tryz.prog 117 = some ⟨1, 8, false, none, false, false, true, false, none, [], [.one]⟩) ∧ (tyi Tryz.prog 118 = some ⟨1, 8, false, none, false, false, true, false, none, [], [.one]⟩) ∧ (tyi Tryz.prog 119 = some ⟨1, 8, false, none, false, false, true, false, none, [], [.one]⟩) ∧ (tyi Tryz.prog 120 = some ⟨1, 8, false, none, false, false, true, false, none, [], [.one]⟩) ∧ (tyi Tryz.prog 121 = some ⟨1, 8, false, none, false, false, true, false, none, [], [.one]⟩) ∧ (tyi Tryz.prog 122 = some ⟨1, 8, false, none, false, false, true, false, none, [], [.one]⟩) ∧ (tyi Tryz.prog 123 = some ⟨1, 8, false, none, false, false, true, false, none, [], [.one]⟩) ∧ (tyi Tryz.prog 124 = some ⟨1, 8, false, none, false, false, true, false, none, [], [.one]⟩) ∧ (tyi Tryz.prog 125 = some ⟨1, 8, false, none, false, false, true, false, none, [], [.one]⟩) ∧ (tyi Tryz.prog 126 = some ⟨1, 8, false, none, false, false, true, false, none, [], [.one]⟩) ∧ (tyi Tryz.prog 127 = some ⟨1, 8, false, none, false, false, true, false, none, [], [.one]⟩) ∧ (tyi Tryz.prog 128 = some ⟨1, 8, false, none, false, false, true, false, none, [], [.one]⟩) ∧ (tyi Tryz.prog 129 = some ⟨1, 8, false, none, false, false, true, false, none, [], [.one]⟩) ∧ (tyi Tryz.prog 130 = some ⟨1, 8, false, none, false, false, true, false, none, [], [.one]⟩) ∧ (tyi Tryz.prog 131 = some ⟨1, 8, false, none, false, false, true, false, none, [], [.one]⟩) ∧ (tyi Tryz.prog 132 = some ⟨1, 8, false, none, false, false, true, false, none, [], [.one]⟩) ∧ (tyi Tryz.prog 133 = some ⟨1, 8, false, none, false, false, true, false, none, [], [.one]⟩) ∧ (tyi Tryz.prog 134 = some ⟨3, 24, true, none, false, false, false, false, none, [some (0, 1, false), some (1, 1, false), some (2, 1, false)], [.d (.int .i64 0), .d (.int .i64 0), .d (.int .i64 0)]⟩) ∧ (tyi Tryz.prog 135 = some ⟨3, 24, true, none, false, false, false, false, none, [some (0, 1, false), some (1, 1, false), some (2, 1, false)], [.d (.int .i64 0), .d (.int .i64 0), .d (.int .i64 0)]⟩) ∧ (tyi Tryz.prog 136 = some ⟨1, 8, false, none, false, false, true, false, none, [], [.one]⟩) ∧ (tyi Tryz.prog 137 = some ⟨1, 8, false, none, false, false, true, false, none, [], [.one]⟩) ∧ (tyi Tryz.prog 138 = some ⟨1, 8, false, none, false, false, true, false, none, [], [.one]⟩) ∧ (tyi Tryz.prog 139 = some ⟨1, 8, false, none, false, false, true, false, none, [], [.one]⟩) ∧ (tyi Tryz.prog 140 = some ⟨1, 8, false, none, false, false, true, false, none, [], [.one]⟩) ∧ (tyi Tryz.prog 141 = some ⟨1, 8, false, none, false, false, true, false, none, [], [.one]⟩) ∧ (tyi Tryz.prog 142 = some ⟨1, 8, false, none, false, false, true, false, none, [], [.one]⟩) ∧ (tyi Tryz.prog 143 = some ⟨1, 8, false, none, false, false, true, false, none, [], [.one]⟩) ∧ (tyi Tryz.prog 144 = some ⟨1, 8, false, none, false, false, true, false, none, [], [.one]⟩) ∧ (tyi Tryz.prog 145 = some ⟨1, 8, false, none, false, false, true, false, none, [], [.one]⟩) ∧ (tyi Tryz.prog 146 = some ⟨1, 8, false, none, false, false, true, false, none, [], [.one]⟩) ∧ (tyi Tryz.prog 147 = some ⟨1, 8, false, none, false, false, true, false, none, [], [.one]⟩) ∧ (tyi Tryz.prog 148 = some ⟨1, 8, false, none, false, false, true, false, none, [], [.one]⟩) ∧ (tyi Tryz.prog 149 = some ⟨1, 8, false, none, false, false, true, false, none, [], [.one]⟩) ∧ (tyi Tryz.prog 150 = some ⟨1, 8, false, none, false, false, true, false, none, [], [.one]⟩) ∧ (tyi Tryz.prog 151 = some ⟨1, 8, false, none, false, false, false, false, some .u64, [], [.d (.int .u64 0)]⟩) ∧ (tyi Tryz.prog 152 = some ⟨1, 8, false, none, false, false, true, false, none, [], [.one]⟩) ∧ (tyi Tryz.prog 153 = some ⟨1, 8, false, none, false, false, true, false, none, [], [.one]⟩) ∧ (tyi Tryz.prog 154 = some ⟨1, 8, false, none, false, false, true, false, none, [], [.one]⟩) ∧ (tyi Tryz.prog 155 = some ⟨1, 8, false, none, false, false, true, false, none, [], [.one]⟩) ∧ (tyi Tryz.prog 156 = some ⟨1, 8, false, none, false, false, true, false, none, [], [.one]⟩) ∧ (tyi Tryz.prog 157 = some ⟨1, 8, false, none, false, false, false, false, some .i64, [], [.d (.int .i64 0)]⟩) ∧ (tyi Tryz.prog 158 = some ⟨1, 0, false, none, false, false, true, false, none, [], [.junk]⟩) ∧ (tyi Tryz.prog 159 = some ⟨1, 8, false, none, false, false, true, false, none, [], [.one]⟩) ∧ (tyi Tryz.prog 160 = some ⟨1, 8, false, none, false, false, true, false, none, [], [.one]⟩) ∧ (tyi Tryz.prog 161 = some ⟨1, 8, false, none, false, false, true, false, none, [], [.one]⟩) ∧ (tyi Tryz.prog 162 = some ⟨1, 8, false, none, false, false, true, false, none, [], [.one]⟩) ∧ (tyi Tryz.prog 163 = some ⟨1, 8, false, none, false, false, true, false, none, [], [.one]⟩) ∧ (tyi Tryz.prog 164 = some ⟨1, 8, false, none, false, false, true, false, none, [], [.one]⟩) ∧ (tyi Tryz.prog 165 = some ⟨1, 4, false, none, false, false, false, false, some .u32, [], [.d (.int .u32 0)]⟩) ∧ (tyi Tryz.prog 166 = some ⟨1, 8, false, none, false, false, true, false, none, [], [.one]⟩) ∧ (tyi Tryz.prog 167 = some ⟨1, 8, false, none, false, false, false, false, some .u64, [], [.d (.int .u64 0)]⟩) ∧ (tyi Tryz.prog 168 = some ⟨24, 24, true, none, false, false, true, false, none, [], [.d (.int .u8 0), .d (.int .u8 0), .d (.int .u8 0), .d (.int .u8 0), .d (.int .u8 0), .d (.int .u8 0), .d (.int .u8 0), .d (.int .u8 0), .d (.int .u8 0), .d (.int .u8 0), .d (.int .u8 0), .d (.int .u8 0), .d (.int .u8 0), .d (.int .u8 0), .d (.int .u8 0), .d (.int .u8 0), .d (.int .u8 0), .d (.int .u8 0), .d (.int .u8 0), .d (.int .u8 0), .d (.int .u8 0), .d (.int .u8 0), .d (.int .u8 0), .d (.int .u8 0)]⟩) ∧ (tyi Tryz.prog 169 = some ⟨1, 8, false, none, false, false, true, false, none, [], [.one]⟩) ∧ (tyi Tryz.prog 170 = some ⟨1, 24, false, some 5, false, false, false, false, none, [], [.nilS]⟩) ∧ (tyi Tryz.prog 171 = some ⟨1, 0, false, none, false, false, true, false, none, [], [.junk]⟩) ∧ (tyi Tryz.prog 172 = some ⟨1, 8, false, none, false, false, true, false, none, [], [.one]⟩) ∧ (tyi Tryz.prog 173 = some ⟨1, 8, false, none, false, false, true, false, none, [], [.one]⟩) ∧ (tyi Tryz.prog 174 = some ⟨1, 8, false, none, false, false, true, false, none, [], [.one]⟩) ∧ (tyi Tryz.prog 175 = some ⟨1, 8, false, none, false, false, true, false, none, [], [.one]⟩) ∧ (tyi Tryz.prog 176 = some ⟨1, 0, false, none, false, false, true, false, none, [], [.junk]⟩) ∧ (tyi Tryz.prog 177 = some ⟨1, 8, false, none, false, false, true, false, none, [], [.one]⟩) ∧ (tyi Tryz.prog 178 = some ⟨1, 8, false, none, false, false, true, false, none, [], [.one]⟩) ∧ (tyi Tryz.prog 179 = some ⟨1, 8, false, none, false, false, false, false, some .u64, [], [.d (.int .u64 0)]⟩) ∧ (tyi Tryz.prog 180 = some ⟨1, 8, false, none, false, false, true, false, none, [], [.one]⟩) ∧ (tyi Tryz.prog 181 = some ⟨1, 8, false, none, false, false, true, false, none, [], [.one]⟩) ∧ (tyi Tryz.prog 182 = some ⟨1, 8, false, none, false, false, true, false, none, [], [.one]⟩) ∧ (tyi Tryz.prog 183 = some ⟨1, 8, false, none, false, false, true, true, none, [], [.one]⟩) ∧ (tyi Tryz.prog 184 = some ⟨1, 8, false, none, false, false, true, false, none, [], [.one]⟩) ∧ (tyi Tryz.prog 185 = some ⟨1, 8, false, none, false, false, true, false, none, [], [.one]⟩) ∧ (tyi Tryz.prog 186 = some ⟨20, 160, true, none, false, false, true, false, none, [], [.d (.int .u64 0), .d (.int .u64 0), .d (.int .u64 0), .d (.int .u64 0), .d (.int .u64 0), .d (.int .u64 0), .d (.int .u64 0), .d (.int .u64 0), .d (.int .u64 0), .d (.int .u64 0), .d (.int .u64 0), .d (.int .u64 0), .d (.int .u64 0), .d (.int .u64 0), .d (.int .u64 0), .d (.int .u64 0), .d (.int .u64 0), .d (.int .u64 0), .d (.int .u64 0), .d (.int .u64 0)]⟩) ∧ (tyi Tryz.prog 188 = some ⟨1, 8, false, none, false, false, true, true, none, [], [.one]⟩) ∧ (tyi Tryz.prog 189 = some ⟨1, 0, false, none, false, false, true, false, none, [], [.junk]⟩) ∧ (tyi Tryz.prog 190 = some ⟨1, 8, false, none, false, false, true, false, none, [], [.one]⟩) ∧ (tyi Tryz.prog 192 = some ⟨2, 2, true, none, false, false, false, false, none, [some (0, 1, false), some (1, 1, false)], [.d (.int .u8 0), .d (.int .u8 0)]⟩) ∧ (tyi Tryz.prog 193 = some ⟨2, 2, true, none, false, false, false, false, none, [some (0, 1, false), some (1, 1, false)], [.d (.int .u8 0), .d (.int .u8 0)]⟩) ∧ (tyi Tryz.prog 194 = some ⟨32, 32, true, none, false, false, true, false, none, [], [.d (.int .u8 0), .d (.int .u8 0), .d (.int .u8 0), .d (.int .u8 0), .d (.int .u8 0), .d (.int .u8 0), .d (.int .u8 0), .d (.int .u8 0), .d (.int .u8 0), .d (.int .u8 0), .d (.int .u8 0), .d (.int .u8 0), .d (.int .u8 0), .d (.int .u8 0), .d (.int .u8 0), .d (.int .u8 0), .d (.int .u8 0), .d (.int .u8 0), .d (.int .u8 0), .d (.int .u8 0), .d (.int .u8 0), .d (.int .u8 0), .d (.int .u8 0), .d (.int .u8 0), .d (.int .u8 0), .d (.int .u8 0), .d (.int .u8 0), .d (.int .u8 0), .d (.int .u8 0), .d (.int .u8 0), .d (.int .u8 0), .d (.int .u8 0)]⟩) ∧ (tyi Tryz.prog 195 = some ⟨1, 0, false, none, false, false, true, false, none, [], [.junk]⟩) ∧ (tyi Tryz.prog 196 = some ⟨1, 8, false, none, false, false, true, false, none, [], [.one]⟩) ∧ (tyi Tryz.prog 197 = some ⟨32, 32, true, none, false, false, true, false, none, [], [.d (.int .u8 0), .d (.int .u8 0), .d (.int .u8 0), .d (.int .u8 0), .d (.int .u8 0), .d (.int .u8 0), .d (.int .u8 0), .d (.int .u8 0), .d (.int .u8 0), .d (.int .u8 0), .d (.int .u8 0), .d (.int .u8 0), .d (.int .u8 0), .d (.int .u8 0), .d (.int .u8 0), .d (.int .u8 0), .d (.int .u8 0), .d (.int .u8 0), .d (.int .u8 0), .d (.int .u8 0), .d (.int .u8 0), .d (.int .u8 0), .d (.int .u8 0), .d (.int .u8 0), .d (.int .u8 0), .d (.int .u8 0), .d (.int .u8 0), .d (.int .u8 0), .d (.int .u8 0), .d (.int .u8 0), .d (.int .u8 0), .d (.int .u8 0)]⟩) ∧ (tyi Tryz.prog 199 = some ⟨1, 8, false, none, false, false, true, false, none, [], [.one]⟩) ∧ (tyi Tryz.prog 200 = some ⟨4, 40, true, none, false, false, false, false, none, [some (0, 1, false), some (1, 1, false), some (2, 1, false), some (3, 1, false)], [.one, .one, .one, .d (.str [])]⟩) ∧ (tyi Tryz.prog 201 = some ⟨4, 40, true, none, false, false, false, false, none, [some (0, 1, false), some (1, 1, false), some (2, 1, false), some (3, 1, false)], [.one, .one, .one, .d (.str [])]⟩) ∧ (tyi Tryz.prog 202 = some ⟨0, 0, true, none, false, false, true, false, none, [], []⟩) ∧ (tyi Tryz.prog 203 = some ⟨0, 0, true, none, false, false, false, false, none, [some (0, 0, true)], []⟩) ∧ (tyi Tryz.prog 204 = some ⟨0, 0, true, none, false, false, false, false, none, [some (0, 0, true)], []⟩) ∧ (tyi Tryz.prog 205 = some ⟨1, 8, false, none, false, false, true, false, none, [], [.one]⟩) ∧ (tyi Tryz.prog 206 = some ⟨1, 1, false, none, false, false, false, false, some .u8, [], [.d (.int .u8 0)]⟩) ∧ (tyi Tryz.prog 207 = some ⟨1, 1, false, none, false, false, false, false, some .u8, [], [.d (.int .u8 0)]⟩) ∧ (tyi Tryz.prog 208 = some ⟨1, 8, false, none, false, false, true, false, none, [], [.one]⟩) ∧ (tyi Tryz.prog 209 = some ⟨1, 8, false, none, false, false, true, true, none, [], [.one]⟩) ∧ (tyi Tryz.prog 210 = some ⟨1, 4, false, none, false, false, false, false, some .i32, [], [.d (.int .i32 0)]⟩) ∧ (tyi Tryz.prog 211 = some ⟨1, 4, false, none, false, false, false, false, some .i32, [], [.d (.int .i32 0)]⟩) ∧ (tyi Tryz.prog 212 = some ⟨11, 48, true, none, false, false, false, false, none, [some (0, 1, false), some (1, 1, false), some (2, 1, false), some (3, 1, false), some (4, 1, false), some (5, 1, false), some (6, 1, false), some (7, 1, false), some (8, 1, false), some (9, 1, false), some (10, 1, false)], [.d (.int .u64 0), .d (.int .u64 0), .d (.int .u32 0), .d (.int .u8 0), .d (.int .u8 0), .d (.int .u8 0), .d (.int .u8 0), .one, .one, .d (.int .i32 0), .d (.int .i32 0)]⟩) ∧ (tyi Tryz.prog 213 = some ⟨11, 48, true, none, false, false, false, false, none, [some (0, 1, false), some (1, 1, false), some (2, 1, false), some (3, 1, false), some (4, 1, false), some (5, 1, false), some (6, 1, false), some (7, 1, false), some (8, 1, false), some (9, 1, false), some (10, 1, false)], [.d (.int .u64 0), .d (.int .u64 0), .d (.int .u32 0), .d (.int .u8 0), .d (.int .u8 0), .d (.int .u8 0), .d (.int .u8 0), .one, .one, .d (.int .i32 0), .d (.int .i32 0)]⟩) ∧ (tyi Tryz.prog 214 = some ⟨1, 8, false, none, false, false, true, false, none, [], [.one]⟩) :=
  ⟨ty0, ty1, ty2, ty3, ty4, ty5, ty6, ty7, ty8, ty9, ty10, ty11, ty12, ty13, ty14, ty15, ty16, ty17, ty18, ty19, ty20, ty21, ty22, ty23, ty24, ty25, ty26, ty27, ty28, ty29, ty30, ty31, ty32, ty33, ty34, ty35, ty36, ty37, ty38, ty39, ty40, ty41, ty42, ty43, ty44, ty45, ty46, ty47, ty48, ty49, ty50, ty51, ty52, ty53, ty54, ty55, ty56, ty57, ty58, ty59, ty60, ty61, ty62, ty63, ty64, ty65, ty66, ty67, ty68, ty69, ty70, ty71, ty72, ty73, ty74, ty75, ty76, ty77, ty78, ty79, ty80, ty81, ty82, ty83, ty84, ty85, ty86, ty87, ty88, ty89, ty90, ty91, ty92, ty93, ty94, ty95, ty96, ty97, ty98, ty99, ty100, ty101, ty102, ty103, ty104, ty105, ty106, ty107, ty108, ty109, ty110, ty111, ty112, ty113, ty114, ty115, ty116, ty117, ty118, ty119, ty120, ty121, ty122, ty123, ty124, ty125, ty126, ty127, ty128, ty129, ty130, ty131, ty132, ty133, ty134, ty135, ty136, ty137, ty138, ty139, ty140, ty141, ty142, ty143, ty144, ty145, ty146, ty147, ty148, ty149, ty150, ty151, ty152, ty153, ty154, ty155, ty156, ty157, ty158, ty159, ty160, ty161, ty162, ty163, ty164, ty165, ty166, ty167, ty168, ty169, ty170, ty171, ty172, ty173, ty174, ty175, ty176, ty177, ty178, ty179, ty180, ty181, ty182, ty183, ty184, ty185, ty186, ty188, ty189, ty190, ty192, ty193, ty194, ty195, ty196, ty197, ty199, ty200, ty201, ty202, ty203, ty204, ty205, ty206, ty207, ty208, ty209, ty210, ty211, ty212, ty213, ty214⟩
end Go.Bee.Ty
