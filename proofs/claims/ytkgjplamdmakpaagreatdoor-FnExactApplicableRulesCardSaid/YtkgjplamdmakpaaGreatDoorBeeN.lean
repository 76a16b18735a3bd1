/-
The operations of a region, in whatever order. No condition.
-/
import Derived.Test.YtkgjplamdmakpaaGreatDoorBeeMx
namespace Go.Bee
set_option linter.unusedVariables false

def pdsOf : List PV → Option (List PD)
  | [] => some []
  | x :: xs => (x.pd).bind fun y => (pdsOf xs).map fun ys => y :: ys
theorem pdsOf_get : ∀ {l : List PV} {ys : List PD}, pdsOf l = some ys → ys.length = l.length ∧ ∀ (i : Nat) x y, l[i]? = some x → ys[i]? = some y → x.pd = some y
  | [], ys, h => by simp [pdsOf] at h; subst h; simp
  | x :: xs, ys, h => by
    simp only [pdsOf, Option.bind_eq_some_iff, Option.map_eq_some_iff] at h
    obtain ⟨y, hy, zs, hz, rfl⟩ := h
    obtain ⟨h1, h2⟩ := pdsOf_get hz
    refine ⟨by simp [h1], fun i a b ha hb => ?_⟩
    cases i with
    | zero => simp at ha hb; subst ha; subst hb; exact hy
    | succ i => simp at ha hb; exact h2 i a b ha hb
structure FnStep (fl : AF) (o : Oper) (st : St) (v : PV) (X : Operand) (xs : List Operand) (K : List PD → Option PD) (zs : List PD) (r : PD) : Prop where
  call : isValCall o X xs
  fn : st.ev X = .fn K
  args : pdsOf (xs.map st.ev) = some zs
  res : K zs = some r
  out : v = ofPD r

theorem fnStep_sound {P : Program} {F : Fr} {G : Gh} {st : St} {a : Act} {w : World} (h : Rel P F G st a w) {fl : AF} {o : Oper} {v : PV} {X : Operand} {xs : List Operand} {Kf : List PD → Option PD} {zs : List PD} {r : PD}
    (hd : ∀ d', o.dst = some d' → d' < F.nt) (hc : FnStep fl o st v X xs Kf zs r) {K : Act → World → Prop} {Q : Exit → Act → World → Prop} (hK : ∀ a' w', (∃ G', Rel P F G' (st.after fl o v (vz fl st.bx)) a' w') → K a' w') : o.wp P a w K Q := by
  obtain ⟨⟨tys, hop⟩, hfn, hargs, hres, rfl⟩ := hc
  have hX := h.ev X
  rw [hfn] at hX
  obtain ⟨f, caps, hXv, hisfn, hKK⟩ := hX
  obtain ⟨hpl, hcalls⟩ := hKK zs r hres
  obtain ⟨hzl, hzg⟩ := pdsOf_get hargs
  have hc := hcalls G.im w (Keep.refl _ _) (fun _ _ => rfl) (Nat.le_refl _) h.hp.imlt (xs.toArray.map a.eval) (by simpa using hzl.symm) (fun i x u hx hu => by
    have hil : i < xs.length := by
      have := (List.getElem?_eq_some_iff.1 hx).1
      rw [hzl] at this; simpa using this
    have hu' : u = a.eval xs[i] := by simp [hil] at hu; exact hu.symm
    subst hu'
    have hev : (xs.map st.ev)[i]? = some (st.ev xs[i]) := by rw [List.getElem?_map, List.getElem?_eq_getElem hil]; rfl
    exact pd_RepD (h.ev xs[i]) (hzg i _ x hev hx))
  have hrunX : (execOp a.eval o).run P w = .ok (.enter f (xs.toArray.map a.eval ++ caps)) w := by
    have := run_callFunc hisfn (xs.toArray.map a.eval ++ caps) w
    simp [execOp, hop, resolve, Deferred.ofValue, hXv, invoke]
    simpa using this
  unfold Oper.wp
  rw [hrunX]
  refine Calls.mono hc fun e w' hR => ?_
  obtain ⟨u, rfl, hext, hru⟩ := hR
  have hsame : (if fl.be = true then vz fl st.bx else st.bx) = st.bx := by split <;> first | (rename_i hbe; simp [vz, hbe]) | rfl
  have hg : GStep G w G w' (fun p q => p = q) := by
    refine ⟨hext.keep, fun b hl => ⟨hl, rfl⟩, rfl, fun g hg => ?_, hext.size, fun g p q hgp e => ⟨by rw [hgp, e], hext.old g (h.hp.ownlt g p hgp) (fun h => h), fun _ h => h⟩, fun o g ho hf => ⟨⟨by rw [hext.old g hf.lt (fun h => h)]; exact hf.1, hf.2⟩, .heap (hext.old g hf.lt (fun h => h))⟩⟩
    obtain ⟨h1, h2⟩ := h.sn.fz g hg
    have hs := h.sn.ext.size
    exact hext.old g (by omega) (fun h => h)
  refine hK _ _ ⟨G, ?_⟩
  unfold St.after
  rw [hsame]
  refine h.next hg (fun t _ _ i j => rfl) (fun d' _ => ofPD_rep hru) hd ⟨fun b cells hb => ?_, h.hp.live, h.hp.inj, fun g o hg => Nat.lt_of_lt_of_le (h.hp.imlt g o hg) hext.size, fun g p hg => Nat.lt_of_lt_of_le (h.hp.ownlt g p hg) hext.size, h.hp.boxim, h.hp.boxown⟩ ⟨h.sn.ext.trans hext (fun b hb => hb.elim), h.sn.own, h.sn.box, h.sn.βa, h.sn.fz, h.sn.fzm⟩
  have hl := (h.hp.live b).2 (by simp [hb])
  exact (h.hp.bx b cells hb).step hg hl (fun j => rfl) (hext.old _ (h.hp.bx b cells hb).lt (fun h => h))

/-- What an operation that is carried out comes to. -/
inductive OS1 (P : Program) (fl : AF) (o : Oper) (st : St) : PV → Bx → Prop
  | ev (v : PV) (B' : Bx) (h : ev1 P fl o st.ev (vz fl st.bx) = some (v, B')) : OS1 P fl o st v B'
  | call (v : PV) (B' : Bx) (X : Operand) (xs : List Operand) (f : Nat) (caps ys : List PV) (nm : List BN) (bi bo : List (List PV)) (h : CallStep P fl o st v B' X xs f caps ys nm bi bo) : OS1 P fl o st v B'
  | fn (v : PV) (X : Operand) (xs : List Operand) (K : List PD → Option PD) (zs : List PD) (r : PD) (h : FnStep fl o st v X xs K zs r) : OS1 P fl o st v (vz fl st.bx)
  | look (v : PV) (f : Nat) (xs : List Operand) (ys : List PV) (r : PV) (h : QStep P fl o st v f xs ys r) : OS1 P fl o st v (vz fl st.bx)
  | writes (x : PD) (f : Nat) (xs : List Operand) (h : ZStep P fl o st x f xs) : OS1 P fl o st (.d x) (vz fl st.bx)
  | boxed (m f : Nat) (xs : List Operand) (ys : List PV) (R R' : PV) (x : PD) (e sz : Nat) (l : List PD) (h : BxStep P fl o st m f xs ys R R' x e sz l) : OS1 P fl o st (.tup [R', .d x]) (Bx.set st.bx (.t m) ((flat l).map .d))
theorem os1_sound {P : Program} {F : Fr} {G : Gh} {st : St} {a : Act} {w : World} (h : Rel P F G st a w) {fl : AF} {o : Oper} {v : PV} {B' : Bx} (hd : ∀ d', o.dst = some d' → d' < F.nt)
    (hs : OS1 P fl o st v B') {K : Act → World → Prop} {Q : Exit → Act → World → Prop} (hK : ∀ a' w', (∃ G', Rel P F G' (st.after fl o v B') a' w') → K a' w') : o.wp P a w K Q := by
  cases hs with
  | ev _ _ he => exact ev1_sound h hd he hK
  | call _ _ X xs f caps ys nm bi bo hc => exact callStep_sound h hd hc hK
  | fn _ X xs K zs r hc => exact fnStep_sound h hd hc hK
  | look _ f xs ys r hc => exact qStep_sound h hd hc hK
  | writes x f xs hc => exact zStep_sound h hd hc hK
  | boxed m f xs ys R R' x e sz l hc => exact bxStep_sound h hd hc hK

/-- Is an operation carried out? -/
def gd (ops : Array Oper) (o : Oper) (st : St) : Option Bool :=
  match o.guard with
  | none => some true
  | some (j, want) => match (ops[j]?).bind (·.dst) with
    | none => none
    | some t => match st.tm t with
      | .d (.bool b) => some (b == want)
      | .und => some false
      | _ => none
inductive OS (P : Program) (ops : Array Oper) (fl : AF) (o : Oper) (st : St) : St → Prop
  | run (v : PV) (B' : Bx) (hg : gd ops o st = some true) (h : OS1 P fl o st v B') : OS P ops fl o st (st.after fl o v B')
  | skip (hg : gd ops o st = some false) : OS P ops fl o st (st.upd [] o.dst .und st.bx)
theorem gd_wanted {P : Program} {F : Fr} {G : Gh} {st : St} {a : Act} {w : World} (h : Rel P F G st a w) {ops : Array Oper} {o : Oper} {b : Bool} (hg : gd ops o st = some b) : Region.wanted o (yielded ops a.tmps) = b := by
  unfold gd at hg
  unfold Region.wanted
  split at hg
  · rename_i hn; simp only [hn]; simpa using hg
  · rename_i j want hn
    simp only [hn]
    split at hg
    · cases hg
    · rename_i t ht
      have hr := h.tm t
      unfold yielded
      rw [ht]
      simp only [Option.bind_some]
      split at hg
      · rename_i c hc
        rw [hc] at hr
        obtain ⟨hr, -⟩ := hr
        have hv : a.tmps.getD t undef = .bool c := by generalize a.tmps.getD t undef = u at hr; cases hr; rfl
        have : a.tmps[t]? = some (.bool c) := by
          rw [Array.getD_eq_getD_getElem?] at hv
          cases hx : a.tmps[t]? with
          | none => rw [hx] at hv; simp [undef] at hv
          | some u => rw [hx] at hv; simp at hv; rw [hv]
        rw [this]
        simp only [Option.some.injEq] at hg
        subst hg
        cases c <;> cases want <;> rfl
      · rename_i hc
        rw [hc] at hr
        have hv : a.tmps.getD t undef = undef := hr
        simp only [Option.some.injEq] at hg
        subst hg
        rw [Array.getD_eq_getD_getElem?] at hv
        cases hx : a.tmps[t]? with
        | none => rfl
        | some u => rw [hx] at hv; simp at hv; rw [hv]; rfl
      · cases hg
theorem os_sound {P : Program} {F : Fr} {G : Gh} {st st' : St} {a : Act} {w : World} (h : Rel P F G st a w) {ops : Array Oper} {fl : AF} {i : Nat} {o : Oper} (ho : ops[i]? = some o) (hd : ∀ d', o.dst = some d' → d' < F.nt)
    (hs : OS P ops fl o st st') {K : Act → World → Prop} {Q : Exit → Act → World → Prop} (hK : ∀ a' w', (∃ G', Rel P F G' st' a' w') → K a' w') : wpOp P ops Q i K a w := by
  unfold wpOp
  rw [ho]
  cases hs with
  | run v B' hg hs =>
    simp only [gd_wanted h hg, if_true]
    exact .inl (os1_sound h hd hs hK)
  | skip hg =>
    simp only [gd_wanted h hg, Bool.false_eq_true, if_false]
    exact hK _ _ ⟨G, h.put1 [] hd (fun loc => rfl)⟩

/-! What looks at some boxes alone. -/
def St.at (st : St) (B : Bx) : St := ⟨st.tm, B⟩
def joinB (l : List BN) (B' B : Bx) : Bx := fun b => if l.contains b = true then B' b else B b
inductive OSx (P : Program) (ops : Array Oper) (fl : AF) (inn : Option (List BN)) (o : Oper) (st st' : St) : Prop
  | all (h : inn = none) (hs : OS P ops fl o st st') : OSx P ops fl inn o st st'
  | loc (l : List BN) (h : inn = some l) (hs : ∀ B2 : Bx, (∀ b, l.contains b = true → B2 b = st.bx b) → OS P ops fl o (st.at B2) ⟨st'.tm, joinB l st'.bx B2⟩) (hout : ∀ b, l.contains b = false → st'.bx b = st.bx b) : OSx P ops fl inn o st st'
theorem OSx.os {P : Program} {ops : Array Oper} {fl : AF} {inn : Option (List BN)} {o : Oper} {st st' : St} (h : OSx P ops fl inn o st st') : OS P ops fl o st st' := by
  cases h with
  | all _ hs => exact hs
  | loc l _ hs hout =>
    have h1 := hs st.bx fun _ _ => rfl
    have e : (⟨st'.tm, joinB l st'.bx st.bx⟩ : St) = st' := by
      cases st' with
      | mk tm bx =>
        simp only [St.mk.injEq, true_and]
        funext b
        unfold joinB
        by_cases hb : l.contains b = true
        · rw [if_pos hb]
        · rw [if_neg hb]; exact (hout b (by simpa using hb)).symm
    rw [e] at h1; exact h1

/-- A run of operations, by their numbers. -/
inductive Runs (P : Program) (ops : Array Oper) (fls : Nat → AF) (inns : Nat → Option (List BN)) : List Nat → St → St → Prop
  | nil (st : St) : Runs P ops fls inns [] st st
  | cons (i : Nat) (l : List Nat) (o : Oper) (st s1 st' : St) (ho : ops[i]? = some o) (h : OSx P ops (fls i) (inns i) o st s1) (hl : Runs P ops fls inns l s1 st') : Runs P ops fls inns (i :: l) st st'

theorem runs_sound {P : Program} {F : Fr} {ops : Array Oper} {fls : Nat → AF} {inns : Nat → Option (List BN)} {Q : Exit → Act → World → Prop} (hd : ∀ (i : Nat) o, ops[i]? = some o → ∀ d', o.dst = some d' → d' < F.nt) {l : List Nat} {st sF : St} (hr : Runs P ops fls inns l st sF) :
    ∀ {G : Gh} {a : Act} {w : World}, Rel P F G st a w → (∀ a' w', (∃ G', Rel P F G' sF a' w') → Q .normal a' w') → wpOps P ops Q l a w := by
  induction hr with
  | nil st => intro G a w h hQ; exact hQ a w ⟨G, h⟩
  | cons i l o st s1 st' ho hs hl ih =>
    intro G a w h hQ
    rw [wpOps_cons]
    exact os_sound h ho (hd i o ho) hs.os fun a' w' ⟨G', h'⟩ => ih h' hQ

/-! Two operations that have nothing to do with one another may change places. -/
def touched (ops : Array Oper) (o : Oper) : List Nat := o.dst.toList ++ o.looksAt ops
def written (fl : AF) (o : Oper) : List Nat := o.dst.toList ++ stripsOf fl o
def apart : Option (List BN) → Option (List BN) → Bool
  | some l, some m => l.all fun b => !m.contains b
  | _, _ => false
def inAll (inn : Option (List BN)) (b : BN) : Bool := match inn with
  | none => true
  | some l => l.contains b
def indep (ops : Array Oper) (f1 f2 : AF) (i1 i2 : Option (List BN)) (x y : Oper) : Bool :=
  ((written f1 x).all fun t => !(touched ops y).contains t) && ((written f2 y).all fun t => !(touched ops x).contains t) && (apart i1 i2 || (!(f1.be && (f2.bt || f2.be)) && !(f2.be && (f1.bt || f1.be))))

theorem looks_tmps {ops : Array Oper} {o : Oper} {t : Nat} (h : Operand.tmp t ∈ o.op.operands) : t ∈ touched ops o := by
  unfold touched Oper.looksAt
  simp only [List.mem_append, List.mem_filterMap]
  exact .inr (.inl ⟨.tmp t, by simpa using h, rfl⟩)
theorem ev_congr {st σ : St} {ops : Array Oper} {o : Oper} (h : ∀ t, t ∈ touched ops o → σ.tm t = st.tm t) : ∀ x, x ∈ o.op.operands → σ.ev x = st.ev x := by
  intro x hx
  cases x with
  | tmp t => exact h t (looks_tmps hx)
  | const v => rfl
  | global g => rfl
  | func f => rfl
theorem ev1_congr {P : Program} {fl : AF} {o : Oper} {ρ ρ' : Operand → PV} {B : Bx} (h : ∀ x, x ∈ o.op.operands → ρ' x = ρ x) : ev1 P fl o ρ' B = ev1 P fl o ρ B := by
  unfold ev1
  cases hop : o.op <;> simp only [hop, Op.operands, Call.operands] at h <;> try rfl
  case move x => simp [h x (by simp)]
  case assign x => simp [h x (by simp)]
  case pick c a b => simp [h c (by simp), h a (by simp), h b (by simp)]
  case box t x => simp [h x (by simp)]
  case build t parts =>
    have : parts.toList.map (fun p => (p.1, ρ' p.2)) = parts.toList.map (fun p => (p.1, ρ p.2)) := by
      apply List.map_congr_left
      intro p hp
      rw [h p.2 (by simp only [List.mem_toArray, List.mem_map]; exact ⟨p, hp, rfl⟩)]
    simp [this]
  case buildSlice t len parts =>
    have : parts.toList.map (fun p => (p.1, ρ' p.2)) = parts.toList.map (fun p => (p.1, ρ p.2)) := by
      apply List.map_congr_left
      intro p hp
      rw [h p.2 (by simp only [List.mem_toArray, List.mem_map]; exact ⟨p, hp, rfl⟩)]
    simp [this]
  case load t x => simp [h x (by simp)]
  case store t x y => simp [h x (by simp), h y (by simp)]
  case nilCheck x => simp [h x (by simp)]
  case binOp op t x y yt => simp [h x (by simp), h y (by simp)]
  case unOp op t x => simp [h x (by simp)]
  case convert s t x => simp [h x (by simp)]
  case makeFunc fn first caps =>
    have e1 : caps.toList.map (fun c => (ρ' c).bC) = caps.toList.map (fun c => (ρ c).bC) := by
      apply List.map_congr_left
      intro c hc
      rw [h c (by simp; exact .inr (by simpa using hc))]
    have e2 : caps.toList.all (fun c => ((ρ' c).bC).isAt) = caps.toList.all (fun c => ((ρ c).bC).isAt) := by
      rw [Bool.eq_iff_iff, List.all_eq_true, List.all_eq_true]
      constructor <;> intro hh c hc
      · have := hh c hc; rwa [h c (by simp; exact .inr (by simpa using hc))] at this
      · have := hh c hc; rwa [← h c (by simp; exact .inr (by simpa using hc))] at this
    cases fn <;> simp only [] <;> rw [e1, e2]
  case slice t x lo hi mx =>
    have e1 : lo.map ρ' = lo.map ρ := by cases lo with | none => rfl | some q => simp [h q (by simp)]
    have e2 : hi.map ρ' = hi.map ρ := by cases hi with | none => rfl | some q => simp [h q (by simp)]
    simp only [h x (by simp), e1, e2]
  case fieldAddr t x f => simp [h x (by simp)]
  case field t x f => simp [h x (by simp)]
  case indexAddr t x i => simp [h x (by simp), h i (by simp)]
  case index t x i => simp [h x (by simp), h i (by simp)]
  case makeSlice t lo hi => simp [h lo (by simp), h hi (by simp)]
  case extract x i => simp [h x (by simp)]
  case call c =>
    simp only
    split
    · rename_i x t hc ha ht
      have : x ∈ c.args := by have : x ∈ c.args.toList := by rw [ha]; simp
                              simpa using this
      rw [h x (by simp [hc, this])]
    · rename_i s x t t' hc ha ht
      have h1 : s ∈ c.args := by have : s ∈ c.args.toList := by rw [ha]; simp
                                 simpa using this
      have h2 : x ∈ c.args := by have : x ∈ c.args.toList := by rw [ha]; simp
                                 simpa using this
      rw [h s (by simp [hc, h1]), h x (by simp [hc, h2])]
    · rename_i s x t t' hc ha ht
      have h1 : s ∈ c.args := by have : s ∈ c.args.toList := by rw [ha]; simp
                                 simpa using this
      have h2 : x ∈ c.args := by have : x ∈ c.args.toList := by rw [ha]; simp
                                 simpa using this
      rw [h s (by simp [hc, h1]), h x (by simp [hc, h2])]
    · rename_i s x t t' hc ha ht
      have h1 : s ∈ c.args := by have : s ∈ c.args.toList := by rw [ha]; simp
                                 simpa using this
      have h2 : x ∈ c.args := by have : x ∈ c.args.toList := by rw [ha]; simp
                                 simpa using this
      rw [h s (by simp [hc, h1]), h x (by simp [hc, h2])]
    · rfl

end Go.Bee
