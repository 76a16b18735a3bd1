/-
A region whose order is drawn. No condition.
-/
import Derived.Test.YtkgjplamdmakpaaGreatDoorBeeN
namespace Go.Bee
set_option linter.unusedVariables false

theorem gd_congr {ops : Array Oper} {o : Oper} {st σ : St} (h : ∀ t, t ∈ touched ops o → σ.tm t = st.tm t) : gd ops o σ = gd ops o st := by
  unfold gd
  cases hgd : o.guard with
  | none => rfl
  | some g =>
    obtain ⟨j, want⟩ := g
    simp only
    cases ht : (ops[j]?).bind (·.dst) with
    | none => rfl
    | some t =>
      simp only
      have : t ∈ touched ops o := by
        unfold touched Oper.looksAt
        simp [hgd, ht]
      rw [h t this]

def St.mix (σ st' : St) (ws : List Nat) (be : Bool) : St := ⟨fun t => if t ∈ ws then st'.tm t else σ.tm t, if be = true then st'.bx else σ.bx⟩
theorem vz_congr {fl : AF} {st σ : St} (h : (fl.bt = true ∨ fl.be = true) → σ.bx = st.bx) : vz fl σ.bx = vz fl st.bx := by
  unfold vz
  split
  · rename_i hc; rw [h hc]
  · rfl
theorem strips_touched {ops : Array Oper} {fl : AF} {o : Oper} {t : Nat} (h : t ∈ stripsOf fl o) : t ∈ touched ops o := by
  unfold stripsOf at h
  split at h
  · exact looks_tmps (by simpa using mem_tmpsOf.1 h)
  · simp at h
theorem after_mix {ops : Array Oper} {fl : AF} {o : Oper} {st σ : St} {v : PV} {B' : Bx} (h : ∀ t, t ∈ touched ops o → σ.tm t = st.tm t) : σ.after fl o v B' = σ.mix (st.after fl o v B') (written fl o) fl.be := by
  unfold St.after St.mix St.upd
  congr 1
  · funext t
    simp only [written, List.mem_append]
    by_cases h1 : some t = o.dst
    · have : t ∈ o.dst.toList := by rw [← h1]; simp
      simp [h1, this]
    · have hn : t ∉ o.dst.toList := by intro hm; apply h1; simpa using (Option.mem_toList.1 hm).symm
      by_cases h2 : t ∈ stripsOf fl o
      · simp [h1, h2, h t (strips_touched h2)]
      · simp [h1, h2, hn]
  · by_cases hb : fl.be = true <;> simp [hb]
theorem callF_ev {ops : Array Oper} {o : Oper} {st σ : St} (h : ∀ t, t ∈ touched ops o → σ.tm t = st.tm t) {f : Nat} {xs : List Operand} (hc : isValCall o (.func f) xs) : xs.map σ.ev = xs.map st.ev :=
  List.map_congr_left fun x hx => by
    apply ev_congr h
    obtain ⟨ts, hop⟩ := hc
    rw [hop]
    simp only [Op.operands, Call.operands, Array.mem_append, List.mem_toArray]
    right; exact hx
theorem OS.frame {P : Program} {ops : Array Oper} {fl : AF} {o : Oper} {st st' σ : St} (hs : OS P ops fl o st st') (h : ∀ t, t ∈ touched ops o → σ.tm t = st.tm t) (hb : (fl.bt = true ∨ fl.be = true) → σ.bx = st.bx) :
    OS P ops fl o σ (σ.mix st' (written fl o) fl.be) := by
  have hgd := gd_congr h
  cases hs with
  | run v B' hg hs =>
    rw [← after_mix h]
    refine .run v B' (by rw [hgd]; exact hg) ?_
    have hvz := vz_congr hb
    cases hs with
    | ev _ _ he => exact .ev _ _ (by rw [hvz, ev1_congr (ev_congr h)]; exact he)
    | call _ _ X xs f caps ys nm bi bo hc =>
      have hX : ∀ x, x = X ∨ x ∈ xs → σ.ev x = st.ev x := by
        intro x hx
        apply ev_congr h
        obtain ⟨ts, hop⟩ := hc.call
        rw [hop]
        simp only [Op.operands, Call.operands, Array.mem_append, List.mem_toArray]
        rcases hx with rfl | hx
        · left; simp
        · right; exact hx
      have hmap : xs.map σ.ev = xs.map st.ev := List.map_congr_left fun x hx => hX x (.inr hx)
      exact .call _ _ X xs f caps ys nm bi bo ⟨hc.call, by rw [hX X (.inl rfl)]; exact hc.clo, hc.len, by rw [hmap, hvz]; exact hc.pass, hc.nodup, hc.names, hc.bl, by rw [hvz]; exact hc.bin, hc.bip, hc.bop, hc.gives, hc.ret, hc.be, by rw [hvz]; exact hc.out⟩
    | fn _ X xs K zs r hc =>
      have hX : ∀ x, x = X ∨ x ∈ xs → σ.ev x = st.ev x := by
        intro x hx
        apply ev_congr h
        obtain ⟨ts, hop⟩ := hc.call
        rw [hop]
        simp only [Op.operands, Call.operands, Array.mem_append, List.mem_toArray]
        rcases hx with rfl | hx
        · left; simp
        · right; exact hx
      have hmap : xs.map σ.ev = xs.map st.ev := List.map_congr_left fun x hx => hX x (.inr hx)
      rw [← hvz]
      exact .fn v X xs K zs r ⟨hc.call, by rw [hX X (.inl rfl)]; exact hc.fn, by rw [hmap]; exact hc.args, hc.res, hc.out⟩
    | look _ f xs ys r hc =>
      have hmap : xs.map σ.ev = xs.map st.ev := callF_ev h hc.call
      rw [← hvz]
      exact .look v f xs ys r ⟨hc.call, by rw [hmap, hvz]; exact hc.pass, hc.ret, hc.take⟩
    | writes x f xs hc =>
      have hmap : xs.map σ.ev = xs.map st.ev := callF_ev h hc.call
      rw [← hvz]
      refine .writes x f xs ⟨hc.call, fun y hy => ?_, by rw [hmap]; exact hc.ret, hc.plain⟩
      have : σ.ev y = st.ev y := List.map_inj_left.1 hmap y hy
      rw [this]; exact hc.pass y hy
    | boxed m f xs ys R R' x e sz l hc =>
      have hmap : xs.map σ.ev = xs.map st.ev := callF_ev h hc.call
      have hbx := hb (.inr hc.be)
      rw [← hbx]
      exact .boxed m f xs ys R R' x e sz l ⟨hc.call, by rw [hmap, hvz]; exact hc.pass, hc.ret, hc.shape, hc.plain, hc.ne, hc.flat, hc.be, by rw [hbx]; exact hc.free⟩
  | skip hg =>
    have : σ.mix (st.upd [] o.dst .und st.bx) (written fl o) fl.be = σ.upd [] o.dst .und σ.bx ∨ True := .inr trivial
    have e : (σ.upd [] o.dst .und σ.bx) = σ.mix (st.upd [] o.dst .und st.bx) (written fl o) fl.be := by
      unfold St.mix St.upd
      congr 1
      · funext t
        simp only [written, List.mem_append]
        by_cases h1 : some t = o.dst
        · have : t ∈ o.dst.toList := by rw [← h1]; simp
          simp [h1, this]
        · have hn : t ∉ o.dst.toList := by intro hm; apply h1; simpa using (Option.mem_toList.1 hm).symm
          by_cases h2 : t ∈ stripsOf fl o
          · simp [h1, h2, h t (strips_touched h2)]
          · simp [h1, h2, hn]
      · by_cases hbe : fl.be = true
        · simp [hbe, hb (.inr hbe)]
        · simp [hbe]
    rw [← e]
    exact .skip (by rw [hgd]; exact hg)
theorem OS.outside {P : Program} {ops : Array Oper} {fl : AF} {o : Oper} {st st' : St} (hs : OS P ops fl o st st') : (∀ t, t ∉ written fl o → st'.tm t = st.tm t) ∧ (fl.be = false → st'.bx = st.bx) := by
  cases hs with
  | run v B' hg hs =>
    refine ⟨fun t ht => ?_, fun hbe => by simp [St.after, St.upd, hbe]⟩
    simp only [written, List.mem_append, not_or] at ht
    have h1 : ¬ some t = o.dst := by intro e; apply ht.1; rw [← e]; simp
    simp [St.after, St.upd, h1, ht.2]
  | skip hg =>
    refine ⟨fun t ht => ?_, fun _ => rfl⟩
    simp only [written, List.mem_append, not_or] at ht
    have h1 : ¬ some t = o.dst := by intro e; apply ht.1; rw [← e]; simp
    simp [St.upd, h1]

/-! The same, of what looks at some boxes alone. -/
def rdB (fl : AF) (inn : Option (List BN)) (b : BN) : Prop := (fl.bt = true ∨ fl.be = true) ∧ inAll inn b = true
def wrB (fl : AF) (inn : Option (List BN)) (b : BN) : Bool := fl.be && inAll inn b
def St.mixx (σ st' : St) (ws : List Nat) (wr : BN → Bool) : St := ⟨fun t => if t ∈ ws then st'.tm t else σ.tm t, fun b => if wr b = true then st'.bx b else σ.bx b⟩
theorem OSx.frame {P : Program} {ops : Array Oper} {fl : AF} {inn : Option (List BN)} {o : Oper} {st st' σ : St} (hs : OSx P ops fl inn o st st') (h : ∀ t, t ∈ touched ops o → σ.tm t = st.tm t) (hb : ∀ b, rdB fl inn b → σ.bx b = st.bx b) :
    OSx P ops fl inn o σ (σ.mixx st' (written fl o) (wrB fl inn)) := by
  cases hs with
  | all he hs =>
    subst he
    refine .all rfl ?_
    have h1 := hs.frame h fun hc => funext fun b => hb b ⟨hc, rfl⟩
    have e : σ.mixx st' (written fl o) (wrB fl none) = σ.mix st' (written fl o) fl.be := by
      unfold St.mixx St.mix wrB
      congr 1
      funext b
      by_cases hbe : fl.be = true <;> simp [hbe, inAll]
    rw [e]; exact h1
  | loc l he hs hout =>
    subst he
    refine .loc l rfl (fun B2 hB => ?_) fun b hbl => ?_
    · by_cases hc : fl.bt = true ∨ fl.be = true
      · have h1 := hs B2 fun b hbl => (hB b hbl).trans (hb b ⟨hc, hbl⟩)
        have h2 := h1.frame (σ := σ.at B2) h fun _ => rfl
        have e : (σ.at B2).mix ⟨st'.tm, joinB l st'.bx B2⟩ (written fl o) fl.be = ⟨(σ.mixx st' (written fl o) (wrB fl (some l))).tm, joinB l (σ.mixx st' (written fl o) (wrB fl (some l))).bx B2⟩ := by
          unfold St.mixx St.mix wrB St.at joinB inAll
          simp only [St.mk.injEq, true_and]
          funext b
          by_cases hbe : fl.be = true
          · by_cases hbl : l.contains b = true <;> simp only [hbe, hbl, if_true, Bool.true_and, Bool.false_eq_true, if_false]
          · by_cases hbl : l.contains b = true
            · simp only [hbe, hbl, if_true, Bool.false_eq_true, if_false, Bool.false_and]; exact hB b hbl
            · simp only [hbe, hbl, Bool.false_eq_true, if_false]
        rw [e] at h2; exact h2
      · have hbe : fl.be = false := by
          cases hx : fl.be with
          | false => rfl
          | true => exact absurd (.inr hx) hc
        have h1 := hs st.bx fun _ _ => rfl
        have h2 := h1.frame (σ := σ.at B2) h fun hc' => absurd hc' hc
        have e : (σ.at B2).mix ⟨st'.tm, joinB l st'.bx st.bx⟩ (written fl o) fl.be = ⟨(σ.mixx st' (written fl o) (wrB fl (some l))).tm, joinB l (σ.mixx st' (written fl o) (wrB fl (some l))).bx B2⟩ := by
          unfold St.mixx St.mix wrB St.at joinB inAll
          simp only [St.mk.injEq, true_and]
          funext b
          by_cases hbl : l.contains b = true
          · simp only [hbe, hbl, if_true, Bool.false_eq_true, if_false, Bool.false_and]; exact hB b hbl
          · simp only [hbe, hbl, Bool.false_eq_true, if_false]
        rw [e] at h2; exact h2
    · show (if wrB fl (some l) b = true then st'.bx b else σ.bx b) = σ.bx b
      have : wrB fl (some l) b = false := by simp only [wrB, inAll, hbl, Bool.and_false]
      rw [this]; rfl
theorem OSx.outside {P : Program} {ops : Array Oper} {fl : AF} {inn : Option (List BN)} {o : Oper} {st st' : St} (hs : OSx P ops fl inn o st st') : (∀ t, t ∉ written fl o → st'.tm t = st.tm t) ∧ ∀ b, wrB fl inn b = false → st'.bx b = st.bx b := by
  refine ⟨hs.os.outside.1, fun b hb => ?_⟩
  cases hbe : fl.be with
  | false => rw [hs.os.outside.2 hbe]
  | true =>
    cases hs with
    | all he hs => subst he; simp [wrB, inAll, hbe] at hb
    | loc l he hs hout => subst he; simp only [wrB, inAll, hbe, Bool.true_and] at hb; exact hout b hb
theorem wr_rd {fl : AF} {inn : Option (List BN)} {b : BN} (h : wrB fl inn b = true) : rdB fl inn b := by
  simp only [wrB, Bool.and_eq_true] at h
  exact ⟨.inr h.1, h.2⟩
theorem apart_not {i1 i2 : Option (List BN)} (h : apart i1 i2 = true) {b : BN} (h1 : inAll i1 b = true) : inAll i2 b = false := by
  cases i1 with
  | none => simp [apart] at h
  | some l =>
    cases i2 with
    | none => simp [apart] at h
    | some m =>
      simp only [apart, List.all_eq_true] at h
      have := h b (by simpa [inAll] using h1)
      simpa [inAll] using this
theorem OSx.swap {P : Program} {ops : Array Oper} {f1 f2 : AF} {n1 n2 : Option (List BN)} {x y : Oper} {st s1 s2 : St} (hi : indep ops f1 f2 n1 n2 x y = true) (h1 : OSx P ops f1 n1 x st s1) (h2 : OSx P ops f2 n2 y s1 s2) : ∃ s1', OSx P ops f2 n2 y st s1' ∧ OSx P ops f1 n1 x s1' s2 := by
  unfold indep at hi
  simp only [Bool.and_eq_true, Bool.or_eq_true, Bool.not_eq_true', List.all_eq_true, Bool.and_eq_false_iff, Bool.or_eq_false_iff] at hi
  obtain ⟨⟨i1, i2⟩, i3⟩ := hi
  have w1 : ∀ t, t ∈ written f1 x → t ∉ touched ops y := fun t ht hc => by have := i1 t ht; simp [hc] at this
  have w2 : ∀ t, t ∈ written f2 y → t ∉ touched ops x := fun t ht hc => by have := i2 t ht; simp [hc] at this
  have wt2 : ∀ t, t ∈ written f2 y → t ∈ touched ops y := by
    intro t ht
    simp only [written, List.mem_append] at ht
    rcases ht with ht | ht
    · simp [touched, ht]
    · exact strips_touched ht
  have hA : ∀ b, wrB f1 n1 b = true → ¬ rdB f2 n2 b := by
    intro b hb ⟨hr1, hr2⟩
    simp only [wrB, Bool.and_eq_true] at hb
    rcases i3 with h | ⟨h, -⟩
    · rw [apart_not h hb.2] at hr2; cases hr2
    · rcases h with h | ⟨h, h'⟩
      · rw [h] at hb; cases hb.1
      · rcases hr1 with hc | hc
        · rw [h] at hc; cases hc
        · rw [h'] at hc; cases hc
  have hB : ∀ b, wrB f2 n2 b = true → ¬ rdB f1 n1 b := by
    intro b hb ⟨hr1, hr2⟩
    simp only [wrB, Bool.and_eq_true] at hb
    rcases i3 with h | ⟨-, h⟩
    · rw [apart_not h hr2] at hb; cases hb.2
    · rcases h with h | ⟨h, h'⟩
      · rw [h] at hb; cases hb.1
      · rcases hr1 with hc | hc
        · rw [h] at hc; cases hc
        · rw [h'] at hc; cases hc
  obtain ⟨o1, o2⟩ := h1.outside
  obtain ⟨q1, q2⟩ := h2.outside
  have hf : ∀ {b : Bool}, ¬ b = true → b = false := fun h => by simpa using h
  have e1 := h2.frame (σ := st) (fun t ht => (o1 t (fun hw => w1 t hw ht)).symm) (fun b hb => (o2 b (hf fun hw => hA b hw hb)).symm)
  generalize hs1' : st.mixx s2 (written f2 y) (wrB f2 n2) = s1' at e1
  refine ⟨s1', e1, ?_⟩
  have e2 := h1.frame (σ := s1') (fun t ht => by
    have : t ∉ written f2 y := fun hw => w2 t hw ht
    rw [← hs1']; simp [St.mixx, this]) (fun b hb => by
      rw [← hs1']
      have : wrB f2 n2 b = false := hf fun hw => hB b hw hb
      simp [St.mixx, this])
  have e3 : s1'.mixx s1 (written f1 x) (wrB f1 n1) = s2 := by
    rw [← hs1']
    cases s2 with
    | mk tm2 bx2 =>
      unfold St.mixx
      simp only [St.mk.injEq]
      refine ⟨?_, ?_⟩
      · funext t
        by_cases ht1 : t ∈ written f1 x
        · have hn : t ∉ written f2 y := fun hw => w1 t ht1 (wt2 t hw)
          simp only [ht1, if_true]
          exact (q1 t hn).symm
        · by_cases ht2 : t ∈ written f2 y
          · simp [ht1, ht2]
          · simp only [ht1, ht2, if_false]
            rw [← o1 t ht1]; exact (q1 t ht2).symm
      · funext b
        by_cases hb : wrB f1 n1 b = true
        · have : wrB f2 n2 b = false := hf fun hw => hA b hb (wr_rd hw)
          simp only [hb, if_true]
          exact (q2 b this).symm
        · by_cases hb2 : wrB f2 n2 b = true
          · simp [hb, hb2]
          · simp only [hb, hb2, if_false, Bool.false_eq_true]
            rw [← o2 b (hf hb)]; exact (q2 b (hf hb2)).symm
  rw [← e3]
  exact e2

def edgesOk (ops : Array Oper) : Bool := (List.range ops.size).all fun i => match ops[i]? with
  | some o => o.after.all fun e => !Region.binds .any e || decide (e.on < i)
  | none => true
/-- Does one operation wait for the other, by others between? -/
def reachB (ops : Array Oper) : Nat → Nat → Nat → Bool
  | 0, _, _ => false
  | n + 1, i, j => match ops[i]? with
    | some o => o.after.any fun e => Region.binds .any e && (e.on == j || reachB ops n e.on j)
    | none => false
def Closed (ops : Array Oper) (listed : Array Bool) : Prop := ∀ (i : Nat) o, listed[i]? = some true → ops[i]? = some o → ∀ e ∈ o.after, Region.binds .any e = true → listed[e.on]? = some true
theorem reach_listed {ops : Array Oper} {listed : Array Bool} (hc : Closed ops listed) : ∀ (n i j : Nat), (∀ o, ops[i]? = some o → ∀ e ∈ o.after, Region.binds .any e = true → listed[e.on]? = some true) → reachB ops n i j = true → listed[j]? = some true
  | 0, i, j, _, h => by simp [reachB] at h
  | n + 1, i, j, hi, h => by
    unfold reachB at h
    cases ho : ops[i]? with
    | none => rw [ho] at h; cases h
    | some o =>
      rw [ho] at h
      simp only [Array.any_eq_true'] at h
      obtain ⟨e, he, hb⟩ := h
      simp only [Bool.and_eq_true, Bool.or_eq_true, beq_iff_eq] at hb
      have h1 := hi o ho e he hb.1
      rcases hb.2 with rfl | h2
      · exact h1
      · exact reach_listed hc n e.on j (fun o' ho' => hc e.on o' h1 ho') h2
def regOk (ops : Array Oper) (fls : Nat → AF) (inns : Nat → Option (List BN)) : Bool := edgesOk ops && (List.range ops.size).all fun i => (List.range i).all fun j => match ops[i]?, ops[j]? with
  | some oi, some oj => reachB ops 3 i j || indep ops (fls j) (fls i) (inns j) (inns i) oj oi
  | _, _ => true

theorem runs_bubble {P : Program} {ops : Array Oper} {fls : Nat → AF} {inns : Nat → Option (List BN)} {i : Nat} {oi : Oper} (hoi : ops[i]? = some oi) : ∀ (pre post : List Nat) (st sF : St), (∀ j ∈ pre, ∀ oj, ops[j]? = some oj → indep ops (fls j) (fls i) (inns j) (inns i) oj oi = true) →
    Runs P ops fls inns (pre ++ i :: post) st sF → ∃ s1, OSx P ops (fls i) (inns i) oi st s1 ∧ Runs P ops fls inns (pre ++ post) s1 sF
  | [], post, st, sF, _, h => by
    cases h with
    | cons _ _ o _ s1 _ ho hs hl => rw [hoi] at ho; cases ho; exact ⟨s1, hs, hl⟩
  | j :: pre, post, st, sF, hin, h => by
    cases h with
    | cons _ _ oj _ s1 _ hoj hs hl =>
      obtain ⟨s2, hs2, hl2⟩ := runs_bubble hoi pre post s1 sF (fun k hk => hin k (List.mem_cons_of_mem _ hk)) hl
      obtain ⟨s1', h1, h2⟩ := OSx.swap (hin j (List.mem_cons_self ..) oj hoj) hs hs2
      exact ⟨s1', h1, .cons j _ oj _ _ _ hoj h2 hl2⟩

def remaining (ops : Array Oper) (listed : Array Bool) : List Nat := (List.range ops.size).filter fun i => !listed.getD i true

theorem remaining_split {ops : Array Oper} {listed : Array Bool} {i : Nat} (hi : i < ops.size) (hl : listed.getD i true = false) (hsz : listed.size = ops.size) :
    ∃ pre post, remaining ops listed = pre ++ i :: post ∧ remaining ops (listed.setIfInBounds i true) = pre ++ post ∧ ∀ j ∈ pre, j < i ∧ listed.getD j true = false := by
  have hr : List.range ops.size = List.range i ++ i :: (List.range (ops.size - i - 1)).map (· + (i + 1)) := by
    apply List.ext_getElem?
    intro k
    by_cases h1 : k < i
    · rw [List.getElem?_append_left (by simpa using h1), List.getElem?_range (by omega), List.getElem?_range h1]
    · rw [List.getElem?_append_right (by simpa using h1), List.length_range]
      by_cases h2 : k = i
      · subst h2; simp [hi]
      · have : k - i = (k - i - 1) + 1 := by omega
        rw [this, List.getElem?_cons_succ, List.getElem?_map]
        by_cases h3 : k < ops.size
        · rw [List.getElem?_range h3, List.getElem?_range (by omega)]
          simp; omega
        · rw [List.getElem?_eq_none (by simpa using h3), List.getElem?_eq_none (by simp; omega)]
          rfl
  have hset : ∀ j, j ≠ i → (listed.setIfInBounds i true).getD j true = listed.getD j true := fun j hj => getD_set_ne true (Ne.symm hj)
  have hseti : (listed.setIfInBounds i true).getD i true = true := by simp [hsz, hi]
  refine ⟨(List.range i).filter fun j => !listed.getD j true, ((List.range (ops.size - i - 1)).map (· + (i + 1))).filter fun j => !listed.getD j true, ?_, ?_, ?_⟩
  · unfold remaining
    rw [hr, List.filter_append, List.filter_cons]
    simp only [hl, Bool.not_false, if_true]
  · unfold remaining
    rw [hr, List.filter_append, List.filter_cons]
    simp only [hseti, Bool.not_true, Bool.false_eq_true, if_false]
    congr 1
    · apply List.filter_congr
      intro j hj
      rw [hset j (by have := List.mem_range.1 hj; omega)]
    · apply List.filter_congr
      intro j hj
      obtain ⟨k, _, rfl⟩ := List.mem_map.1 hj
      rw [hset _ (by omega)]
  · intro j hj
    obtain ⟨h1, h2⟩ := List.mem_filter.1 hj
    exact ⟨List.mem_range.1 h1, by simpa using h2⟩

theorem getD_true {l : Array Bool} {k : Nat} (h : l.getD k false = true) : l[k]? = some true := by
  rw [Array.getD_eq_getD_getElem?] at h
  cases hk : l[k]? with
  | none => rw [hk] at h; cases h
  | some b => rw [hk] at h; simp at h; rw [h]
theorem closed_set {ops : Array Oper} {listed : Array Bool} {i : Nat} {oi : Oper} (hc : Closed ops listed) (hoi : ops[i]? = some oi) (hi : ∀ e ∈ oi.after, Region.binds .any e = true → listed[e.on]? = some true) : Closed ops (listed.setIfInBounds i true) := by
  have hup : ∀ k : Nat, listed[k]? = some true → (listed.setIfInBounds i true)[k]? = some true := by
    intro k hk
    rw [Array.getElem?_setIfInBounds]
    split
    · rename_i e
      subst e
      have := (Array.getElem?_eq_some_iff.1 hk).1
      rw [if_pos this]
    · exact hk
  intro k o hk ho e he hb
  apply hup
  by_cases hik : i = k
  · subst hik
    rw [hoi] at ho; cases ho
    exact hi e he hb
  · rw [Array.getElem?_setIfInBounds, if_neg hik] at hk
    exact hc k o hk ho e he hb
theorem any_sound {P : Program} {F : Fr} {ops : Array Oper} {fls : Nat → AF} {inns : Nat → Option (List BN)} {Q : Exit → Act → World → Prop} (hd : ∀ (i : Nat) o, ops[i]? = some o → ∀ d', o.dst = some d' → d' < F.nt) (hok : regOk ops fls inns = true) {sF : St}
    (hQ : ∀ a' w', (∃ G', Rel P F G' sF a' w') → Q .normal a' w') : ∀ (fuel : Nat) (listed : Array Bool) (st : St) (G : Gh) (a : Act) (w : World), listed.size = ops.size → Closed ops listed → Rel P F G st a w → Runs P ops fls inns (remaining ops listed) st sF → (remaining ops listed).length ≤ fuel →
    wpAny P .any ops Q fuel listed a w := by
  unfold regOk edgesOk at hok
  simp only [Bool.and_eq_true, List.all_eq_true, List.mem_range] at hok
  obtain ⟨hedge, hind⟩ := hok
  -- where nothing may come up, nothing is left
  have hnone : ∀ listed : Array Bool, listed.size = ops.size → Region.ready .any ops listed = [] → remaining ops listed = [] := by
    intro listed hsz hr
    apply Classical.byContradiction
    intro hne
    obtain ⟨m, rest, hm⟩ := List.exists_cons_of_ne_nil hne
    have hm1 : m ∈ remaining ops listed := by rw [hm]; simp
    obtain ⟨hm2, hm3⟩ := List.mem_filter.1 hm1
    have hmlt := List.mem_range.1 hm2
    have hmin : ∀ j, j < m → listed.getD j true = true := by
      intro j hj
      apply Classical.byContradiction
      intro hc
      have hc' : listed.getD j true = false := by simpa using hc
      have hjm : j ∈ remaining ops listed := List.mem_filter.2 ⟨List.mem_range.2 (by omega), by simp [hc']⟩
      rw [hm] at hjm
      have hsorted : (remaining ops listed).Pairwise (· < ·) := List.Pairwise.filter _ List.pairwise_lt_range
      rw [hm] at hsorted
      rcases List.mem_cons.1 hjm with rfl | hjr
      · omega
      · have := (List.pairwise_cons.1 hsorted).1 j hjr; omega
    have : m ∈ Region.ready .any ops listed := by
      rw [mem_ready]
      refine ⟨by simpa using hm3, ops[m], Array.getElem?_eq_getElem hmlt, fun e he hb => ?_⟩
      have h1 := hedge m hmlt
      rw [Array.getElem?_eq_getElem hmlt] at h1
      simp only [Array.all_eq_true_iff_forall_mem] at h1
      have h2 := h1 e he
      simp only [hb, Bool.not_true, Bool.false_or, decide_eq_true_eq] at h2
      have h3 := hmin e.on h2
      have hlt : e.on < listed.size := by omega
      simp [hlt] at h3 ⊢
      exact h3
    rw [hr] at this; simp at this
  intro fuel
  induction fuel with
  | zero =>
    intro listed st G a w hsz hcl h hr hl
    have hn : remaining ops listed = [] := List.length_eq_zero_iff.1 (by omega)
    rw [hn] at hr
    cases hr
    refine ⟨?_, hQ a w ⟨G, h⟩⟩
    apply Classical.byContradiction
    intro hne
    obtain ⟨m, rest, hm⟩ := List.exists_cons_of_ne_nil hne
    have hm1 : m ∈ Region.ready .any ops listed := by rw [hm]; simp
    rw [mem_ready] at hm1
    obtain ⟨h1, o, ho, _⟩ := hm1
    have : m ∈ remaining ops listed := List.mem_filter.2 ⟨List.mem_range.2 (Array.getElem?_eq_some_iff.1 ho).1, by simp [h1]⟩
    rw [hn] at this; simp at this
  | succ fuel ih =>
    intro listed st G a w hsz hcl h hr hl
    refine ⟨fun hn => ?_, fun i hi => ?_⟩
    · rw [hnone listed hsz hn] at hr
      cases hr
      exact hQ a w ⟨G, h⟩
    · rw [mem_ready] at hi
      obtain ⟨h1, oi, hoi, hall⟩ := hi
      have hlt := (Array.getElem?_eq_some_iff.1 hoi).1
      obtain ⟨pre, post, e1, e2, e3⟩ := remaining_split hlt h1 hsz
      rw [e1] at hr hl
      obtain ⟨s1, hs1, hr1⟩ := runs_bubble hoi pre post st sF (fun j hj oj hoj => by
        obtain ⟨hji, hjl⟩ := e3 j hj
        have hk := hind i hlt j hji
        rw [hoi, hoj] at hk
        simp only [Bool.or_eq_true] at hk
        rcases hk with hk | hk
        · exfalso
          have h5 := reach_listed hcl 3 i j (fun o ho e he hb => by
            rw [hoi] at ho; cases ho
            exact getD_true (hall e he hb)) hk
          rw [Array.getD_eq_getD_getElem?, h5] at hjl
          cases hjl
        · exact hk) hr
      refine os_sound h hoi (hd i oi hoi) hs1.os fun a' w' ⟨G', h'⟩ => ?_
      refine ih _ s1 G' a' w' (by simpa using hsz) (closed_set hcl hoi fun e he hb => getD_true (hall e he hb)) h' (by rw [e2]; exact hr1) ?_
      rw [e2]
      simp only [List.length_append, List.length_cons] at hl ⊢
      omega

theorem Rel.drew {P : Program} {F : Fr} {G : Gh} {st : St} {a : Act} {w : World} (h : Rel P F G st a w) : Rel P F G st a { w with drawn := w.drawn + 1 } := by
  have hg : GStep G w G { w with drawn := w.drawn + 1 } (fun p q => p = q) := ⟨fun _ _ h => ⟨h, rfl⟩, fun _ h => ⟨h, rfl⟩, rfl, fun _ _ => rfl, Nat.le_refl _, fun g p q h e => ⟨by rw [h, e], rfl, fun _ h => h⟩, fun o g _ h => ⟨h, .heap rfl⟩⟩
  refine ⟨fun t => (h.tm t).step hg (fun i j => rfl), ⟨fun b cells hb => (h.hp.bx b cells hb).step hg ((h.hp.live b).2 (by simp [hb])) (fun j => rfl) rfl, h.hp.live, h.hp.inj, h.hp.imlt, h.hp.ownlt, h.hp.boxim, h.hp.boxown⟩, ⟨?_, h.sn.own, h.sn.box, h.sn.βa, h.sn.fz, h.sn.fzm⟩, h.nt, h.defers, h.z⟩
  have := h.sn.ext
  exact ⟨this.os, this.tape, this.output, this.size, this.old, fun b o hb => ⟨(this.keep b o hb).1, (this.keep b o hb).2⟩, this.new⟩

end Go.Bee
