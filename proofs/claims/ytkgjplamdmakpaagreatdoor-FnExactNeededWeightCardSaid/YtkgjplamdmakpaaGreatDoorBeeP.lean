/-
The code of a function, walked in the logic. No condition.
-/
import Derived.Test.YtkgjplamdmakpaaGreatDoorBeeO
namespace Go.Bee
set_option linter.unusedVariables false

/-! What moves: which operations take over what is a slot's own. -/
def consumesT (o : Oper) (t : Nat) : Bool :=
  match o.op with
  | .assign (.tmp u) => u == t
  | .store _ _ (.tmp u) => u == t
  | .box _ (.tmp u) => u == t
  | .extract (.tmp u) _ => u == t
  | .call c => match c.callee, c.args.toList with
    | .builtin .append, .tmp u :: _ => u == t
    | _, _ => false
  | _ => false
def mvOf (dr : Bool) (hs : List Nat) (i : Nat) (o : Oper) (rest : List Oper) : Bool :=
  match o.op with
  | .assign _ => true
  | .box _ _ => true
  | .store _ _ _ => true
  | .extract _ _ => !dr
  | .call c => (match c.callee with
    | .builtin .append => true
    | _ => hs.contains i)
  | .move _ => (match o.dst with | some t => rest.any (fun q => consumesT q t) || hs.contains i | none => false)
  | .load _ _ => (match o.dst with | some t => rest.any (fun q => consumesT q t) || hs.contains i | none => false)
  | _ => false
def flagMv (dr : Bool) (l : List Oper) (hs : List Nat) (i : Nat) : Bool :=
  match l.drop i with
  | o :: rest => mvOf dr hs i o rest
  | [] => false
/-- Is the slot an address in a slice, by an operation of the region itself? -/
def isElem (l : List Oper) : Nat → Operand → Bool
  | n + 1, .tmp t => l.any fun q => q.dst == some t && (match q.op with
    | .indexAddr _ _ _ => true
    | .fieldAddr _ x _ => isElem l n x
    | _ => false)
  | _, _ => false
def flagBe (P : Program) (l : List Oper) (hs : List Nat) (i : Nat) : Bool :=
  match l[i]? with
  | some o => (match o.op with
    | .alloc _ => true
    | .box _ _ => true
    | .store _ _ _ => true
    | .makeSlice _ _ _ => true
    | .load _ x => flagMv false l hs i && !isElem l l.length x
    | .call c => (match c.callee with
      | .value _ => c.argTypes.any fun t => match tyi P t with | some i => i.ptr | none => true
      | _ => false)
    | _ => false)
  | none => false
def flagBt (P : Program) (l : List Oper) (i : Nat) : Bool :=
  match l[i]? with
  | some o => (match o.op with
    | .alloc _ => true
    | .box _ _ => true
    | .store _ _ _ => true
    | .makeSlice _ _ _ => true
    | .load _ x => !isElem l l.length x
    | .call c => (match c.callee with
      | .value _ => c.argTypes.any fun t => match tyi P t with | some i => i.ref | none => true
      | _ => false)
    | _ => false)
  | none => false
def flagsOf (P : Program) (l : List Oper) (hs : List Nat) (draw : Bool) (i : Nat) : AF := { mv := flagMv draw l hs i, bt := !draw || flagBt P l i, be := !draw || flagBe P l hs i }

def bcall (P : Program) (fl : AF) (o : Oper) (K : St → Prop) (st : St) : Prop := ∃ v B', OS1 P fl o st v B' ∧ K (st.after fl o v B')
def bop (P : Program) (fl : AF) (o : Oper) (K : St → Prop) (st : St) : Prop :=
  match o.op with
  | .call c => match c.callee with
    | .value _ => bcall P fl o K st
    | _ => match ev1 P fl o st.ev (vz fl st.bx) with
      | some q => K (st.after fl o q.1 q.2)
      | none => False
  | _ => match ev1 P fl o st.ev (vz fl st.bx) with
    | some q => K (st.after fl o q.1 q.2)
    | none => False
theorem bop_os1 {P : Program} {fl : AF} {o : Oper} {K : St → Prop} {st : St} (h : bop P fl o K st) : ∃ v B', OS1 P fl o st v B' ∧ K (st.after fl o v B') := by
  have key : (match ev1 P fl o st.ev (vz fl st.bx) with | some q => K (st.after fl o q.1 q.2) | none => False) → ∃ v B', OS1 P fl o st v B' ∧ K (st.after fl o v B') := by
    intro h
    cases he : ev1 P fl o st.ev (vz fl st.bx) with
    | none => rw [he] at h; exact h.elim
    | some q => rw [he] at h; exact ⟨q.1, q.2, .ev _ _ he, h⟩
  unfold bop at h
  split at h
  · split at h
    · exact h
    · exact key h
  · exact key h
def bgd (x : Option PV) (want : Bool) (A B : Prop) : Prop :=
  match x with
  | some (.d (.bool b)) => (b = want → A) ∧ (b = !want → B)
  | some .und => B
  | _ => False
def bops (P : Program) (L : List Oper) (fls : Nat → AF) : List Oper → Nat → (St → Prop) → St → Prop
  | [], _, Q, st => Q st
  | o :: l, i, Q, st => match o.guard with
    | none => bop P (fls i) o (bops P L fls l (i + 1) Q) st
    | some g => bgd (((L[g.1]?).bind (·.dst)).map st.tm) g.2 (bop P (fls i) o (bops P L fls l (i + 1) Q) st) (bops P L fls l (i + 1) Q (st.upd [] o.dst .und st.bx))
theorem bops_runs {P : Program} {L : List Oper} {fls : Nat → AF} {Q : St → Prop} : ∀ (l : List Oper) (i : Nat) (st : St), (∀ (k : Nat), l[k]? = L[i + k]?) → bops P L fls l i Q st → ∃ sF, Runs P L.toArray fls (List.range' i l.length) st sF ∧ Q sF
  | [], i, st, _, h => ⟨st, .nil st, h⟩
  | o :: l, i, st, hl, h => by
    have ho : L.toArray[i]? = some o := by have := hl 0; simp at this; simpa using this.symm
    have hl' : ∀ (k : Nat), l[k]? = L[i + 1 + k]? := by
      intro k
      have := hl (k + 1)
      rw [List.getElem?_cons_succ] at this
      rw [this]; congr 1; omega
    simp only [List.length_cons, List.range'_succ]
    have goRun : gd L.toArray o st = some true → bop P (fls i) o (bops P L fls l (i + 1) Q) st → ∃ sF, Runs P L.toArray fls (i :: List.range' (i + 1) l.length) st sF ∧ Q sF := by
      intro hg hb
      obtain ⟨v, B', hs, hk⟩ := bop_os1 hb
      obtain ⟨sF, hr, hq⟩ := bops_runs l (i + 1) _ hl' hk
      exact ⟨sF, .cons i _ o _ _ _ ho (.run v B' hg hs) hr, hq⟩
    have goSkip : gd L.toArray o st = some false → bops P L fls l (i + 1) Q (st.upd [] o.dst .und st.bx) → ∃ sF, Runs P L.toArray fls (i :: List.range' (i + 1) l.length) st sF ∧ Q sF := by
      intro hg hb
      obtain ⟨sF, hr, hq⟩ := bops_runs l (i + 1) _ hl' hb
      exact ⟨sF, .cons i _ o _ _ _ ho (.skip hg) hr, hq⟩
    unfold bops at h
    split at h
    · rename_i hn
      exact goRun (by simp [gd, hn]) h
    · rename_i g hn
      obtain ⟨j, want⟩ := g
      have hget : (L.toArray[j]?).bind (·.dst) = (L[j]?).bind (·.dst) := by simp
      simp only at h
      cases hd : (L[j]?).bind (·.dst) with
      | none => rw [hd] at h; simp [bgd] at h
      | some t =>
        rw [hd] at h
        simp only [Option.map_some] at h
        unfold bgd at h
        split at h
        · rename_i b hb
          simp only [Option.some.injEq] at hb
          by_cases hbw : b = want
          · exact goRun (by simp [gd, hn, hd, hb, hbw]) (h.1 hbw)
          · exact goSkip (by simp [gd, hn, hd, hb, hbw]) (h.2 (by cases b <;> cases want <;> simp_all))
        · rename_i hb
          simp only [Option.some.injEq] at hb
          exact goSkip (by simp [gd, hn, hd, hb]) h
        · exact h.elim

inductive Ex where
  | normal
  | exit (id : Nat)
  | ret
def seqK (K : St → Prop) (Q : Ex → St → Prop) : Ex → St → Prop
  | .normal => K
  | .exit i => Q (.exit i)
  | .ret => Q .ret
def blkK (id : Nat) (Q : Ex → St → Prop) : Ex → St → Prop
  | .normal => Q .normal
  | .exit i => if i = id then Q .normal else Q (.exit i)
  | .ret => Q .ret
def bcond (x : PV) (A B : Prop) : Prop :=
  match x with
  | .d (.bool b) => (b = true → A) ∧ (b = false → B)
  | _ => False
/-- What is true of one state is true of the other, which says less. -/
def Weak (P : Program) (s s' : St) : Prop := ∀ F G a w, Rel P F G s a w → ∃ G', Rel P F G' s' a w
/-- Behind a loop one may forget. -/
def wk (P : Program) (K : St → Prop) (s : St) : Prop := ∃ s', Weak P s s' ∧ K s'
def loopK (P : Program) (I : Nat → St → Prop) (n : Nat) (Q : Ex → St → Prop) : Ex → St → Prop
  | .normal => fun s => ∃ m s', Weak P s s' ∧ m < n ∧ I m s'
  | .exit i => wk P (Q (.exit i))
  | .ret => Q .ret
def bloop (P : Program) (body : (Ex → St → Prop) → St → Prop) (Q : Ex → St → Prop) (st : St) : Prop :=
  ∃ I : Nat → St → Prop, (∃ n s, Weak P st s ∧ I n s) ∧ ∀ n s, I n s → body (loopK P I n Q) s
def breg (P : Program) (hs : List Nat) (ops : Array Oper) (draw : Bool) (Q : St → Prop) (st : St) : Prop := bops P ops.toList (flagsOf P ops.toList hs draw) ops.toList 0 Q st
/-- H: for a region, which of its reads take over what is a slot's own. -/
def bwp (P : Program) (H : Nat → List Nat) : Code → (Ex → St → Prop) → St → Prop
  | .skip, Q => Q .normal
  | .region id ops draw, Q => breg P (H id) ops draw (Q .normal)
  | .seq a b, Q => bwp P H a (seqK (bwp P H b Q) Q)
  | .cond c t e, Q => fun st => bcond (st.ev c) (bwp P H t Q st) (bwp P H e Q st)
  | .block id b, Q => bwp P H b (blkK id Q)
  | .loop b, Q => bloop P (bwp P H b) Q
  | .exit id, Q => Q (.exit id)
  | .ret, Q => Q .ret
  | _, _ => fun _ => False

/-- Each slot that is written is there, and each order that is drawn comes to the same. -/
def cOk (P : Program) (H : Nat → List Nat) (nt : Nat) : Code → Bool
  | .region id ops draw => (ops.all fun o => match o.dst with | some d => decide (d < nt) | none => true) && (!draw || regOk ops (flagsOf P ops.toList (H id) true))
  | .seq a b => cOk P H nt a && cOk P H nt b
  | .cond _ a b => cOk P H nt a && cOk P H nt b
  | .block _ b => cOk P H nt b
  | .loop b => cOk P H nt b
  | _ => true

/-- The logic's post-condition, as the machine's. -/
def lift (P : Program) (F : Fr) (Q : Ex → St → Prop) : Exit → Act → World → Prop
  | .normal, a, w => ∃ G s, Rel P F G s a w ∧ Q .normal s
  | .exit id, a, w => ∃ G s, Rel P F G s a w ∧ Q (.exit id) s
  | .ret, a, w => ∃ G s, Rel P F G s a w ∧ Q .ret s
  | _, _, _ => False

theorem bwp_sound {P : Program} {H : Nat → List Nat} {F : Fr} (hm : P.follows .mixedOrders = true) : ∀ (c : Code) (Q : Ex → St → Prop) (G : Gh) (st : St) (a : Act) (w : World), cOk P H F.nt c = true → bwp P H c Q st → Rel P F G st a w → c.wp P (lift P F Q) a w
  | .skip, Q, G, st, a, w, hd, h, hr => wp_skip ⟨G, st, hr, h⟩
  | .exit id, Q, G, st, a, w, hd, h, hr => wp_exit ⟨G, st, hr, h⟩
  | .ret, Q, G, st, a, w, hd, h, hr => wp_ret ⟨G, st, hr, h⟩
  | .region id ops draw, Q, G, st, a, w, hd, h, hr => by
    have hb : bops P ops.toList (flagsOf P ops.toList (H id) draw) ops.toList 0 (Q .normal) st := h
    simp only [cOk, Bool.and_eq_true] at hd
    have hdst : ∀ (i : Nat) o, ops[i]? = some o → ∀ d', o.dst = some d' → d' < F.nt := by
      intro i o ho d' hd'
      have hd1 := hd.1
      simp only [Array.all_eq_true_iff_forall_mem] at hd1
      have := hd1 o (Array.mem_of_getElem? ho)
      rw [hd'] at this
      simpa using this
    obtain ⟨sF, hruns, hq⟩ := bops_runs (L := ops.toList) ops.toList 0 st (fun k => by simp) hb
    rw [Array.toArray_toList] at hruns
    have hrange : List.range' 0 ops.toList.length = List.range ops.size := by rw [List.range_eq_range']; simp
    rw [hrange] at hruns
    cases draw with
    | false => exact wp_region (runs_sound hdst hruns hr (fun a' w' ⟨G', h'⟩ => ⟨G', sF, h', hq⟩))
    | true =>
      refine wp_region_any hm ?_
      have hrem : remaining ops (Array.replicate ops.size false) = List.range ops.size := by
        unfold remaining
        apply List.filter_eq_self.2
        intro i hi
        have := List.mem_range.1 hi
        simp [this]
      exact any_sound hdst (by simpa using hd.2) (fun a' w' ⟨G', h'⟩ => ⟨G', sF, h', hq⟩) ops.size _ st G a _ (by simp) hr.drew (by rw [hrem]; exact hruns) (by rw [hrem]; simp)
  | .seq x y, Q, G, st, a, w, hd, h, hr => by
    simp only [cOk, Bool.and_eq_true] at hd
    refine wp_seq ?_
    refine wp_mono (bwp_sound hm x _ G st a w hd.1 h hr) fun e a' w' he => ?_
    cases e with
    | normal => obtain ⟨G', s', h', hq⟩ := he; exact bwp_sound hm y Q G' s' a' w' hd.2 hq h'
    | exit id => exact he
    | ret => exact he
    | goto l => exact he
    | panic c => exact he
    | outgrown => exact he
  | .cond c t e, Q, G, st, a, w, hd, h, hr => by
    simp only [cOk, Bool.and_eq_true] at hd
    simp only [bwp, bcond] at h
    split at h
    · rename_i b hb
      have hc := hr.ev c
      rw [hb] at hc
      obtain ⟨hc, -⟩ := hc
      have hcv : a.eval c = .bool b := by generalize a.eval c = u at hc; cases hc; rfl
      refine wp_cond_split hcv (fun hbt => ?_) (fun hbf => ?_)
      · exact bwp_sound hm t Q G st a w hd.1 (h.1 hbt) hr
      · exact bwp_sound hm e Q G st a w hd.2 (h.2 hbf) hr
    · exact h.elim
  | .block id b, Q, G, st, a, w, hd, h, hr => by
    simp only [cOk] at hd
    refine wp_block ?_
    refine wp_mono (bwp_sound hm b _ G st a w hd h hr) fun e a' w' he => ?_
    cases e with
    | normal => exact he
    | exit i =>
      obtain ⟨G', s', h', hq⟩ := he
      simp only [blkK] at hq
      simp only [Exit.inBlock]
      split
      · rename_i hi; rw [if_pos hi] at hq; exact ⟨G', s', h', hq⟩
      · rename_i hi; rw [if_neg hi] at hq; exact ⟨G', s', h', hq⟩
    | ret => exact he
    | goto l => exact he
    | panic c => exact he
    | outgrown => exact he
  | .loop b, Q, G, st, a, w, hd, h, hr => by
    simp only [cOk] at hd
    obtain ⟨I, ⟨n0, s0, hw0, hI0⟩, hround⟩ := h
    obtain ⟨G0, hr0⟩ := hw0 F G a w hr
    let R : Nat → Act → World → Prop := fun n a w => ∃ G s, Rel P F G s a w ∧ I n s
    have hμ : ∀ a w, (∃ n, R n a w) → ∃ μ, R μ a w ∧ ∀ m, R m a w → μ ≤ m := by
      intro a w ⟨n, hn⟩
      induction n using Nat.strongRecOn with
      | _ n ih =>
        by_cases hex : ∃ m, m < n ∧ R m a w
        · obtain ⟨m, hmn, hRm⟩ := hex
          exact ih m hmn hRm
        · refine ⟨n, hn, fun m hRm => ?_⟩
          apply Classical.byContradiction; intro hc
          exact hex ⟨m, by omega, hRm⟩
    let μ : Act → World → Nat := fun a w => open Classical in if hx : ∃ n, R n a w then Classical.choose (hμ a w hx) else 0
    have hμs : ∀ a w (hx : ∃ n, R n a w), R (μ a w) a w ∧ ∀ m, R m a w → μ a w ≤ m := by
      intro a w hx
      have := Classical.choose_spec (hμ a w hx)
      simp only [μ, dif_pos hx]
      exact this
    refine wp_loop (fun a w => ∃ n, R n a w) μ ⟨n0, G0, s0, hr0, hI0⟩ fun a1 w1 hx => ?_
    obtain ⟨⟨G1, s1, hr1, hI1⟩, -⟩ := hμs a1 w1 hx
    refine wp_mono (bwp_sound hm b _ G1 s1 a1 w1 hd (hround _ s1 hI1) hr1) fun e a' w' he => ?_
    cases e with
    | normal =>
      obtain ⟨G', s', h', m, s2, hw, hlt, hI2⟩ := he
      obtain ⟨G2, hr2⟩ := hw F G' a' w' h'
      have hRm : R m a' w' := ⟨G2, s2, hr2, hI2⟩
      have hle := (hμs a' w' ⟨m, hRm⟩).2 m hRm
      exact ⟨⟨m, hRm⟩, by omega⟩
    | exit id =>
      obtain ⟨G', s', h', s2, hw, hq⟩ := he
      obtain ⟨G2, hr2⟩ := hw F G' a' w' h'
      exact ⟨G2, s2, hr2, hq⟩
    | ret => exact he
    | goto l => exact he
    | panic c => exact he
    | outgrown => exact he
  | .rangeFunc _ _ _ _, Q, G, st, a, w, hd, h, hr => h.elim
  | .scope _, Q, G, st, a, w, hd, h, hr => h.elim
  | .label _, Q, G, st, a, w, hd, h, hr => h.elim
  | .goto _, Q, G, st, a, w, hd, h, hr => h.elim
  | .refuse _, Q, G, st, a, w, hd, h, hr => h.elim

end Go.Bee
