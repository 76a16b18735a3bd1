/-
Calls: what a function gives back, as the logic says it. No condition.
-/
import Derived.Test.YtkgjplamdmakpaaGreatDoorBeeK
namespace Go.Bee
set_option linter.unusedVariables false

theorem run_callFunc {P : Program} {f : Nat} (h : isFn P f = true) (args : Array Value) (w : World) : (callFunc f args).run P w = .ok (.enter f args) w := by
  unfold isFn at h
  split at h
  · rename_i fn hf
    simp only [Bool.and_eq_true, bne_iff_ne, ne_eq] at h
    have h2 : fn.body ≠ none := by intro hb; simp [hb] at h
    simp [callFunc, hf, h.1, h2]
  · cases h

def bxOf (bi : List (List PV)) : Bx := fun b => match b with | .a k => bi[k]? | .t _ => none
/-- Function f, given args (and variables that hold bi), gives r back (and leaves bo in the variables). -/
def BRet (P : Program) (f : Nat) (bi : List (List PV)) (args : List PV) (r : PV) (bo : List (List PV)) : Prop :=
  isFn P f = true ∧ bo.length = bi.length ∧ ∀ (G : Gh) (w : World) (vs : Array Value) (Wr : Nat → Prop), vs.size = args.length →
    (∀ (i : Nat) x u, args[i]? = some x → vs[i]? = some u → RepT P G w (.t i) x u) → Hp P G w (bxOf bi) →
    (∀ g p, G.own g = some p → Wr g) → (∀ b, G.live b → Wr (G.β b)) → (∀ g, G.fz g → g < w.heap.size ∧ ¬ Wr g) → (∀ g, g < w.heap.size → ¬ Wr g → G.fz g) →
    Calls P f vs w fun e w' => ∃ v G', e = .returned v ∧ RepT P G' w' .res r v ∧ Hp P G' w' (bxOf bo) ∧ Ext G.im w G'.im w' Wr ∧ (∀ k, G'.β (.a k) = G.β (.a k)) ∧ (∀ g p, G'.own g = some p → w.heap.size ≤ g ∨ Wr g) ∧
      ∀ g, FreeB G w g → KindSame w w' g ∧ (∃ cs e, w'.heap[g]? = some (.cells cs e (0, 0))) ∧ G'.own g = none ∧ ∀ o, ¬ G'.im g o

def PV.pass1 : PV → Bool
  | .d _ => true
  | .nilS => true
  | .nn _ _ => true
  | .own _ _ _ => true
  | .und => true
  | .eptr _ => true
  | .efn _ => true
  | .dp _ => true
  | .junk => true
  | .fn _ => true
  | _ => false
def PV.passable : PV → Bool
  | .agg l => l.all PV.pass1
  | x => x.pass1
def PV.gives1 : PV → Bool
  | .fn _ => false
  | .efn _ => false
  | .junk => false
  | x => x.pass1
def PV.gives2 : PV → Bool
  | .agg l => l.all PV.gives1
  | x => x.gives1
def PV.gives : PV → Bool
  | .tup l => l.all PV.gives2
  | x => x.gives2

/-- A step of the ghost for values that hold no address of a variable. -/
structure PStep (G : Gh) (w : World) (G' : Gh) (w' : World) (kp : Pos → Pos → Prop) : Prop where
  keep : Keep G.im w G'.im w'
  own : ∀ g p q, G.own g = some p → kp p q → G'.own g = some q ∧ w'.heap[g]? = w.heap[g]? ∧ ∀ o, G'.im g o → G.im g o
def FzUp (P : Program) (G : Gh) (w : World) (G' : Gh) (w' : World) : Prop := (∀ g, G.fz g → G'.fz g) ∧ (∀ g, G.fz g → w'.heap[g]? = w.heap[g]?) ∧ w.heap.size ≤ w'.heap.size
theorem FnOk.fz {P : Program} {S : Nat → Nat → Prop} {fz fz' : Nat → Prop} {w : World} (hz : ∀ g, fz g → fz' g) {K : List PD → Option PD} {v : Value} (h : FnOk P S fz w K v) : FnOk P S fz' w K v := by
  obtain ⟨f, caps, hv, hf, h⟩ := h
  exact ⟨f, caps, hv, hf, fun xs r hK => ⟨(h xs r hK).1, fun S1 w1 hk1 hz1 => (h xs r hK).2 S1 w1 hk1 (fun g hg => hz1 g (hz g hg))⟩⟩
theorem OwnAt.pstep {G G' : Gh} {w w' : World} {kp : Pos → Pos → Prop} (h : PStep G w G' w' kp) {p q : Pos} (hp : kp p q) {e sz : Nat} {l : List PD} {v : Value}
    (hx : OwnAt G w p e sz l v) : OwnAt G' w' q e sz l v := by
  refine ⟨hx.1.keep h.keep, hx.2.imp (fun ⟨h1, h2⟩ => ⟨h1, fun hl g hg => ⟨(h.own g p q (h2 hl g hg).1 hp).1, by rw [(h.own g p q (h2 hl g hg).1 hp).2.1]; exact (h2 hl g hg).2⟩⟩) fun ⟨vs, ho, hu, hg⟩ => ⟨vs, ⟨ho.1, ?_⟩, hu, fun g hvg => ?_⟩⟩
  · rcases ho.2 with hn | ⟨g, cap, cur, rfl, hb, hgg, rest⟩
    · exact .inl hn
    · exact .inr ⟨g, cap, cur, rfl, hb, by rw [(h.own g p q (hg g rfl).1 hp).2.1]; exact hgg, rest⟩
  · obtain ⟨h1, h2, h3⟩ := hg g hvg
    obtain ⟨k1, k2, k3⟩ := h.own g p q h1 hp
    exact ⟨k1, fun i hi => (h.keep g i (h2 i hi)).1, fun i hi hc => h3 i hi (k3 i hc)⟩
theorem RepC.pstep {P : Program} {G G' : Gh} {w w' : World} {kp : Pos → Pos → Prop} (h : PStep G w G' w' kp) {p q : Pos} (hp : kp p q) {x : PV} {v : Value} (hx1 : x.pass1 = true) (hz : (∃ K, x = .fn K ∨ x = .efn K) → FzUp P G w G' w')
    (hx : RepC P G w p x v) : RepC P G' w' q x v := by
  cases x <;> simp only [PV.pass1, Bool.false_eq_true] at hx1 <;> simp only [RepC, RepAt] at hx ⊢
  case d x => exact ⟨hx.1.keep h.keep, hx.2⟩
  case nilS => exact hx
  case nn sz l => exact ⟨hx.1.keep h.keep, hx.2⟩
  case own e sz l => exact hx.pstep h hp
  case eptr cs => obtain ⟨g, o, hv, hr⟩ := hx; exact ⟨g, o, hv, hr.keep h.keep⟩
  case fn K => obtain ⟨h1, h2, h3⟩ := hz ⟨K, .inl rfl⟩; exact (hx.keep h.keep h2 h3).fz h1
  case efn K => obtain ⟨h1, h2, h3⟩ := hz ⟨K, .inr rfl⟩; obtain ⟨g, o, u, a1, a2, a3, a4⟩ := hx; exact ⟨g, o, u, a1, (h.keep g o a2).1, (h.keep g o a2).2.trans a3, (a4.keep h.keep h2 h3).fz h1⟩
  case dp x => exact ⟨hx.1.keep (fun b o ⟨h1, h2, cs, e, h3⟩ => ⟨⟨(h.keep b o h1).1, (h.own b p q h2 hp).1, cs, e, by rw [(h.own b p q h2 hp).2.1]; exact h3⟩, (h.keep b o h1).2⟩), hx.2⟩
  case und => exact hx
theorem RepV.pstep {P : Program} {G G' : Gh} {w w' : World} {kp : Pos → Pos → Prop} (h : PStep G w G' w' kp) {loc loc' : Loc} {i i' : Nat} (hp : ∀ j, kp (loc, i, j) (loc', i', j)) {x : PV} {v : Value} (hx1 : x.passable = true) (hz : FzUp P G w G' w')
    (hx : RepV P G w loc i x v) : RepV P G' w' loc' i' x v := by
  cases x
  case agg l =>
    obtain ⟨cs, hv, hl, h1, hr⟩ := hx
    exact ⟨cs, hv, hl, h1, fun j x u h1 h2 => (hr j x u h1 h2).pstep h (hp j) (List.all_eq_true.1 hx1 x (List.mem_of_getElem? h1)) (fun _ => hz)⟩
  all_goals (simp only [PV.passable] at hx1; exact RepC.pstep (P := P) (v := v) h (hp 0) hx1 (fun _ => hz) hx)
theorem RepV.pstepG {P : Program} {G G' : Gh} {w w' : World} {kp : Pos → Pos → Prop} (h : PStep G w G' w' kp) {loc loc' : Loc} {i i' : Nat} (hp : ∀ j, kp (loc, i, j) (loc', i', j)) {x : PV} {v : Value} (hx1 : x.gives2 = true)
    (hx : RepV P G w loc i x v) : RepV P G' w' loc' i' x v := by
  have g1 : ∀ y : PV, y.gives1 = true → y.pass1 = true ∧ ¬ ∃ K, y = .fn K ∨ y = .efn K := by
    intro y hy
    cases y <;> simp [PV.gives1, PV.pass1] at hy ⊢
  cases x
  case agg l =>
    obtain ⟨cs, hv, hl, h1, hr⟩ := hx
    refine ⟨cs, hv, hl, h1, fun j x u h1 h2 => ?_⟩
    obtain ⟨k1, k2⟩ := g1 x (List.all_eq_true.1 hx1 x (List.mem_of_getElem? h1))
    exact (hr j x u h1 h2).pstep h (hp j) k1 (fun e => absurd e k2)
  all_goals
    simp only [PV.gives2] at hx1
    obtain ⟨k1, k2⟩ := g1 _ hx1
    exact RepC.pstep (P := P) (v := v) h (hp 0) k1 (fun e => absurd e k2) hx
theorem RepT.pstepG {P : Program} {G G' : Gh} {w w' : World} {kp : Pos → Pos → Prop} (h : PStep G w G' w' kp) {loc loc' : Loc} (hp : ∀ i j, kp (loc, i, j) (loc', i, j)) {x : PV} {v : Value} (hx1 : x.gives = true)
    (hx : RepT P G w loc x v) : RepT P G' w' loc' x v := by
  cases x
  case tup l =>
    obtain ⟨vs, hv, hl, hr⟩ := hx
    exact ⟨vs, hv, hl, fun i x u h1 h2 => (hr i x u h1 h2).pstepG h (hp i) (List.all_eq_true.1 hx1 x (List.mem_of_getElem? h1))⟩
  all_goals (simp only [PV.gives] at hx1; exact RepV.pstepG (P := P) (v := v) h (hp 0) hx1 hx)
theorem RepT.toV {P : Program} {G : Gh} {w : World} {loc : Loc} {x : PV} {v : Value} (h : RepT P G w loc x v) (hx : x.passable = true) : RepV P G w loc 0 x v := by
  cases x <;> first | exact h | simp [PV.passable, PV.pass1] at hx

/-- Plain data as a slot holds it. -/
def ofPD : PD → PV
  | .agg cs => .agg (cs.map .d)
  | x => .d x
theorem ofPD_rep {P : Program} {G : Gh} {w : World} {loc : Loc} {x : PD} {v : Value} (h : RepD G.im w x v) : RepT P G w loc (ofPD x) v := by
  cases h
  case agg cs vs hl hs hr =>
    refine ⟨vs, rfl, by simpa using hl, fun u hu => ?_, fun j y u hy hu => ?_⟩
    · obtain ⟨j, hj, rfl⟩ := Array.mem_iff_getElem.1 hu
      have hj2 : j < cs.length := by omega
      exact (hr j cs[j] vs[j] (List.getElem?_eq_getElem hj2) (Array.getElem?_eq_getElem hj)).oneCell (hs _ (List.getElem_mem hj2))
    · rw [List.getElem?_map] at hy
      obtain ⟨z, hz, rfl⟩ := Option.map_eq_some_iff.1 hy
      exact ⟨hr j z u hz hu, hs z (List.mem_of_getElem? hz)⟩
  case bool b => exact ⟨.bool b, rfl⟩
  case int k n => exact ⟨.int k n, rfl⟩
  case str l hb => exact ⟨.str l hb, rfl⟩
  case nil sz => exact ⟨.nil sz, rfl⟩
  case sl sz l g o c vs hb hc hu hs hl hv hr => exact ⟨.sl sz l g o c vs hb hc hu hs hl hv hr, rfl⟩
  case emp sz a c => exact ⟨.emp sz a c, rfl⟩
theorem RepT.toC {P : Program} {G : Gh} {w : World} {loc : Loc} {x : PV} {v : Value} (h : RepT P G w loc x v) (ha : ∀ l, x ≠ .agg l) (ht : ∀ l, x ≠ .tup l) : RepC P G w (loc, 0, 0) x v := by
  cases x <;> first | exact h | exact absurd rfl (ha _) | exact absurd rfl (ht _)
theorem pd_RepD {P : Program} {G : Gh} {w : World} {loc : Loc} {x : PV} {v : Value} {y : PD} (h : RepT P G w loc x v) (hx : x.pd = some y) : RepD G.im w y v := by
  cases x
  case agg l =>
    simp only [PV.pd, Option.map_eq_some_iff] at hx
    obtain ⟨ys, hy, rfl⟩ := hx
    obtain ⟨cs, rfl, hsz, h1, hr⟩ := h
    obtain ⟨h2, h3⟩ := pdL_get hy
    refine .agg ys cs (by omega) (fun c hc => ?_) (fun i c u hc hu => ?_)
    · obtain ⟨i, hi, rfl⟩ := List.mem_iff_getElem.1 hc
      have hi2 : i < l.length := by omega
      have hi3 : i < cs.size := by omega
      exact (pdC_rep (hr i l[i] cs[i] (List.getElem?_eq_getElem hi2) (Array.getElem?_eq_getElem hi3)) (h3 i _ _ (List.getElem?_eq_getElem hi2) (List.getElem?_eq_getElem hi))).2
    · obtain ⟨hi, _⟩ := List.getElem?_eq_some_iff.1 hc
      have hi2 : i < l.length := by omega
      exact (pdC_rep (hr i l[i] u (List.getElem?_eq_getElem hi2) hu) (h3 i _ _ (List.getElem?_eq_getElem hi2) hc)).1
  case tup l => simp [PV.pd, PV.pdC] at hx
  all_goals (simp only [PV.pd] at hx; exact (pdC_rep (h.toC (by simp) (by simp)) hx).1)
theorem plain_rep {P : Program} {G : Gh} {w : World} {loc : Loc} {x : PD} {v : Value} (hp : x.plain = true) (h : RepT P G w loc (ofPD x) v) (S : Nat → Nat → Prop) (w' : World) : RepD S w' x v := by
  have one : ∀ (S : Nat → Nat → Prop) (y : PD) u, (match y with | .bool _ => true | .int _ _ => true | .str _ => true | _ => false) = true → RepD G.im w y u → RepD S w' y u := by
    intro S y u hy hr
    cases hr <;> simp at hy
    · exact .bool _
    · exact .int _ _
    · exact .str _ ‹_›
  cases x
  case agg cs =>
    obtain ⟨vs, rfl, hl, h1, hr⟩ := h
    have hl' : vs.size = cs.length := by simpa using hl
    refine .agg cs vs hl' (fun c hc => ?_) (fun i c u hc hu => ?_)
    · have := List.all_eq_true.1 hp c hc
      cases c <;> simp at this <;> rfl
    · refine one S c u (List.all_eq_true.1 hp c (List.mem_of_getElem? hc)) ?_
      exact (hr i (.d c) u (by rw [List.getElem?_map, hc]; rfl) hu).1
  case sl sz l => simp [PD.plain] at hp
  all_goals exact one S _ v hp h.1

/-- The captured values of a function, as it is handed them: a variable's contents to be read. -/
def capOf (B : Bx) : PV → Option PV
  | .ptr b o => (B b).bind fun cells => (pdL cells).map fun ys => .eptr (ys.drop o)
  | .d x => some (.d x)
  | .nilS => some .nilS
  | .nn sz l => some (.nn sz l)
  | .eptr cs => some (.eptr cs)
  | _ => none
def capsOf (B : Bx) : List PV → Option (List PV)
  | [] => some []
  | x :: xs => (capOf B x).bind fun y => (capsOf B xs).map fun ys => y :: ys
def capBoxes (caps : List PV) : List BN := caps.filterMap fun | .ptr b _ => some b | _ => none
/-- A function value whose captured variables hold data. -/
def CloOK0 (P : Program) (B : Bx) (f : Nat) (caps : List PV) (K : List PD → Option PD) : Prop :=
  ∃ cs, capsOf B caps = some cs ∧ isFn P f = true ∧ ∀ xs r, K xs = some r → r.plain = true ∧ BRet P f [] (xs.map ofPD ++ cs) (ofPD r) []
/-- What a captured variable is to the function: data, or a cell with a function in it. -/
inductive CapR (P : Program) (B : Bx) : PV → PV → Prop
  | data (x y : PV) (h : capOf B x = some y) : CapR P B x y
  | fn (b : BN) (f : Nat) (caps : List PV) (K : List PD → Option PD) (hb : B b = some [.clo f caps]) (h : CloOK0 P B f caps K) : CapR P B (.ptr b 0) (.efn K)
inductive CapsR (P : Program) (B : Bx) : List PV → List PV → Prop
  | nil : CapsR P B [] []
  | cons (x y : PV) (xs ys : List PV) (h : CapR P B x y) (k : CapsR P B xs ys) : CapsR P B (x :: xs) (y :: ys)
/-- The variables that are captured, and those that these capture. -/
def capAll (B : Bx) (caps : List PV) : List BN := caps.flatMap fun | .ptr b _ => b :: (match B b with | some [.clo _ caps'] => capBoxes caps' | _ => []) | _ => []
def CloOK (P : Program) (B : Bx) (f : Nat) (caps : List PV) (K : List PD → Option PD) : Prop :=
  ∃ cs, CapsR P B caps cs ∧ isFn P f = true ∧ ∀ xs r, K xs = some r → r.plain = true ∧ BRet P f [] (xs.map ofPD ++ cs) (ofPD r) []
theorem CapsR.of {P : Program} {B : Bx} : ∀ {caps cs : List PV}, capsOf B caps = some cs → CapsR P B caps cs
  | [], cs, h => by simp [capsOf] at h; subst h; exact .nil
  | x :: xs, cs, h => by
    simp only [capsOf, Option.bind_eq_some_iff, Option.map_eq_some_iff] at h
    obtain ⟨y, hy, zs, hz, rfl⟩ := h
    exact .cons _ _ _ _ (.data _ _ hy) (CapsR.of hz)
theorem CapsR.get {P : Program} {B : Bx} : ∀ {caps cs : List PV}, CapsR P B caps cs → cs.length = caps.length ∧ ∀ (i : Nat) x y, caps[i]? = some x → cs[i]? = some y → CapR P B x y
  | _, _, .nil => ⟨rfl, fun i x y h => by simp at h⟩
  | _, _, .cons x y xs ys h k => by
    obtain ⟨h1, h2⟩ := CapsR.get k
    refine ⟨by simp [h1], fun i a b ha hb => ?_⟩
    cases i with
    | zero => simp at ha hb; subst ha; subst hb; exact h
    | succ i => simp at ha hb; exact h2 i a b ha hb
theorem CloOK0.up {P : Program} {B : Bx} {f : Nat} {caps : List PV} {K : List PD → Option PD} (h : CloOK0 P B f caps K) : CloOK P B f caps K := by
  obtain ⟨cs, h1, h2⟩ := h
  exact ⟨cs, CapsR.of h1, h2⟩

theorem capsOf_get {B : Bx} : ∀ {l ys : List PV}, capsOf B l = some ys → ys.length = l.length ∧ ∀ (i : Nat) x y, l[i]? = some x → ys[i]? = some y → capOf B x = some y
  | [], ys, h => by simp [capsOf] at h; subst h; simp
  | x :: xs, ys, h => by
    simp only [capsOf, Option.bind_eq_some_iff, Option.map_eq_some_iff] at h
    obtain ⟨y, hy, zs, hz, rfl⟩ := h
    obtain ⟨h1, h2⟩ := capsOf_get hz
    refine ⟨by simp [h1], fun i a b ha hb => ?_⟩
    cases i with
    | zero => simp at ha hb; subst ha; subst hb; exact hy
    | succ i => simp at ha hb; exact h2 i a b ha hb

/-- A function value with its captured variables computes K while they stay as they are. -/
theorem CloOK0.fn {P : Program} {G : Gh} {w : World} {B B0 : Bx} (hp : Hp P G w B0) (hB : ∀ b c, B b = some c → B0 b = some c) {p : Pos} {f : Nat} {caps : List PV} {K : List PD → Option PD} {v : Value} (hv : RepC P G w p (.clo f caps) v) (h : CloOK0 P B f caps K)
    {fz : Nat → Prop} (hfz : ∀ b, b ∈ capBoxes caps → G.live b → fz (G.β b)) : FnOk P G.im fz w K v := by
  obtain ⟨vs', rfl, hsz, hrep⟩ := hv
  obtain ⟨cs, hcs, hfn, hK⟩ := h
  obtain ⟨hcl, hcg⟩ := capsOf_get hcs
  refine ⟨f, vs', rfl, hfn, fun xs r hr => ⟨(hK xs r hr).1, fun S1 w1 hk1 hz1 hs1 hlt vs hvl hvr => ?_⟩⟩
  obtain ⟨hpl, -, -, hret⟩ := hK xs r hr
  let im1 : Nat → Nat → Prop := fun g o => S1 g o ∨ ∃ b, G.live b ∧ b ∈ capBoxes caps ∧ g = G.β b
  let G1 : Gh := { im := im1, β := G.β, live := fun _ => False, own := fun _ => none, fz := fun g => g < w1.heap.size }
  have hk : Keep G.im w im1 w1 := fun g o hg => ⟨.inl (hk1 g o hg).1, (hk1 g o hg).2⟩
  have hkS : Keep S1 w1 im1 w1 := fun g o hg => ⟨.inl hg, rfl⟩
  have hcalls := hret G1 w1 (vs ++ vs') (fun _ => False) (by simp [hvl, hsz, hcl]) (fun i x u hx hu => by
      by_cases hi : i < xs.length
      · rw [List.getElem?_append_left (by simpa using hi), List.getElem?_map] at hx
        obtain ⟨y, hy, rfl⟩ := Option.map_eq_some_iff.1 hx
        rw [Array.getElem?_append_left (by omega)] at hu
        exact ofPD_rep (G := G1) ((hvr i y u hy hu).keep hkS)
      · rw [List.getElem?_append_right (by simp; omega)] at hx
        rw [Array.getElem?_append_right (by omega)] at hu
        simp only [List.length_map] at hx
        rw [hvl] at hu
        have hi3 : i - xs.length < caps.length := by rw [← hcl]; exact (List.getElem?_eq_some_iff.1 hx).1
        have hc := hcg _ _ x (List.getElem?_eq_getElem hi3) hx
        have hr1 := hrep _ _ u (List.getElem?_eq_getElem hi3) hu
        have hmem : caps[i - xs.length] ∈ caps := List.getElem_mem hi3
        generalize caps[i - xs.length] = y at hc hr1 hmem
        cases y <;> simp only [capOf, reduceCtorEq, Option.some.injEq] at hc
        case d z => subst hc; exact ⟨hr1.1.keep hk, hr1.2⟩
        case nilS => subst hc; exact hr1
        case nn sz l => subst hc; exact ⟨hr1.1.keep hk, hr1.2⟩
        case eptr cs => subst hc; obtain ⟨g, o, e, hr2⟩ := hr1; exact ⟨g, o, e, hr2.keep hk⟩
        case ptr b o =>
          simp only [Option.bind_eq_some_iff, Option.map_eq_some_iff] at hc
          obtain ⟨cells, hcell, ys, hys, rfl⟩ := hc
          obtain ⟨rfl, hl⟩ := hr1
          have hmb : b ∈ capBoxes caps := List.mem_filterMap.2 ⟨_, hmem, rfl⟩
          have hblk := hz1 _ (hfz b hmb hl)
          obtain ⟨hys1, hys2⟩ := pdL_get hys
          obtain ⟨cells', e, h1, h2, h3, h4⟩ := hp.bx b cells (hB b cells hcell)
          have hrun : RepRun im1 w1 (G.β b) 0 ys := by
            refine ⟨cells'.toList.take ys.length, by simp; omega, fun y hy => ?_, fun j u hu => ?_, fun j y u hy hu => ?_⟩
            · obtain ⟨j, hj, rfl⟩ := List.mem_iff_getElem.1 hy
              have hj2 : j < cells.length := by omega
              have hj3 : j < cells'.size := by omega
              exact (pdC_rep (h4 j _ _ (List.getElem?_eq_getElem hj2) (Array.getElem?_eq_getElem hj3)) (hys2 j _ _ (List.getElem?_eq_getElem hj2) (List.getElem?_eq_getElem hj))).2
            · refine ⟨.inr ⟨b, hl, hmb, rfl⟩, ?_⟩
              rw [List.getElem?_take] at hu
              split at hu
              · simp only [World.cell?, Nat.zero_add, hblk, h1]
                simpa using hu
              · cases hu
            · have hj2 : j < cells.length := by rw [← hys1]; exact (List.getElem?_eq_some_iff.1 hy).1
              rw [List.getElem?_take_of_lt (by omega)] at hu
              exact (pdC_rep (h4 j _ u (List.getElem?_eq_getElem hj2) (by simpa using hu)) (hys2 j _ y (List.getElem?_eq_getElem hj2) hy)).1.keep hk
          have := hrun.drop o
          rw [Nat.zero_add] at this
          exact ⟨_, _, rfl, this⟩)
    ⟨fun b cells hb => by cases b <;> simp [bxOf] at hb, fun b => by cases b <;> simp [bxOf, G1], fun b b' hl => hl.elim, fun g o hg => by
      rcases hg with hg | ⟨b, hl, _, rfl⟩
      · exact hlt g o hg
      · obtain ⟨c, _, hbx⟩ := hp.box hl
        exact Nat.lt_of_lt_of_le hbx.lt hs1, fun g p hg => by simp [G1] at hg, fun b hl => hl.elim, fun b hl => hl.elim⟩
    (fun g p hg => by simp [G1] at hg) (fun b hl => hl.elim) (fun g hg => ⟨hg, id⟩) (fun g h1 _ => h1)
  refine hcalls.mono fun e w2 ⟨u, G2, he, hru, _, hext, _, _⟩ => ⟨u, he, ⟨hext.os, hext.tape, hext.output, hext.size, fun b hb _ => hext.old b hb (fun h => h), fun g o hg => ⟨hg, (hext.keep g o (.inl hg)).2⟩, fun g o hg => .inl hg⟩, plain_rep (hK xs r hr).1 hru S1 w2⟩

/-- A function value with its captured variables computes K while they stay as they are. -/
theorem CloOK.fn {P : Program} {G : Gh} {w : World} {B B0 : Bx} (hp : Hp P G w B0) (hB : ∀ b c, B b = some c → B0 b = some c) {p : Pos} {f : Nat} {caps : List PV} {K : List PD → Option PD} {v : Value} (hv : RepC P G w p (.clo f caps) v) (h : CloOK P B f caps K)
    {fz : Nat → Prop} (hfz : ∀ b, b ∈ capAll B caps → G.live b → fz (G.β b)) : FnOk P G.im fz w K v := by
  obtain ⟨vs', rfl, hsz, hrep⟩ := hv
  obtain ⟨cs, hcs, hfn, hK⟩ := h
  obtain ⟨hcl, hcg⟩ := hcs.get
  refine ⟨f, vs', rfl, hfn, fun xs r hr => ⟨(hK xs r hr).1, fun S1 w1 hk1 hz1 hs1 hlt vs hvl hvr => ?_⟩⟩
  obtain ⟨hpl, -, -, hret⟩ := hK xs r hr
  let im1 : Nat → Nat → Prop := fun g o => S1 g o ∨ ∃ b, G.live b ∧ b ∈ capAll B caps ∧ g = G.β b
  let G1 : Gh := { im := im1, β := G.β, live := fun _ => False, own := fun _ => none, fz := fun g => g < w1.heap.size }
  let fz0 : Nat → Prop := fun g => ∃ b, G.live b ∧ b ∈ capAll B caps ∧ g = G.β b
  have hk : Keep G.im w im1 w1 := fun g o hg => ⟨.inl (hk1 g o hg).1, (hk1 g o hg).2⟩
  have hkS : Keep S1 w1 im1 w1 := fun g o hg => ⟨.inl hg, rfl⟩
  have hblt : ∀ b, G.live b → G.β b < w1.heap.size := fun b hl => by
    obtain ⟨c, _, hbx⟩ := hp.box hl
    exact Nat.lt_of_lt_of_le hbx.lt hs1
  have hcalls := hret G1 w1 (vs ++ vs') (fun _ => False) (by simp [hvl, hsz, hcl]) (fun i x u hx hu => by
      by_cases hi : i < xs.length
      · rw [List.getElem?_append_left (by simpa using hi), List.getElem?_map] at hx
        obtain ⟨y, hy, rfl⟩ := Option.map_eq_some_iff.1 hx
        rw [Array.getElem?_append_left (by omega)] at hu
        exact ofPD_rep (G := G1) ((hvr i y u hy hu).keep hkS)
      · rw [List.getElem?_append_right (by simp; omega)] at hx
        rw [Array.getElem?_append_right (by omega)] at hu
        simp only [List.length_map] at hx
        rw [hvl] at hu
        have hi3 : i - xs.length < caps.length := by rw [← hcl]; exact (List.getElem?_eq_some_iff.1 hx).1
        have hc := hcg _ _ x (List.getElem?_eq_getElem hi3) hx
        have hr1 := hrep _ _ u (List.getElem?_eq_getElem hi3) hu
        have hmem : caps[i - xs.length] ∈ caps := List.getElem_mem hi3
        generalize caps[i - xs.length] = y at hc hr1 hmem
        have hmb : ∀ b o, y = .ptr b o → b ∈ capAll B caps := fun b o e => by
          subst e
          exact List.mem_flatMap.2 ⟨_, hmem, List.mem_cons_self ..⟩
        cases hc with
        | data _ _ hc =>
        cases y <;> simp only [capOf, reduceCtorEq, Option.some.injEq] at hc
        case d z => subst hc; exact ⟨hr1.1.keep hk, hr1.2⟩
        case nilS => subst hc; exact hr1
        case nn sz l => subst hc; exact ⟨hr1.1.keep hk, hr1.2⟩
        case eptr cs => subst hc; obtain ⟨g, o, e, hr2⟩ := hr1; exact ⟨g, o, e, hr2.keep hk⟩
        case ptr b o =>
          simp only [Option.bind_eq_some_iff, Option.map_eq_some_iff] at hc
          obtain ⟨cells, hcell, ys, hys, rfl⟩ := hc
          obtain ⟨rfl, hl⟩ := hr1
          have hmb := hmb b o rfl
          have hblk := hz1 _ (hfz b hmb hl)
          obtain ⟨hys1, hys2⟩ := pdL_get hys
          obtain ⟨cells', e, h1, h2, h3, h4⟩ := hp.bx b cells (hB b cells hcell)
          have hrun : RepRun im1 w1 (G.β b) 0 ys := by
            refine ⟨cells'.toList.take ys.length, by simp; omega, fun y hy => ?_, fun j u hu => ?_, fun j y u hy hu => ?_⟩
            · obtain ⟨j, hj, rfl⟩ := List.mem_iff_getElem.1 hy
              have hj2 : j < cells.length := by omega
              have hj3 : j < cells'.size := by omega
              exact (pdC_rep (h4 j _ _ (List.getElem?_eq_getElem hj2) (Array.getElem?_eq_getElem hj3)) (hys2 j _ _ (List.getElem?_eq_getElem hj2) (List.getElem?_eq_getElem hj))).2
            · refine ⟨.inr ⟨b, hl, hmb, rfl⟩, ?_⟩
              rw [List.getElem?_take] at hu
              split at hu
              · simp only [World.cell?, Nat.zero_add, hblk, h1]
                simpa using hu
              · cases hu
            · have hj2 : j < cells.length := by rw [← hys1]; exact (List.getElem?_eq_some_iff.1 hy).1
              rw [List.getElem?_take_of_lt (by omega)] at hu
              exact (pdC_rep (h4 j _ u (List.getElem?_eq_getElem hj2) (by simpa using hu)) (hys2 j _ y (List.getElem?_eq_getElem hj2) hy)).1.keep hk
          have := hrun.drop o
          rw [Nat.zero_add] at this
          exact ⟨_, _, rfl, this⟩
        | fn b f' caps' K' hb hok =>
          obtain ⟨rfl, hl⟩ := hr1
          have hmb := hmb b 0 rfl
          have hblk := hz1 _ (hfz b hmb hl)
          obtain ⟨cells', e, h1, h2, h3, h4⟩ := hp.bx b _ (hB b _ hb)
          have h0 : 0 < cells'.size := by simp at h2; omega
          have hu0 := h4 0 _ cells'[0] rfl (Array.getElem?_eq_getElem h0)
          have hin : ∀ c, c ∈ capBoxes caps' → c ∈ capAll B caps := fun c hc => by
            refine List.mem_flatMap.2 ⟨_, hmem, List.mem_cons_of_mem _ ?_⟩
            rw [hb]; exact hc
          have hfo := CloOK0.fn hp hB (fz := fz0) hu0 hok (fun c hc hl => ⟨c, hl, hin c hc, rfl⟩)
          refine ⟨G.β b, 0, cells'[0], rfl, .inr ⟨b, hl, hmb, rfl⟩, ?_, (hfo.keep hk (fun g hg => ?_) hs1).fz (fun g hg => ?_)⟩
          · simp only [World.cell?, hblk, h1]
            simp [h0]
          · obtain ⟨c, hl, hc, rfl⟩ := hg
            exact hz1 _ (hfz c hc hl)
          · obtain ⟨c, hl, hc, rfl⟩ := hg
            exact hblt c hl)
    ⟨fun b cells hb => by cases b <;> simp [bxOf] at hb, fun b => by cases b <;> simp [bxOf, G1], fun b b' hl => hl.elim, fun g o hg => by
      rcases hg with hg | ⟨b, hl, _, rfl⟩
      · exact hlt g o hg
      · exact hblt b hl, fun g p hg => by simp [G1] at hg, fun b hl => hl.elim, fun b hl => hl.elim⟩
    (fun g p hg => by simp [G1] at hg) (fun b hl => hl.elim) (fun g hg => ⟨hg, id⟩) (fun g h1 _ => h1)
  refine hcalls.mono fun e w2 ⟨u, G2, he, hru, _, hext, _, _⟩ => ⟨u, he, ⟨hext.os, hext.tape, hext.output, hext.size, fun b hb _ => hext.old b hb (fun h => h), fun g o hg => ⟨hg, (hext.keep g o (.inl hg)).2⟩, fun g o hg => .inl hg⟩, plain_rep (hK xs r hr).1 hru S1 w2⟩

end Go.Bee
