/-
A function that ends with a call that writes into a slice of its own. No condition.
-/
import Derived.Test.YtkgjplamdmakpaaGreatDoorBeeS
import Derived.Shelf.Sort.Plain
import Derived.Sort.EncStr
namespace Go.Bee
open Go.Sort Go.Shelf Go.Proofs
set_option linter.unusedVariables false

theorem own_block {G : Gh} {w : World} {p : Pos} {e sz : Nat} {l : List PD} {v : Value} (h : OwnAt G w p e sz l v) (hl : l ≠ []) :
    ∃ g o c, v = .slice (some ⟨g, o, none⟩) l.length c ∧ l.length ≤ c ∧ RepRun G.im w g o (flat l) ∧ G.own g = some p ∧ ∃ cs e', w.heap[g]? = some (.cells cs e' (0, 0)) := by
  obtain ⟨hd, hw⟩ := h
  rcases hd.sl_shape with ⟨h1, -⟩ | ⟨g, o, c, rfl, h2, h3, h4⟩ | ⟨h1, -⟩
  · exact absurd h1 hl
  rotate_left
  · exact absurd h1 hl
  refine ⟨g, o, c, rfl, h2, h4, ?_⟩
  rcases hw with ⟨h5, h6⟩ | ⟨vs, h5, h6, h7⟩
  · exact h6 hl g rfl
  · refine ⟨(h7 g rfl).1, ?_⟩
    rcases h5.2 with hn | ⟨g', cap, cur, hv, hb, hgg, rest⟩
    · simp at hn
    · simp only [Value.slice.injEq, Option.some.injEq, Addr.mk.injEq] at hv
      rw [hv.1.1]
      exact ⟨cur, e, hgg⟩

/-- What g makes of a slice of strings, in its place. -/
structure Redo (P : Program) (g : Nat) (f : List (List UInt8) → List (List UInt8)) : Prop where
  fn : isFn P g = true
  nil : f [] = []
  empty : ∀ (w : World) (b : Option Addr) (c : Nat), Calls P g #[.slice b 0 c] w fun e w' => e = .returned (.slice b 0 c) ∧ w'.heap = w.heap ∧ w'.os = w.os ∧ w'.tape = w.tape ∧ w'.output = w.output
  full : ∀ (w : World) (blk off c : Nat) (zs : List (List UInt8)), zs ≠ [] → Holds encStr w blk off zs.toArray → blk < w.heap.size → zs.length ≤ c → zs.length ≤ 140737488355328 →
    Calls P g #[.slice (some ⟨blk, off, none⟩) zs.length c] w fun e w' => ∃ c', e = .returned (.slice (some ⟨blk, off, none⟩) (f zs).length c') ∧ (f zs).length ≤ c' ∧ (∀ (i : Nat) s, (f zs)[i]? = some s → w'.cell? ⟨blk, off + i, none⟩ = some (encStr s)) ∧
      (∀ k, k < w.heap.size → k ≠ blk → w'.heap[k]? = w.heap[k]?) ∧ w.heap.size ≤ w'.heap.size ∧ w'.os = w.os ∧ w'.tape = w.tape ∧ w'.output = w.output ∧ (f zs).length ≤ zs.length ∧ ∀ s ∈ f zs, s ∈ zs

theorem flat_str (zs : List (List UInt8)) : flat (zs.map .str) = zs.map .str := by
  induction zs with
  | nil => rfl
  | cons a l ih => rw [List.map_cons]; unfold flat at ih ⊢; rw [List.flatMap_cons, ih]; rfl

theorem bxOf_nil' (b : BN) : bxOf [] b = none := by cases b <;> simp [bxOf]
/-- All is forgotten but one slot. -/
def only (u : Nat) (x : PV) : St := ⟨fun t => if t = u then x else .junk, fun _ => none⟩

theorem redo_call {P : Program} {F : Fr} {G : Gh} {st : St} {a : Act} {w : World} (h : Rel P F G st a w) (hWr : ∀ g, ¬ F.Wr g) (hZ : ∀ g, ¬ F.Z g) (hS : ∀ g o, F.S0 g o → g < F.w0.heap.size) {g : Nat} {f : List (List UInt8) → List (List UInt8)} (hg : Redo P g f)
    {s v e : Nat} {zs : List (List UInt8)} (hs : st.tm s = .own e 1 (zs.map .str)) (hv : v < F.nt) {o : Oper} {ts : Array TypeId} (ho : o.op = .call ⟨.value (.func g), #[.tmp s], ts⟩) (hod : o.dst = some v)
    {K : Act → World → Prop} {Q : Exit → Act → World → Prop} (hK : ∀ a' w' G', Rel P F G' (only v (.d (.sl 1 ((f zs).map .str)))) a' w' → K a' w') : o.wp P a w K Q := by
  have hrs := h.tm s
  rw [hs] at hrs
  generalize hu : a.tmps.getD s undef = u at hrs
  have hown : OwnAt G w (.t s, 0, 0) e 1 (zs.map .str) u := hrs
  have hrunX : (execOp a.eval o).run P w = .ok (.enter g #[u]) w := by
    have := run_callFunc hg.fn #[u] w
    simp [execOp, ho, resolve, Deferred.ofValue, invoke, Act.eval, hu]
    simpa [Act.eval] using this
  -- what remains to be shown of the end
  have fin : ∀ (r : Value) (w' : World) (im' : Nat → Nat → Prop), RepD im' w' (.sl 1 ((f zs).map .str)) r → (∀ b o, F.S0 b o → im' b o) → (∀ b o, im' b o → F.S0 b o ∨ (F.w0.heap.size ≤ b ∧ b < w'.heap.size)) →
      w.heap.size ≤ w'.heap.size → (∀ k, k < F.w0.heap.size → w'.heap[k]? = w.heap[k]?) → w'.os = w.os → w'.tape = w.tape → w'.output = w.output → K (a.put o.dst r) w' := by
    intro r w' im' hr h1 h2 h3 h4 h5 h6 h7
    have hx := h.sn.ext
    let G' : Gh := { im := im', β := G.β, live := fun _ => False, own := fun _ => none, fz := fun g => g < F.w0.heap.size }
    refine hK _ w' G' ⟨fun t => ?_, ⟨fun b cells hc => (by cases hc), fun b => (by simp [only, G']), fun b b' hl => hl.elim, fun b o hb => ?_, fun b p hp => (by cases hp), fun b hl => hl.elim, fun b hl => hl.elim⟩,
      ⟨⟨h5.trans hx.os, h6.trans hx.tape, h7.trans hx.output, Nat.le_trans hx.size h3, fun b hb hn => (h4 b hb).trans (hx.old b hb hn), fun b o hb => ⟨h1 b o hb, ?_⟩, fun b o hb => ?_⟩, fun b p hp => (by cases hp), fun b hl => hl.elim, h.sn.βa, fun b hb => ⟨hb, hWr b⟩, fun b h1 _ => h1⟩, ?_, ?_, fun g hg => absurd hg (hZ g)⟩
    · rw [hod]
      by_cases ht : t = v
      · subst ht
        have e1 : ((a.put (some t) r).tmps).getD t undef = r := by
          simp [Act.put, Array.getD_eq_getD_getElem?, h.nt, hv]
        rw [e1]
        show RepT P G' w' (.t t) (if t = t then _ else _) r
        rw [if_pos rfl]
        exact ⟨hr, rfl⟩
      · show RepT P G' w' (.t t) (if t = v then _ else .junk) _
        rw [if_neg ht]
        trivial
    · rcases h2 b o hb with h | h
      · exact Nat.lt_of_lt_of_le (hS b o h) (Nat.le_trans hx.size h3)
      · exact h.2
    · have hb' := hS b o hb
      have : w'.heap[b]? = F.w0.heap[b]? := (h4 b hb').trans (hx.old b hb' (hWr b))
      unfold World.cell?
      simp only [this]
    · rcases h2 b o hb with h | h
      · exact .inl h
      · exact .inr (.inl h.1)
    · rw [hod]; simp [Act.put, h.nt]
    · rw [hod]; exact h.defers
  unfold Oper.wp
  rw [hrunX]
  have hx := h.sn.ext
  by_cases hz : zs = []
  · subst hz
    have hsh : ∃ b c, u = .slice b 0 c ∧ (b = none → c = 0) := by
      rcases hown.1.sl_shape with ⟨-, h2⟩ | ⟨b, o, c, h2, -⟩ | ⟨-, a, c, h2⟩
      · exact ⟨none, 0, h2, fun _ => rfl⟩
      · exact ⟨_, c, h2, fun e => by cases e⟩
      · exact ⟨_, c, h2, fun e => by cases e⟩
    obtain ⟨b, c, rfl, hbc⟩ := hsh
    refine Calls.mono (hg.empty w b c) ?_
    rintro e' w' ⟨rfl, h1, h2, h3, h4⟩
    refine fin _ w' F.S0 ?_ (fun _ _ h => h) (fun _ _ h => .inl h) (by rw [h1]; exact Nat.le_refl _) (fun k _ => by rw [h1]) h2 h3 h4
    rw [hg.nil]
    rcases hown.1.sl_shape with ⟨-, h2⟩ | ⟨b', o', c', h2, h5, h6, h7⟩ | ⟨-, a', c', h2⟩
    · rw [h2]; exact .nil 1
    rotate_left
    · rw [h2]; exact .emp 1 a' c'
    · rw [h2]
      refine .sl 1 [] b' o' c' [] (by simp) (by simp) (by simp) (by simp [flat]) rfl (fun i v hv => by simp at hv) (fun i x v hx hv => by simp at hv)
  · obtain ⟨blk, off, c, rfl, h2, ⟨vs, k1, k2, k3, k4⟩, h4, cs, e', h5⟩ := own_block hown (by simpa using hz)
    rw [flat_str] at k1 k2 k4
    simp only [List.length_map] at h2 k1
    have hblk : blk < w.heap.size := h.hp.ownlt blk _ h4
    have hfresh : F.w0.heap.size ≤ blk := (h.sn.own blk _ h4).resolve_right (hWr blk)
    have hlen : zs.length ≤ 140737488355328 := by simpa using hown.1.len
    have hcell : ∀ (i : Nat) s, zs[i]? = some s → w.cell? ⟨blk, off + i, none⟩ = some (encStr s) ∧ s.length ≤ 140737488355328 := by
      intro i s hi
      have hlt : i < vs.length := by rw [k1]; exact (List.getElem?_eq_some_iff.1 hi).1
      obtain ⟨m1, m2⟩ := k3 i vs[i] (List.getElem?_eq_getElem hlt)
      have m3 := k4 i (.str s) vs[i] (by rw [List.getElem?_map, hi]; rfl) (List.getElem?_eq_getElem hlt)
      rw [m2]
      generalize vs[i] = y at m3
      cases m3 with
      | str _ hb => exact ⟨rfl, hb⟩
    have hH : Holds encStr w blk off zs.toArray := by
      intro j hj
      have hj' : j < zs.length := by simpa using hj
      have e1 : zs.toArray[j]! = zs[j] := by rw [getElem!_pos _ j (by simpa using hj')]; simp
      refine ⟨by rw [e1]; exact (hcell j zs[j] (List.getElem?_eq_getElem hj')).1, by simp [World.frozen?, h5]⟩
    have hc := hg.full w blk off c zs hz hH hblk h2 hlen
    simp only [List.length_map]
    refine Calls.mono hc ?_
    rintro e1 w' ⟨c', rfl, q1, q2, q3, q4, q5, q6, q7, q8, q9⟩
    refine fin _ w' (fun b o => F.S0 b o ∨ (b = blk ∧ off ≤ o ∧ o < off + (f zs).length)) ?_ (fun _ _ h => .inl h) (fun b o hb => hb.imp id (fun ⟨e, _⟩ => e ▸ ⟨hfresh, Nat.lt_of_lt_of_le hblk q4⟩)) q4 (fun k hk => q3 k (Nat.lt_of_lt_of_le hk hx.size) (by omega)) q5 q6 q7
    have e2 : (f zs).length = ((f zs).map PD.str).length := by simp
    rw [e2]
    refine .sl 1 ((f zs).map .str) blk off c' ((f zs).map encStr) (by simp; omega) (by simpa using q1) (fun x hx => by obtain ⟨s, -, rfl⟩ := List.mem_map.1 hx; rfl) (fun x hx => ?_) (by rw [flat_str]; simp) (fun i v hv => ?_) (fun i x v hx hv => ?_)
    · rw [flat_str] at hx; obtain ⟨s, -, rfl⟩ := List.mem_map.1 hx; rfl
    · rw [List.getElem?_map] at hv
      obtain ⟨s, hs', rfl⟩ := Option.map_eq_some_iff.1 hv
      have hlt := (List.getElem?_eq_some_iff.1 hs').1
      exact ⟨.inr ⟨rfl, by omega, by omega⟩, q2 i s hs'⟩
    · rw [flat_str, List.getElem?_map] at hx
      rw [List.getElem?_map] at hv
      obtain ⟨s, hs', rfl⟩ := Option.map_eq_some_iff.1 hv
      rw [hs'] at hx
      cases hx
      have hm := q9 s (List.mem_of_getElem? hs')
      obtain ⟨j, hj⟩ := List.getElem?_of_mem hm
      exact .str s (hcell j s hj).2

/-- A function's text, of which the run is known. -/
theorem body_calls {P : Program} {f : Nat} {fn : Func} {c : Code} (hf : P.funcs[f]? = some fn) (hb : fn.body = some c) {rs : List ResultVar} (hrs : fn.results = rs.toArray)
    {bi bo : List (List PV)} {args : List PV} {r : PV} (ha : args.length ≤ fn.ntmps) {Q : Ex → St → Prop} (hQn : ∀ s, Q .normal s → wk P (retK P rs r bo) s) (hQr : ∀ s, Q .ret s → wk P (retK P rs r bo) s) (hQe : ∀ i s, Q (.exit i) s → False)
    (G : Gh) (w : World) (vs : Array Value) (Wr : Nat → Prop) (hvs : vs.size = args.length) (hargs : ∀ (i : Nat) x u, args[i]? = some x → vs[i]? = some u → RepT P G w (.t i) x u) (hp : Hp P G w (bxOf bi))
    (hown : ∀ g p, G.own g = some p → Wr g) (hbox : ∀ b, G.live b → Wr (G.β b)) (hfz : ∀ g, G.fz g → g < w.heap.size ∧ ¬ Wr g) (hfm : ∀ g, g < w.heap.size → ¬ Wr g → G.fz g)
    (hsem : ∀ F : Fr, F.nt = fn.ntmps → F.S0 = G.im → F.w0 = w → F.Wr = Wr → (∀ g, ¬ F.Z g) → ∀ a, Rel P F G (St.init args bi) a w → c.wp P (lift P F Q) a w) :
    Calls P f vs w fun e w' => ∃ v G', e = .returned v ∧ RepT P G' w' .res r v ∧ Hp P G' w' (bxOf bo) ∧ Ext G.im w G'.im w' Wr ∧ (∀ k, G'.β (.a k) = G.β (.a k)) ∧ (∀ g p, G'.own g = some p → w.heap.size ≤ g ∨ Wr g) := by
  have hrs' : fn.results.toList = rs := by rw [hrs]
  rw [← hrs'] at hQn hQr
  let F : Fr := ⟨fn.ntmps, G.im, w, Wr, fun k => G.β (.a k), fun _ => False⟩
  have hsz : (vs ++ Array.replicate (fn.ntmps - vs.size) undef).size = fn.ntmps := by simp; omega
  have hrel : Rel P F G (St.init args bi) { tmps := vs ++ Array.replicate (fn.ntmps - vs.size) undef, defers := [] } w := by
    refine ⟨fun t => ?_, hp, ⟨Ext.refl _ _ _, fun g p hg => .inr (hown g p hg), fun b hl => .inr (hbox b hl), fun k => rfl, hfz, hfm⟩, hsz, rfl, fun g hg => hg.elim⟩
    by_cases ht : t < args.length
    · have h1 : args[t]? = some args[t] := List.getElem?_eq_getElem ht
      have h2 : vs[t]? = some vs[t] := Array.getElem?_eq_getElem (by omega)
      have h3 : (vs ++ Array.replicate (fn.ntmps - vs.size) undef).getD t undef = vs[t] := by
        rw [Array.getD_eq_getD_getElem?, Array.getElem?_append_left (by omega), h2]; rfl
      have h4 : (St.init args bi).tm t = args[t] := by simp [St.init, h1]
      show RepT P G w (.t t) ((St.init args bi).tm t) ((vs ++ Array.replicate (fn.ntmps - vs.size) undef).getD t undef)
      rw [h3, h4]
      exact hargs t _ _ h1 h2
    · have h4 : (St.init args bi).tm t = .und := by simp [St.init, List.getElem?_eq_none (Nat.le_of_not_lt ht)]
      show RepT P G w (.t t) ((St.init args bi).tm t) ((vs ++ Array.replicate (fn.ntmps - vs.size) undef).getD t undef)
      rw [h4]
      show (vs ++ Array.replicate (fn.ntmps - vs.size) undef).getD t undef = undef
      rw [Array.getD_eq_getD_getElem?, Array.getElem?_append_right (by omega)]
      by_cases h5 : t - vs.size < fn.ntmps - vs.size
      · simp [h5]
      · simp [h5]
  refine calls_of_wp hf hb ?_
  refine wp_mono (hsem F rfl rfl rfl rfl (fun _ h => h) _ hrel) fun e a' w' he => ?_
  have hend : ∀ G1 s, Rel P F G1 s a' w' → wk P (retK P fn.results.toList r bo) s → a'.defers = [] ∧ ∃ v, (results fn a'.tmps).run P w' = .ok v w' ∧
      ∃ v' G', Ending.returned v = .returned v' ∧ RepT P G' w' .res r v' ∧ Hp P G' w' (bxOf bo) ∧ Ext G.im w G'.im w' Wr ∧ (∀ k, G'.β (.a k) = G.β (.a k)) ∧ ∀ g p, G'.own g = some p → w.heap.size ≤ g ∨ Wr g := by
    rintro G0 s0 hR0 ⟨s, hw, hk⟩
    obtain ⟨G1, hR⟩ := hw F G0 a' w' hR0
    obtain ⟨v, G', h1, h2, h3, h4, h5, h6⟩ := ret_sound hR hk
    refine ⟨hR.defers, v, h1, v, G', rfl, h2, h3, by rw [h4]; exact hR.sn.ext, fun k => by rw [h5 k]; exact hR.sn.βa k, fun g p hg => ?_⟩
    obtain ⟨q, hq⟩ := h6 g p hg
    exact hR.sn.own g q hq
  cases e with
  | normal => obtain ⟨G1, s, hR, hk⟩ := he; exact hend G1 s hR (hQn s hk)
  | ret => obtain ⟨G1, s, hR, hk⟩ := he; exact hend G1 s hR (hQr s hk)
  | exit id => obtain ⟨G1, s, hR, hk⟩ := he; exact (hQe id s hk).elim
  | goto l => exact he.elim
  | panic c => exact he.elim
  | outgrown => exact he.elim

/-- An argument that is plain data. -/
def plainArg : PV → Bool
  | .d _ => true
  | .agg l => l.all fun | .d _ => true | _ => false
  | _ => false
theorem BRet.pure {P : Program} {f : Nat} {args : List PV} {r : PV} (hf : isFn P f = true) (hpl : args.all plainArg = true)
    (h : ∀ (G : Gh) (w : World) (vs : Array Value), vs.size = args.length → (∀ (i : Nat) x u, args[i]? = some x → vs[i]? = some u → RepT P G w (.t i) x u) → Hp P G w (bxOf []) → (∀ g, G.own g = none) → (∀ b, ¬ G.live b) → (∀ g, G.fz g ↔ g < w.heap.size) →
      Calls P f vs w fun e w' => ∃ v G', e = .returned v ∧ RepT P G' w' .res r v ∧ Hp P G' w' (bxOf []) ∧ Ext G.im w G'.im w' (fun _ => False) ∧ (∀ k, G'.β (.a k) = G.β (.a k)) ∧ (∀ g p, G'.own g = some p → w.heap.size ≤ g ∨ False)) : BRet P f [] args r [] := by
  refine ⟨hf, rfl, fun G w vs Wr hvs hargs hp hown hbox hfz hfm => ?_⟩
  let G0 : Gh := { im := G.im, β := G.β, live := fun _ => False, own := fun _ => none, fz := fun g => g < w.heap.size }
  refine Calls.mono (h G0 w vs hvs (fun i x u hx hu => ?_) ⟨fun b cells hc => (by simp [bxOf_nil'] at hc), fun b => (by simp [bxOf_nil', G0]), fun b b' hl => hl.elim, hp.imlt, fun g p hg => (by cases hg), fun b hl => hl.elim, fun b hl => hl.elim⟩ (fun _ => rfl) (fun _ hl => hl) (fun _ => Iff.rfl)) ?_
  · have hr := hargs i x u hx hu
    have hpx := List.all_eq_true.1 hpl x (List.mem_of_getElem? hx)
    cases x with
    | d y => exact hr
    | agg l =>
      obtain ⟨cs, h1, h2, h3, h4⟩ := hr
      refine ⟨cs, h1, h2, h3, fun j y u hy hu => ?_⟩
      have h5 := h4 j y u hy hu
      have h6 := List.all_eq_true.1 hpx y (List.mem_of_getElem? hy)
      cases y <;> first | exact h5 | simp at h6
    | _ => simp [plainArg] at hpx
  · rintro e w' ⟨v, G', h1, h2, h3, h4, h5, h6⟩
    refine ⟨v, G', h1, h2, h3, ⟨h4.os, h4.tape, h4.output, h4.size, fun b hb _ => h4.old b hb id, h4.keep, fun b o hb => ?_⟩, h5, fun g p hg => (h6 g p hg).imp id False.elim, fun g hg => ?_⟩
    rotate_left
    · have hsame := h4.old g hg.lt id
      refine ⟨.of_heap hsame, by rw [hsame]; exact hg.1, ?_, fun o ho => ?_⟩
      · cases hcase : G'.own g with
        | none => rfl
        | some p =>
          have := hg.lt
          rcases h6 g p hcase with h | h
          · omega
          · exact h.elim
      · have := hg.lt
        rcases h4.new g o ho with h | h | h
        · exact hg.2.2.2.1 o h
        · omega
        · exact h
    rcases h4.new b o hb with h | h | h
    · exact .inl h
    · exact .inr (.inl h)
    · exact h.elim

/-! A text and what comes after it. -/
def plug : Nat → Code → Code → Code
  | n + 1, .seq a b, X => .seq a (plug n b X)
  | _, c, X => .seq c X
/-- The text without its n + 2nd part. -/
def cutN : Nat → Code → Code
  | 0, .seq a b => a
  | n + 1, .seq a b => .seq a (cutN n b)
  | _, c => c
theorem cutN_0 (a b : Code) : cutN 0 (.seq a b) = a := rfl
theorem cutN_s (n : Nat) (a b : Code) : cutN (n + 1) (.seq a b) = .seq a (cutN n b) := rfl
theorem plug_one {P : Program} {H : Nat → List Nat} {F : Fr} (hm : P.follows .mixedOrders = true) {X : Code} {Q : Ex → St → Prop} {Q' : Exit → Act → World → Prop} (hn : ∀ G s a w, Rel P F G s a w → Q .normal s → X.wp P Q' a w)
    (hr : ∀ G s a w, Rel P F G s a w → Q .ret s → Q' .ret a w) (hx : ∀ i s, Q (.exit i) s → False) (c : Code) (G : Gh) (st : St) (a : Act) (w : World) (hd : cOk P H F.nt c = true) (h : bwp P H c Q st) (hR : Rel P F G st a w) : (Code.seq c X).wp P Q' a w := by
  refine wp_seq ?_
  refine wp_mono (bwp_sound hm c _ G st a w hd h hR) fun e a' w' he => ?_
  cases e with
  | normal => obtain ⟨G', s', h', hq⟩ := he; exact hn G' s' a' w' h' hq
  | exit id => obtain ⟨G', s', h', hq⟩ := he; exact (hx id s' hq).elim
  | ret => obtain ⟨G', s', h', hq⟩ := he; exact hr G' s' a' w' h' hq
  | goto l => exact he.elim
  | panic c => exact he.elim
  | outgrown => exact he.elim
theorem plug_sound {P : Program} {H : Nat → List Nat} {F : Fr} (hm : P.follows .mixedOrders = true) {X : Code} {Q : Ex → St → Prop} {Q' : Exit → Act → World → Prop} (hn : ∀ G s a w, Rel P F G s a w → Q .normal s → X.wp P Q' a w)
    (hr : ∀ G s a w, Rel P F G s a w → Q .ret s → Q' .ret a w) (hx : ∀ i s, Q (.exit i) s → False) : ∀ (n : Nat) (c : Code) (G : Gh) (st : St) (a : Act) (w : World), cOk P H F.nt c = true → bwp P H c Q st → Rel P F G st a w → (plug n c X).wp P Q' a w := by
  intro n
  induction n with
  | zero => exact fun c G st a w hd h hR => plug_one hm hn hr hx c G st a w hd h hR
  | succ n ih =>
    intro c G st a w hd h hR
    cases c with
    | seq x y =>
      simp only [cOk, Bool.and_eq_true] at hd
      refine wp_seq ?_
      refine wp_mono (bwp_sound hm x _ G st a w hd.1 h hR) fun e a' w' he => ?_
      cases e with
      | normal => obtain ⟨G', s', h', hq⟩ := he; exact ih y G' s' a' w' hd.2 hq h'
      | exit id => obtain ⟨G', s', h', hq⟩ := he; exact (hx id s' hq).elim
      | ret => obtain ⟨G', s', h', hq⟩ := he; exact hr G' s' a' w' h' hq
      | goto l => exact he.elim
      | panic c => exact he.elim
      | outgrown => exact he.elim
    | _ => exact plug_one hm hn hr hx _ G st a w hd h hR

def tailQ (s e : Nat) (zs : List (List UInt8)) : Ex → St → Prop
  | .normal => fun st => st.tm s = .own e 1 (zs.map .str)
  | _ => fun _ => False
/-- A function that ends with such a call. -/
theorem BRet.tail {P : Program} (H : Nat → List Nat) (hm : P.follows .mixedOrders = true) {f : Nat} {fn : Func} (n : Nat) {A c : Code} (hf : P.funcs[f]? = some fn) {id s u v r g : Nat} {ts : Array TypeId} {ty0 ty1 ty2 : TypeId} {p0 p1 p2 : String} {a0 a1 a2 : Array Edge}
    (hb : fn.body = some c) (hcut : cutN n c = A) (hplug : c = plug n A (.seq (.region id #[⟨some u, .move (.tmp s), ty0, p0, a0, none⟩, ⟨some v, .call ⟨.value (.func g), #[.tmp u], ts⟩, ty1, p1, a1, none⟩, ⟨some r, .assign (.tmp v), ty2, p2, a2, none⟩] false) .ret))
    (hn : (fn.name != "runtime.NumGoroutine") = true) (hd : cOk P H fn.ntmps A = true) (hrs : fn.results = #[.tmp r]) {args : List PV} (ha : args.length ≤ fn.ntmps) (hpl : args.all plainArg = true) (hu : u < fn.ntmps) (hv : v < fn.ntmps) (hr : r < fn.ntmps)
    {f' : List (List UInt8) → List (List UInt8)} (hg : Redo P g f') {e : Nat} {zs : List (List UInt8)} (hA : bwp P H A (tailQ s e zs) (St.init args [])) : BRet P f [] args (.d (.sl 1 ((f' zs).map .str))) [] := by
  refine BRet.pure (by simp [isFn, hf, hb, hn]) hpl fun G w vs hvs hargs hp hown hlive hfz => ?_
  refine body_calls hf hb (rs := [.tmp r]) hrs ha (Q := endW P [.tmp r] (.d (.sl 1 ((f' zs).map .str))) []) (fun s hs => hs) (fun s hs => hs) (fun i s hs => hs) G w vs (fun _ => False) hvs hargs hp (fun g p hg => by rw [hown g] at hg; cases hg) (fun b hl => (hlive b hl)) (fun g hg => ⟨(hfz g).1 hg, fun h => h⟩) (fun g h1 _ => (hfz g).2 h1) ?_
  intro F hF1 hF2 hF3 hF4 hF5 a hR
  rw [hplug]
  refine plug_sound (Q := tailQ s e zs) hm (fun G1 s1 a1 w1 h1 hq => ?_) (fun G1 s1 a1 w1 h1 hq => hq.elim) (fun i s1 hq => hq) n A G _ a w (by rw [hF1]; exact hd) hA hR
  refine wp_seq ?_
  refine wp_region ?_
  have hlow : ∀ g o, F.S0 g o → g < F.w0.heap.size := by rw [hF2, hF3]; exact hp.imlt
  have hWr : ∀ g, ¬ F.Wr g := by rw [hF4]; exact fun _ h => h
  show wpOps P _ _ [0, 1, 2] a1 w1
  rw [wpOps_cons]
  unfold wpOp
  simp only [List.getElem?_toArray, List.getElem?_cons_zero, Region.wanted, if_true]
  have hq' : s1.tm s = .own e 1 (zs.map .str) := hq
  refine .inl (ev1_sound h1 (fl := ⟨true, true, true⟩) (v := .own e 1 (zs.map .str)) (B' := s1.bx) (fun d' hd' => by cases hd'; rw [hF1]; exact hu) (by simp [ev1, mvd, St.ev, hq', vz]) ?_)
  rintro a2 w2 ⟨G2, h2⟩
  rw [wpOps_cons]
  unfold wpOp
  simp only [List.getElem?_toArray, List.getElem?_cons_succ, List.getElem?_cons_zero, Region.wanted, if_true]
  refine .inl (redo_call h2 hWr hF5 hlow hg (s := u) (v := v) (e := e) (zs := zs) (by simp [St.after, St.upd]) (by rw [hF1]; exact hv) rfl rfl ?_)
  intro a3 w3 G3 h3
  rw [wpOps_cons]
  unfold wpOp
  simp only [List.getElem?_toArray, List.getElem?_cons_succ, List.getElem?_cons_zero, Region.wanted, if_true]
  refine .inl (ev1_sound h3 (fl := ⟨true, true, true⟩) (v := .d (.sl 1 ((f' zs).map .str))) (B' := fun _ => none) (fun d' hd' => by cases hd'; rw [hF1]; exact hr) (by simp [ev1, mvd, St.ev, only, vz]) ?_)
  rintro a4 w4 ⟨G4, h4⟩
  refine wp_ret ⟨G4, _, h4, _, Weak.refl _, ?_⟩
  rw [ret_1]
  refine ⟨?_, ?_, ?_⟩ <;> simp [St.after, St.upd, PV.gives2, PV.gives1, PV.pass1, only]

/-! Steps by hand. -/
theorem raw_call {P : Program} {a : Act} {w : World} {o : Oper} {f s : Nat} {u : Value} {ts : Array TypeId} {K : Act → World → Prop} {Q : Exit → Act → World → Prop} (hfn : isFn P f = true) (ho : o.op = .call ⟨.value (.func f), #[.tmp s], ts⟩) (hu : a.tmps.getD s undef = u)
    (hc : Calls P f #[u] w fun e w' => ∃ r, e = .returned r ∧ K (a.put o.dst r) w') : o.wp P a w K Q := by
  have hrunX : (execOp a.eval o).run P w = .ok (.enter f #[u]) w := by
    have := run_callFunc hfn #[u] w
    simp [execOp, ho, resolve, Deferred.ofValue, invoke, Act.eval, hu]
    simpa [Act.eval] using this
  unfold Oper.wp
  rw [hrunX]
  refine Calls.mono hc ?_
  rintro e w' ⟨r, rfl, h⟩
  exact h
theorem raw_move {P : Program} {a : Act} {w : World} {o : Oper} {x : Operand} {K : Act → World → Prop} {Q : Exit → Act → World → Prop} (ho : o.op = .move x) (h : K (a.put o.dst (a.eval x)) w) : o.wp P a w K Q :=
  wp_value (by simp [execOp, ho]) h
theorem raw_assign {P : Program} {a : Act} {w : World} {o : Oper} {x : Operand} {K : Act → World → Prop} {Q : Exit → Act → World → Prop} (ho : o.op = .assign x) (h : K (a.put o.dst (a.eval x)) w) : o.wp P a w K Q :=
  wp_value (by simp [execOp, ho]) h
theorem raw_at {P : Program} {ops : Array Oper} {i : Nat} {o : Oper} {l : List Nat} {a : Act} {w : World} {Q : Exit → Act → World → Prop} (ho : ops[i]? = some o) (hg : o.guard = none) (h : o.wp P a w (wpOps P ops Q l) Q) : wpOps P ops Q (i :: l) a w := by
  rw [wpOps_cons]
  unfold wpOp
  rw [ho]
  simp only [Region.wanted, hg, if_true]
  exact .inl h
end Go.Bee
