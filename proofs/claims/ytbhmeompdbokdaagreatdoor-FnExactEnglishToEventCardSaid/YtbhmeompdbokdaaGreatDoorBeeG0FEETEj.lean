/-
The logic and the walks, part 10. No condition.
-/
import Derived.Test.YtbhmeompdbokdaaGreatDoorBeeG0FEETEg
import Derived.ChangeArms
import Derived.SizedLaws
import Derived.Deep.Slices
import Derived.ChangeOld
import Derived.Below
import Derived.Carry
import Derived.ProofKit
import Derived.Test.YtbhmeompdbokdaaGreatDoorBeeG0FEETEh
import Derived.Handed
import Derived.HandedShaped
import Derived.Shelf.Vars
import Derived.FnData
import Derived.Test.YtbhmeompdbokdaaGreatDoorBeeG0FEETEi
import Derived.Test.YtbhmeompdbokdaaGreatDoorProg
import Derived.Shelf.Strings.IndexAnyAll
import Derived.Lib.OthersKept
import Derived.Laws.RangeAny
import Derived.Shelf.Small.Utf8
import Derived.Laws.Runes
import Derived.RegionTactic
import Derived.Deep.RegionWith
import Derived.ChangeAlike
namespace Go.Bee
open Go.ChangeShapes Go.WideShapes Go.ChangeAt Go.RowKit
set_option linter.unusedVariables false

def Old (w : World) : Nat → Nat → Prop := fun g _ => g < w.heap.size
def Cells (w : World) (ps : List PD) (cs : List Value) : Prop := ps.length = cs.length ∧ (∀ x ∈ ps, x.scalar = true) ∧ ∀ (i : Nat) x v, ps[i]? = some x → cs[i]? = some v → RepD (Old w) w x v
theorem Cells.append {w : World} {ps ps' : List PD} {cs cs' : List Value} (h : Cells w ps cs) (k : Cells w ps' cs') : Cells w (ps ++ ps') (cs ++ cs') := by
  obtain ⟨h1, h2, h3⟩ := h
  obtain ⟨k1, k2, k3⟩ := k
  refine ⟨by simp [h1, k1], fun x hx => (List.mem_append.1 hx).elim (h2 x) (k2 x), fun i x v hx hv => ?_⟩
  by_cases hi : i < ps.length
  · rw [List.getElem?_append_left hi] at hx
    rw [List.getElem?_append_left (by omega)] at hv
    exact h3 i x v hx hv
  · rw [List.getElem?_append_right (by omega)] at hx hv
    rw [h1] at hx
    exact k3 _ x v hx hv
def OpnN {α : Type} (P : Program) (t : TypeId) (e : α → PD) (B : α → Prop) (fuel : Nat) : Prop :=
  ∀ (H : Type) (enc : TypeId × Value → H) (w : World) (spare : Nat → Bool) (held : Bool) (cs : List Value) (x : DataW H × List MemPlace),
    DataW.trod enc P w 0 spare held fuel t cs = some x → (∀ n ∈ x.1.weights P t, n ≤ reachBytes) → ∃ a, B a ∧ Cells w (e a).cells cs
def Opn {α : Type} (P : Program) (t : TypeId) (e : α → PD) (B : α → Prop) : Prop := ∀ fuel, OpnN P t e B fuel
theorem cells_one {w : World} {x : PD} {v : Value} (hs : x.scalar = true) (h : RepD (Old w) w x v) : Cells w x.cells [v] := by
  have hc : x.cells = [x] := by cases x <;> first | rfl | simp [PD.scalar] at hs
  rw [hc]
  refine ⟨rfl, by simpa using hs, fun i y u hy hu => ?_⟩
  cases i with
  | zero => simp at hy hu; subst hy; subst hu; exact h
  | succ i => simp at hy
theorem opn_str {P : Program} {t : TypeId} (ht : P.underlying t = some .string) : Opn P t PD.str (fun _ => True) := by
  intro fuel H enc w spare held cs x h hb
  obtain ⟨s, rfl, rfl, _⟩ := DataW.trod_string ht h
  have := hb s.data.toList.length (by simp [DataW.weights])
  refine ⟨s.data.toList, trivial, cells_one rfl ?_⟩
  have hr := RepD.str (S := Old w) (w := w) s.data.toList (by unfold reachBytes at this; omega)
  simpa using hr
theorem choose_list {α : Type} (n : Nat) (R : Nat → α → Prop) (h : ∀ i, i < n → ∃ y, R i y) : ∃ ys : List α, ys.length = n ∧ ∀ i y, ys[i]? = some y → R i y := by
  induction n with
  | zero => exact ⟨[], rfl, fun i y hy => by simp at hy⟩
  | succ n ih =>
    obtain ⟨ys, hl, hr⟩ := ih (fun i hi => h i (by omega))
    obtain ⟨y, hy⟩ := h n (by omega)
    refine ⟨ys ++ [y], by simp [hl], fun i z hz => ?_⟩
    by_cases hi : i < ys.length
    · rw [List.getElem?_append_left hi] at hz
      exact hr i z hz
    · rw [List.getElem?_append_right (by omega)] at hz
      have : i = ys.length := by
        have := (List.getElem?_eq_some_iff.1 hz).1
        simp at this
        omega
      subst this
      simp at hz
      subst hz
      rw [hl]
      exact hy
theorem mem_weightsAll {H : Type} (P : Program) (e : TypeId) {n : Nat} : ∀ (l : List (DataW H)) (d : DataW H), d ∈ l → n ∈ d.weights P e → n ∈ DataW.weightsAll P e l
  | [], d, hd, _ => by simp at hd
  | a :: l, d, hd, hn => by
    rw [DataW.weightsAll, List.mem_append]
    rcases List.mem_cons.1 hd with rfl | hd
    · exact .inl hn
    · exact .inr (mem_weightsAll P e l d hd hn)
theorem cell_lt {w : World} {a : Addr} {v : Value} (h : w.cell? a = some v) : a.block < w.heap.size ∧ a.spot = none := by
  unfold World.cell? at h
  split at h
  · rename_i c _ _ hc
    split at h
    · cases h
    · rename_i hs
      exact ⟨(Array.getElem?_eq_some_iff.1 hc).1, by simpa using hs⟩
  · cases h
theorem run_of_each {w : World} {sz g : Nat} {α : Type} {e : α → PD} : ∀ (ys : List α) (o : Nat), (∀ (i : Nat) y, ys[i]? = some y → ∃ cs : List Value, cs.length = sz ∧ (∀ (j : Nat) u, cs[j]? = some u → w.cell? ⟨g, o + i * sz + j, none⟩ = some u) ∧ Cells w (e y).cells cs) →
    ∃ vs : List Value, vs.length = ys.length * sz ∧ Cells w (flat (ys.map e)) vs ∧ ∀ (i : Nat) v, vs[i]? = some v → w.cell? ⟨g, o + i, none⟩ = some v
  | [], o, _ => ⟨[], by simp, ⟨by simp [flat], by simp [flat], by simp [flat]⟩, by simp⟩
  | y :: ys, o, h => by
    obtain ⟨cs, h1, h2, h3⟩ := h 0 y rfl
    obtain ⟨vs, k1, k2, k3⟩ := run_of_each (w := w) (sz := sz) (g := g) (e := e) ys (o + sz) (fun i z hz => by
      obtain ⟨cs', q1, q2, q3⟩ := h (i + 1) z (by simpa using hz)
      refine ⟨cs', q1, fun j u hu => ?_, q3⟩
      rw [← q2 j u hu]
      congr 2
      rw [Nat.add_mul]; omega)
    refine ⟨cs ++ vs, by simp [h1, k1, Nat.add_mul]; omega, ?_, fun i v hv => ?_⟩
    · rw [List.map_cons, flat_cons]; exact h3.append k2
    · by_cases hi : i < cs.length
      · rw [List.getElem?_append_left hi] at hv
        have := h2 i v hv
        simpa using this
      · rw [List.getElem?_append_right (by omega)] at hv
        rw [← k3 _ v hv]
        congr 2
        omega
theorem opn_slice {P : Program} {t e : TypeId} {α : Type} {d : α → PD} {B : α → Prop} {sz fuel : Nat} (ht : P.underlying t = some (.slice e)) (hC : P.cellsOf e = sz) (hz : 0 < sz) (hby : 0 < P.bytesOf e)
    (h : ∀ n, n < fuel → OpnN P e d B n) : OpnN P t (fun l : List α => .sl sz (l.map d)) (fun l => ∀ a ∈ l, B a) fuel := by
  intro H enc w spare held cs x hx hw
  rcases DataW.trod_slice ht hx with ⟨rfl, _⟩ | ⟨a, len, cap, elems, rest, n, rfl, rfl, rfl, _, hl, hm, hlen, hel, _, _⟩
  · exact ⟨[], by simp, cells_one rfl (.nil sz)⟩
  · have hw2 : ∀ y ∈ elems, ∀ k ∈ y.1.weights P e, k ≤ reachBytes := fun y hy k hk => hw k (by
      rw [DataW.weights, ht]
      refine List.mem_cons_of_mem _ (List.mem_append_left _ (mem_weightsAll P e _ y.1 (List.mem_map_of_mem hy) hk)))
    obtain ⟨ys, hyl, hy⟩ := choose_list (α := α) len (fun i y => ∃ cs', w.cells? 0 (a.add (i * sz)) sz = some cs' ∧ B y ∧ Cells w (d y).cells cs') (fun i hi => by
      have h1 := hel i hi
      rw [List.getElem?_eq_getElem (by omega), Option.bind_eq_some_iff] at h1
      obtain ⟨cs', hc, hd⟩ := h1
      obtain ⟨y, hB, hk⟩ := h n (by omega) H enc w spare held cs' _ hd (hw2 _ (List.getElem_mem _))
      rw [hC] at hc
      exact ⟨y, cs', hc, hB, hk⟩)
    refine ⟨ys, fun y hm => ?_, cells_one rfl ?_⟩
    · obtain ⟨i, hi⟩ := List.getElem?_of_mem hm
      exact (hy i y hi).choose_spec.2.1
    · by_cases h0 : ys = []
      · subst h0
        simp only [List.length_nil] at hyl
        subst hyl
        exact .emp sz a cap
      · have hpos : 0 < ys.length := List.length_pos_iff.2 h0
        obtain ⟨cs0, hc0, -, hk0⟩ := hy 0 ys[0] (List.getElem?_eq_getElem hpos)
        obtain ⟨_, hcl0, hat0⟩ := World.cells?_some hc0
        have hcell := hat0 0 hz
        rw [List.getElem?_eq_getElem (by omega)] at hcell
        have hsp := (cell_lt hcell).2
        have hbl := (cell_lt hcell).1
        obtain ⟨g, o, sp⟩ := a
        have hsp' : sp = none := by simpa [Addr.add] using hsp
        subst hsp'
        obtain ⟨vs, k1, k2, k3⟩ := run_of_each (w := w) (sz := sz) (g := g) (e := d) ys o (fun i y hyi => by
          obtain ⟨cs', hc, hB, hk⟩ := hy i y hyi
          obtain ⟨_, hcl, hat⟩ := World.cells?_some hc
          refine ⟨cs', hcl, fun j u hu => ?_, hk⟩
          have hj : j < sz := by rw [← hcl]; exact (List.getElem?_eq_some_iff.1 hu).1
          have := hat j hj
          rw [hu, Addr.add_lit, Addr.add_lit] at this
          exact this)
        have hll : ys.length = (ys.map d).length := by simp
        have hmax : ys.length ≤ 140737488355328 := by
          have h1 : (elems.length + rest.length) * P.bytesOf e ≤ reachBytes := hw _ (by simp [DataW.weights, ht])
          have h2 : ys.length ≤ (elems.length + rest.length) * P.bytesOf e := Nat.le_trans (by omega) (Nat.le_mul_of_pos_right _ hby)
          unfold reachBytes at h1; omega
        rw [← hyl, hll]
        refine .sl sz (ys.map d) g o cap vs (by rw [← hll]; exact hmax) (by rw [← hll]; omega) (fun x hx => ?_) k2.2.1 k2.1.symm (fun i v hv => ⟨(cell_lt (k3 i v hv)).1, k3 i v hv⟩) k2.2.2
        obtain ⟨y, hym, rfl⟩ := List.mem_map.1 hx
        obtain ⟨i, hi⟩ := List.getElem?_of_mem hym
        obtain ⟨cs', hc, _, hk⟩ := hy i y hi
        obtain ⟨_, hcl, _⟩ := World.cells?_some hc
        rw [hk.1, hcl]
def OpnF {α : Type} (P : Program) (fs : List Field) (off : Nat) (e : α → List PD) (B : α → Prop) (n : Nat) : Prop :=
  ∀ (H : Type) (enc : TypeId × Value → H) (w : World) (spare : Nat → Bool) (held : Bool) (cs : List Value) (xs : List (DataW H × List MemPlace)), xs.length = fs.length →
    (∀ (i : Nat) (f : Field), fs[i]? = some f → DataW.trod enc P w 0 spare held n f.type ((cs.drop f.offset).take (P.cellsOf f.type)) = xs[i]?) →
    (∀ k ∈ DataW.weightsEach P (fs.map (·.type)) (xs.map (·.1)), k ≤ reachBytes) → ∃ y, B y ∧ Cells w (e y) (cs.drop off)
def OpnS {α : Type} (P : Program) (fs : List Field) (off len : Nat) (e : α → List PD) (B : α → Prop) (n : Nat) : Prop :=
  ∀ (H : Type) (enc : TypeId × Value → H) (w : World) (spare : Nat → Bool) (held : Bool) (cs : List Value) (xs : List (DataW H × List MemPlace)), xs.length = fs.length → cs.length = len →
    (∀ (i : Nat) (f : Field), fs[i]? = some f → DataW.trod enc P w 0 spare held n f.type ((cs.drop f.offset).take (P.cellsOf f.type)) = xs[i]?) →
    (∀ k ∈ DataW.weightsEach P (fs.map (·.type)) (xs.map (·.1)), k ≤ reachBytes) → ∃ y, B y ∧ Cells w (e y) (cs.drop off)
theorem OpnN.imp {α : Type} {P : Program} {t : TypeId} {e : α → PD} {B B' : α → Prop} {n : Nat} (h : OpnN P t e B n) (hb : ∀ a, B a → B' a) : OpnN P t e B' n := by
  intro H enc w spare held cs x hx hw
  obtain ⟨a, hB, hk⟩ := h H enc w spare held cs x hx hw
  exact ⟨a, hb a hB, hk⟩

theorem weights_of_each {H : Type} {P : Program} {ts : List TypeId} {ds : List (DataW H)} {j : Nat} {t : TypeId} {d : DataW H} (h : (DataW.weightsEach P ts ds).all (· ≤ reachBytes) = true) (ht : ts[j]? = some t) (hd : ds[j]? = some d) : ∀ n ∈ d.weights P t, n ≤ reachBytes := by
  intro n hn
  have := List.all_eq_true.1 h _ (DataW.weights_mem_each ht hd n hn)
  simpa using this
theorem arg_opn {H : Type} {enc : TypeId × Value → H} {P : Program} {t : TypeId} {α : Type} {e : α → PD} {B : α → Prop} {W : World} {spare : Nat → Bool} {held : Bool} {v : Value} {x : DataW H} {p : List MemPlace} {ts : List TypeId} {ds : List (DataW H)} {j : Nat} (h : Opn P t e B)
    (hsz : (DataW.weightsEach P ts ds).all (· ≤ reachBytes) = true) (ht : ts[j]? = some t) (hd : ds[j]? = some x) (hv : DataW.Trod enc P W 0 spare held t v x p) : ∃ y, B y ∧ Cells W (e y).cells v.cells.toList := by
  obtain ⟨fuel, hf⟩ := hv
  exact h fuel H enc W spare held _ _ hf (weights_of_each hsz ht hd)
def G0 (W : World) : Gh := { im := Old W, β := fun _ => 0, live := fun _ => False, own := fun _ => none, fz := fun g => g < W.heap.size }
theorem G0_hp (P : Program) (W : World) : Hp P (G0 W) W (bxOf []) :=
  ⟨fun b cells hc => (by cases b <;> simp [bxOf] at hc), fun b => (by cases b <;> simp [bxOf, G0]), fun b b' hl => False.elim hl, fun g o h => h, fun g p hg => (by cases hg), fun b hl => False.elim hl, fun b hl => False.elim hl⟩
theorem rep_one {P : Program} {W : World} {i : Nat} {x : PD} {v : Value} (hs : x.scalar = true) (hv : v.cells = #[v]) (h : Cells W x.cells v.cells.toList) : RepT P (G0 W) W (.t i) (.d x) v := by
  have hc : x.cells = [x] := by cases x <;> first | rfl | simp [PD.scalar] at hs
  rw [hc, hv] at h
  exact ⟨h.2.2 0 x v rfl rfl, hs⟩
theorem call_true {P : Program} {f : Nat} {args : List PV} {vs : Array Value} {W : World} (h : BRet P f [] args (.bool true) []) (hl : vs.size = args.length) (ha : ∀ (i : Nat) x u, args[i]? = some x → vs[i]? = some u → RepT P (G0 W) W (.t i) x u) (htb : TabOk P (fun g => g < W.heap.size) W) :
    Calls P f vs W fun e W' => e = .returned (.bool true) ∧ Below W.heap.size W W' := by
  refine Calls.mono (h.2.2 (G0 W) W vs (fun _ => False) hl ha (G0_hp P W) (fun g p hg => by cases hg) (fun b hl => False.elim hl) (fun g hg => ⟨hg, id⟩) (fun g h1 _ => h1) htb) ?_
  rintro e W' ⟨v, G', rfl, hv, -, hx, -⟩
  obtain ⟨hv, -⟩ := hv
  cases hv
  exact ⟨rfl, hx.os, hx.tape, hx.output, hx.size, fun k hk => hx.old k hk id⟩
end Go.Bee


namespace Go.Bee
theorem RepD.strs {S : Nat → Nat → Prop} {w : World} {sz : Nat} {l : List PD} {v : Value} (h : RepD S w (.sl sz l) v) : ∀ s, PD.str s ∈ flat l → s.length ≤ 140737488355328 := by
  intro s hs
  cases h with
  | nil _ => cases hs
  | emp _ _ _ => cases hs
  | sl _ _ g o c vs hb hc hu hs' hl hv hr =>
    obtain ⟨i, hi, he⟩ := List.mem_iff_getElem.1 hs
    exact (hr i _ vs[i] ((List.getElem?_eq_getElem hi).trans (congrArg some he)) (List.getElem?_eq_getElem (by omega))).slen
theorem BRet.strs {P : Program} {f : Nat} {args : List PV} {r : PV} (i : Nat) {sz : Nat} {l : List PD} (hf : isFn P f = true) (ha : args[i]? = some (.d (.sl sz l))) (h : (∀ s, PD.str s ∈ flat l → s.length ≤ 140737488355328) → BRet P f [] args r []) : BRet P f [] args r [] :=
  BRet.know hf rfl (fun G w vs hvs hargs => by
    have hi : i < vs.size := by rw [hvs]; exact (List.getElem?_eq_some_iff.1 ha).1
    exact (hargs i _ vs[i] ha (Array.getElem?_eq_getElem hi)).1.strs) h
end Go.Bee
namespace Go.Bee.C24d
open Go Go.Bee Go.Proofs Go.Bee.Ty Go.Bee.C23 Go.Bee.C23s Go.Bee.Da Go.Bee.C24 Go.Bee.C24c
set_option linter.unusedVariables false
set_option maxRecDepth 20000
attribute [local irreducible] Go.Bee.bwp
def szTx (s : Tx) (x : Int) : Int := if x - s.length < 0 then -1 else x - s.length
theorem szTx_nice : Nice szTx := fun t x hx => by unfold szTx; split <;> omega
theorem flat_txs (l : List Tx) : flat (l.map PD.str) = l.map .str := by
  induction l with
  | nil => rfl
  | cons a l ih => simp only [flat, List.map_cons, List.flatMap_cons] at ih ⊢; rw [ih]; rfl
theorem szStringS_b (l : List Tx) (x : Int) (h0 : 0 ≤ x) (hx : x ≤ 1048576) : BRet Tryz.prog 8 [] [.d (.sl 1 (l.map .str)), .int x] (.int (szL szTx l x)) [] := by
  refine BRet.len 0 (by kernel_rfl) rfl fun hl => ?_
  refine BRet.strs 0 (by kernel_rfl) rfl fun hls => ?_
  have hl2 : ∀ s ∈ l, s.length ≤ 140737488355328 := fun s h => hls s (by rw [flat_txs]; exact List.mem_map_of_mem h)
  clear hls
  simp only [List.length_map] at hl
  refine bof Tryz.func8 ?_
  have hlen : ∀ m : List PD, m = l.map .str → m.length = l.length := fun m h => by rw [h]; simp
  generalize hr : szL szTx l x = r
  unfold szL at hr
  by_cases hneg : x - (l.length : Int) < 0
  · rw [if_pos hneg] at hr
    subst hr
    refine bgo ?_
    trivial
  · rw [if_neg hneg] at hr
    refine bgo ?_
    refine b_lp (ι := Nat × Int) (fun i => [(0, .d (.sl 1 (l.map .str))), (1, .int i.2), (5, .int i.1)]) (fun _ => []) (fun i => i.1 ≤ l.length ∧ 0 ≤ i.2 ∧ i.2 ≤ x ∧ szF szTx (l.drop i.1) i.2 = r) (fun i => l.length - i.1) (0, x - l.length) hs ⟨Nat.zero_le _, by dsimp only; omega, by dsimp only; omega, hr⟩ ?_
    clear hr
    rintro ⟨k, y⟩ ⟨hk, hy0, hyx, hj⟩ I nx
    dsimp only at hk hy0 hyx hj ⊢
    by_cases hlt : k < l.length
    · have hx : l[k]? = some l[k] := List.getElem?_eq_getElem hlt
      have hsl := hl2 l[k] (List.getElem_mem hlt)
      rw [szF_step hlt] at hj
      unfold szTx at hj
      have hb : (k : Int) + 1 ≤ 1099511627776000 := by omega
      generalize hgs : l[k] = s at *
      clear hl2
      by_cases hb2 : y - (s.length : Int) < 0
      · rw [if_pos hb2, if_pos (by decide)] at hj
        subst hj
        refine bgo ?_
        trivial
      · rw [if_neg hb2, if_neg hb2] at hj
        refine bgo ?_
        exact nx.go (k + 1, y - s.length) ⟨hlt, by dsimp only; omega, by dsimp only; omega, hj⟩ (by dsimp only; omega) hs
    · have hk' : k = l.length := by omega
      subst hk'
      rw [List.drop_length] at hj
      have hj2 : y = r := hj
      subst hj2
      clear hj hl2
      refine bgo ?_
      refine wk_rfl ?_
      refine bgo ?_
      trivial
theorem toStringS_b (l : List Tx) (hl : l.length ≤ 1048576) : BRet Tryz.prog 10 [] [.d (.sl 1 (l.map .str))] (.own 9 1 (l.map .str)) [] := by
  refine bof Tryz.func10 ?_
  refine bgo ?_
  refine ⟨by omega, by omega, ?_⟩
  refine b_loop (fun n st => ∃ k : Nat, n = l.length - k ∧ k ≤ l.length ∧ st.tm 0 = .d (.sl 1 (l.map .str)) ∧ st.tm 3 = .rsl (.t 7) 9 1 l.length ∧ st.tm 4 = .int k ∧ st.bx (.t 7) = some (filling (l.map .str) str0 l.length k) ∧ ∀ b, b ≠ .t 7 → st.bx b = none) l.length
    ⟨0, rfl, Nat.zero_le _, rfl, rfl, rfl, by rw [filling_0]; rfl, fun b hb => by simp [bx_put, bx_strip1, bx_sbx, bx_init, bxOf_nil, hb]⟩ ?_
  rintro n st ⟨k, rfl, hk, t0, t3, t4, t7, hb⟩
  by_cases hlt : k < l.length
  · have hx : l[k]? = some l[k] := List.getElem?_eq_getElem hlt
    have hfl := filling_len (l := l.map PD.str) (zero := str0) (n := l.length) (k := k) (sz := 1) rfl (fun x hx => by obtain ⟨y, _, rfl⟩ := List.mem_map.1 hx; rfl) (by simp) hk
    have hfs := filling_step (l := l.map PD.str) (zero := str0) (n := l.length) (k := k) (sz := 1) rfl (fun x hx => by obtain ⟨y, _, rfl⟩ := List.mem_map.1 hx; rfl) (by simp) (by simpa using hlt)
    rw [Nat.mul_one] at hfs hfl
    have hfb : (List.take k (filling (l.map PD.str) str0 l.length k) ++ [PV.str l[k]] ++ List.drop (k + 1) (filling (l.map PD.str) str0 l.length k)).map PV.bC = filling (l.map .str) str0 l.length (k + 1) := by
      rw [List.map_append, List.map_append, List.map_take, List.map_drop, filling_bC rfl, ← hfs, List.getElem_map]; rfl
    refine bgo ?_
    refine ⟨by omega, _, _, Weak.bC (.t 7), by omega, k + 1, rfl, hlt, t0, t3, rfl, ?_, fun b hne => ?_⟩
    · refine Eq.trans ?_ (congrArg some hfb)
      simp [bx_put, bx_strip1, bx_sbx]
    have := hb b hne
    simp [bx_put, bx_strip1, bx_sbx, hne, this]
  · have hk' : k = l.length := by omega
    subst hk'
    refine bgo ?_
    refine made (t := 3) (l := l.map .str) t3 (t7.trans ?_) (by simp) (fun x hx => by obtain ⟨y, _, rfl⟩ := List.mem_map.1 hx; rfl) hb fun s s3 hb => ?_
    · have := filling_n (l.map PD.str) str0
      rw [List.length_map] at this
      rw [this]
    refine bgo ?_
    trivial
theorem eqStringS_s (l : List Tx) : BRet Tryz.prog 13 [] [.d (.sl 1 (l.map .str)), .d (.sl 1 (l.map .str))] (.bool true) [] := by
  refine BRet.len 0 (by kernel_rfl) rfl fun hl => ?_
  refine bof Tryz.func13 ?_
  have hll : (l.map PD.str).length = l.length := by simp
  have hli : ∀ i (h : i < l.length), (l.map PD.str)[i]? = some (.str l[i]) := fun i h => by simp [h]
  generalize l.map PD.str = q at *
  refine bgo ?_
  refine b_lp (ι := Nat × Unit) (fun i => [(0, .d (.sl 1 q)), (1, .d (.sl 1 q)), (5, .int i.1)]) (fun _ => []) (fun i => i.1 ≤ l.length) (fun i => l.length - i.1) (0, ()) hs (Nat.zero_le _) ?_
  rintro ⟨i, u⟩ hi I nx
  dsimp only at hi ⊢
  by_cases hlt : i < l.length
  · have hx := hli i hlt
    generalize l[i] = x at *
    have hib : (i : Int) + 1 ≤ 1099511627776000 := by omega
    have hlt2 : i < q.length := by omega
    clear hli
    refine bgo ?_
    exact nx.go (i + 1, ()) hlt (by dsimp only; omega) hs
  · have hlt2 : ¬ i < q.length := by omega
    refine bgo ?_
    refine wk_rfl ?_
    refine bgo ?_
    trivial
def evRes (d p : Int) (a : Tx) (am : Int) (l : List Tx) : Tx := if (parOk l && evOk d p a am l.length) = true then evT d (l.getD p.toNat []) a am else []
theorem opnTxs (n : Nat) : OpnN Tryz.prog 22 (fun l : List Tx => .sl 1 (l.map .str)) (fun _ => True) n :=
  (opn_slice (sz := 1) Tryz.underlying22 (by kernel_rfl) (by decide) (of_decide_eq_true (by kernel_rfl)) (fun m _ => opn_str Tryz.underlying9 m)).imp fun _ _ => trivial
end Go.Bee.C24d


namespace Go.Bee
set_option linter.unusedVariables false
variable {H : Type} {enc : TypeId × Value → H}
theorem returnsInHanded_and_shaped {a : Assume} {C : Checked} {os : Os} {f : FuncId} {fn : Func} {s : ChangeSpec} {conds : List PathCond} {apart fresh handsOn again : Bool} {X : World → Array Value → Prop}
    (hX : ∀ (w w' : World) (args : Array Value), w.heap = w'.heap → X w args → X w' args)
    (own : ownKnob C.prog.godebug = none) (started : os.Started) (noInit : C.prog.inits.idxOf? f = none) (hfn : C.prog.funcs[f]? = some fn)
    (witness : ∃ (w : World) (tape : Tape) (i : Input), w.os = os ∧ (w.forCall tape i).Shaped C.prog ∧ i.vars = [] ∧ Input.okWide C.prog (w.forCall tape i) .any w.heap.size f i ∧
      ((s.pre enc C.prog fn conds apart (w.forCall tape i).memory i.args ∧ X (w.forCall tape i).memory i.args) ∧ sizedMet enc C.prog fn (OpenSpec.ofChange s) apart (w.forCall tape i).memory i.args) ∧ a.holds C.prog (lone (Frame.enter C.prog f i.args .normal) [] (w.forCall tape i)))
    (contract : ∀ (W : World) (base : Nat) (args : Array Value) (ds gs : List (DataW H)) (before : List MemPlace),
      (∀ (j : Nat) t v, fn.params[j]? = some t → args[j]? = some v → Value.okWide C.prog W .any base t v) →
      DataW.Whole enc C.prog fn.params.toList s.vars apart W args.toList ds gs before →
      conds.all (PathCond.test C.prog ⟨fn.params.toList, ds, s.plain.varTypes C.prog, gs⟩) = true →
      (DataW.weightsEach C.prog (fn.params.toList ++ s.plain.varTypes C.prog) (ds ++ gs)).all (· ≤ reachBytes) = true → X W args → W.ShapedOpen C.prog →
      a.holds C.prog (lone (Frame.enter C.prog f args .normal) [] W) →
      Calls C.prog f args W fun e W' => ∃ v, e = .returned v ∧ s.post enc C.prog fn apart fresh handsOn again W args v W') :
    ReturnsInHanded a C os f .any (fun w args => (s.pre enc C.prog fn conds apart w args ∧ X w args) ∧ sizedMet enc C.prog fn (OpenSpec.ofChange s) apart w args) (s.post enc C.prog fn apart fresh handsOn again) := by
  refine returnsInHanded_of_calls own started noInit witness ?_
  intro w tape i _ hsh _ hok hpre hholds
  obtain ⟨_, _, _, fn', hfn', _, _, _, _, hval⟩ := hok
  have e : fn' = fn := Option.some.inj (hfn'.symm.trans hfn)
  subst e
  obtain ⟨⟨⟨ds, gs, before, hw, hc⟩, hx⟩, hz⟩ := hpre
  have hw' := DataW.Whole.of_heap (w' := w.forCall tape i) (by rfl) hw
  refine (contract (w.forCall tape i) w.heap.size i.args ds gs before hval hw' hc (hz.weights hw) (hX _ _ _ (by rfl) hx) hsh hholds).mono fun e W' ⟨v, he, hp⟩ => ?_
  subst he
  exact ChangeSpec.post_blind hp
theorem tab_num {P : Program} {W : World} {name : String} {g : Nat} {t : TypeId} {zero : Array Value} (hn : P.globalNamed name = some g) (h : W.ShapedOpen P) (hg : g < P.globals.size)
    (h0 : ((begin P (fun _ _ => 0) default).world.heap[g]?).bind Obj.row? = some (zero, t)) (hz : zero.size = 1) (hb : P.buildable t = true) (hc : P.cellTypes P.depth t = some [t]) (hu : P.underlying t = some (.int .i64)) : TabHas P W name .num := by
  obtain ⟨m, hm⟩ := Go.Proofs.cell_of_shapedOpen_int h hg h0 hz hb hc hu
  obtain ⟨cs, hh, hs, _⟩ := h.1 g zero t hg h0
  have hv : W.var? P name = some cs := by simp [World.var?, hn, hh]
  have h1 := World.var?_cell hn hv 0
  rw [hm] at h1
  refine ⟨m, ?_⟩
  rw [hv]
  congr 1
  apply Array.ext
  · rw [hs, hz]; rfl
  · intro i hi hj
    obtain rfl : i = 0 := by simp at hj; omega
    have h2 : cs[0]? = some cs[0] := Array.getElem?_eq_getElem hi
    rw [h2] at h1
    exact (Option.some.inj h1).symm
end Go.Bee


namespace Go.Bee.C24t
open Go Go.Bee Go.Proofs Go.Bee.Ty Go.Bee.C23 Go.Bee.C23s Go.Bee.Da Go.Bee.C24 Go.Bee.C24c Go.Bee.C24d Go.Bee.C24r Go.Bee.C24s
set_option linter.unusedVariables false
set_option maxRecDepth 20000
attribute [local irreducible] Go.Bee.bwp
theorem eqEvent_s (d p : Int) (a : Tx) (am : Int) : BRet Tryz.prog 12 [] [.agg [.int d, .int p, .str a, .int am], .agg [.int d, .int p, .str a, .int am]] (.bool true) [] := by
  refine bof Tryz.func12 ?_
  refine bgo ?_
  trivial
end Go.Bee.C24t


namespace Go.Proofs
open Go.Shelf
def YtbhmeompdbokdaaGreatDoorStr.lays153_ren : Go.Shelf.Ren := ⟨fun | 153 => 113 | 152 => 151 | 226 => 152 | 227 => 153 | 228 => 154 | 137 => 177 | 119 => 178 | 224 => 179 | 225 => 180 | 217 => 185 | 266 => 192 | n => n, fun | 9 => 9 | 3 => 3 | 4 => 4 | 5 => 5 | 21 => 21 | 117 => 139 | 116 => 138 | 0 => 0 | 46 => 145 | 124 => 157 | n => n, fun | n => n⟩
theorem YtbhmeompdbokdaaGreatDoorStr.lays153 : Go.Proofs.Lays.n153 Tryz.prog YtbhmeompdbokdaaGreatDoorStr.lays153_ren := {
  mixed := by kernel_rfl
  f119 := Tryz.func178.trans (congrArg some (by kernel_rfl))
  f137 := Tryz.func177.trans (congrArg some (by kernel_rfl))
  f152 := Tryz.func151.trans (congrArg some (by kernel_rfl))
  f153 := Tryz.func113.trans (congrArg some (by kernel_rfl))
  f217 := Tryz.func185.trans (congrArg some (by kernel_rfl))
  f224 := Tryz.func179.trans (congrArg some (by kernel_rfl))
  f225 := Tryz.func180.trans (congrArg some (by kernel_rfl))
  f226 := Tryz.func152.trans (congrArg some (by kernel_rfl))
  f227 := Tryz.func153.trans (congrArg some (by kernel_rfl))
  f228 := Tryz.func154.trans (congrArg some (by kernel_rfl))
  f266 := Tryz.func192.trans (congrArg some (by kernel_rfl))
  t0 := Tryz.underlying0
  a0 := Tryz.isAgg0
  z0 := Tryz.sizeOf0
  v0 := Tryz.zeroValue0
  t3 := Tryz.underlying3
  a3 := Tryz.isAgg3
  z3 := Tryz.sizeOf3
  v3 := Tryz.zeroValue3
  t4 := Tryz.underlying4
  a4 := Tryz.isAgg4
  z4 := Tryz.sizeOf4
  v4 := Tryz.zeroValue4
  t5 := Tryz.underlying5
  a5 := Tryz.isAgg5
  z5 := Tryz.sizeOf5
  v5 := Tryz.zeroValue5
  t9 := Tryz.underlying9
  a9 := Tryz.isAgg9
  z9 := Tryz.sizeOf9
  v9 := Tryz.zeroValue9
  t21 := Tryz.underlying21
  a21 := Tryz.isAgg21
  z21 := Tryz.sizeOf21
  v21 := Tryz.zeroValue21
  t46 := Tryz.underlying145
  a46 := Tryz.isAgg145
  z46 := Tryz.sizeOf145
  v46 := Tryz.zeroValue145
  t116 := Tryz.underlying138
  a116 := Tryz.isAgg138
  z116 := Tryz.sizeOf138
  t117 := Tryz.underlying139
  a117 := Tryz.isAgg139
  z117 := Tryz.sizeOf139
  v117 := Tryz.zeroValue139
  t124 := Tryz.underlying157
  a124 := Tryz.isAgg157
  z124 := Tryz.sizeOf157
  v124 := Tryz.zeroValue157 }
end Go.Proofs
namespace Go.Bee.C24x
open Go Go.Proofs Go.Shelf Go.RowKit Go.Lib
variable {ρ : Ren}
set_option maxHeartbeats 8000000 in
set_option maxRecDepth 1000000 in
theorem IndexRune_err (L : Lays.n152 Tryz.prog ρ) (s : ByteArray) (ha : ∀ (j : Nat) b, s.data.toList[j]? = some b → b.toNat < 128) (w : World) :
    Calls Tryz.prog (ρ.f 152) #[.string s, .int .i32 65533] w fun e w' => e = .returned (.int .i64 (-1)) ∧ ∃ pos, w' = w.iter s pos := by
  have HA : Aside (∀ (j : Nat) b, s.data.toList[j]? = some b → b.toNat < 128) := ha
  clear ha
  have t3 := L.t3; have a3 := L.a3; have z3 := L.z3; have v3 := L.v3
  have t4 := L.t4; have a4 := L.a4; have z4 := L.z4; have v4 := L.v4
  have t5 := L.t5; have a5 := L.a5; have z5 := L.z5; have v5 := L.v5
  have t9 := L.t9; have a9 := L.a9; have z9 := L.z9; have v9 := L.v9
  have t21 := L.t21; have a21 := L.a21; have z21 := L.z21; have v21 := L.v21
  go_enter L.f152, Body.n152_ntmps ρ
  go_wp2
  go_loopg [5, 6] s.size (fun g _ _ wx => ∃ i : Nat, i + g = s.size ∧ wx = w.iter s i)
  case atStart => exact ⟨0, by omega, rfl⟩
  case round =>
    obtain ⟨i, hig, rfl⟩ := hrel
    cases gk with
    | zero =>
      obtain rfl : i = s.size := by omega
      have hnx := run_next_end (P := Tryz.prog) w s s.size
      go_wp2
      go_ret
      exact ⟨rfl, _, rfl⟩
    | succ g =>
      have hi : i < s.size := by omega
      obtain ⟨x, hx⟩ : ∃ x : UInt8, s[i]'hi = x := ⟨_, rfl⟩
      have hxl : s.data.toList[i]? = some x := by rw [← hx]; exact Lib.data_getElem? s i hi
      have hx128 : x.toNat < 128 := HA.out i x hxl
      have hnx := fun ty => run_next_ascii (P := Tryz.prog) w s i ty hi (by rw [hx]; exact hx128)
      rw [hx] at hnx
      have hne : ((x.toNat : Int) == 65533) = false := by rw [beq_eq_false_iff_ne]; omega
      clear hxl hx
      go_wp2
      go_roundg g
      case measure => omega
      case rel => exact ⟨i + 1, by omega, rfl⟩
set_option maxHeartbeats 8000000 in
set_option maxRecDepth 1000000 in
theorem IndexRune_bad (L : Lays.n152 Tryz.prog ρ) (s : ByteArray) (r : Int) (h0 : 128 ≤ r) (hne : r ≠ 65533) (hv : Lib.validRune r = false) (w : World) :
    Calls Tryz.prog (ρ.f 152) #[.string s, .int .i32 r] w fun e w' => e = .returned (.int .i64 (-1)) ∧ w' = w := by
  have t3 := L.t3; have a3 := L.a3; have z3 := L.z3; have v3 := L.v3
  have t4 := L.t4; have a4 := L.a4; have z4 := L.z4; have v4 := L.v4
  have t5 := L.t5; have a5 := L.a5; have z5 := L.z5; have v5 := L.v5
  have t9 := L.t9; have a9 := L.a9; have z9 := L.z9; have v9 := L.v9
  have t21 := L.t21; have a21 := L.a21; have z21 := L.z21; have v21 := L.v21
  have e119 : ∀ args w, (callFunc (ρ.f 119) args).run Tryz.prog w = .ok (.enter (ρ.f 119) args) w := enters_of L.f119 (by kernel_rfl) rfl
  have q1 : ¬ r < 128 := by omega
  have q2 : (r == 65533) = false := by rw [beq_eq_false_iff_ne]; exact hne
  have q3 : 0 ≤ r := by omega
  go_enter L.f152, Body.n152_ntmps ρ
  go_wp2_with (go_at_fn (ρ.f 119); refine (Any.utf8_ValidRune { L with } _ _).mono ?_; rintro e w' ⟨rfl, hw⟩; rw [hw, hv])
  go_ret
  exact ⟨rfl, rfl⟩
set_option maxHeartbeats 8000000 in
set_option maxRecDepth 1000000 in
theorem IndexRune_good (L : Lays.n152 Tryz.prog ρ) (s : ByteArray) (hs2 : s.size = 2) (ha : ∀ (j : Nat) b, s.data.toList[j]? = some b → b.toNat < 128) (r : Int) (h0 : 128 ≤ r) (hne : r ≠ 65533) (hv : Lib.validRune r = true) (w : World) :
    Calls Tryz.prog (ρ.f 152) #[.string s, .int .i32 r] w fun e w' => e = .returned (.int .i64 (-1)) ∧ Below w.heap.size w w' := by
  have t3 := L.t3; have a3 := L.a3; have z3 := L.z3; have v3 := L.v3
  have t4 := L.t4; have a4 := L.a4; have z4 := L.z4; have v4 := L.v4
  have t5 := L.t5; have a5 := L.a5; have z5 := L.z5; have v5 := L.v5
  have t9 := L.t9; have a9 := L.a9; have z9 := L.z9; have v9 := L.v9
  have t21 := L.t21; have a21 := L.a21; have z21 := L.z21; have v21 := L.v21
  have e119 : ∀ args w, (callFunc (ρ.f 119) args).run Tryz.prog w = .ok (.enter (ρ.f 119) args) w := enters_of L.f119 (by kernel_rfl) rfl
  have e137 : ∀ args w, (callFunc (ρ.f 137) args).run Tryz.prog w = .ok (.enter (ρ.f 137) args) w := enters_of L.f137 (by kernel_rfl) rfl
  have q1 : ¬ r < 128 := by omega
  have q2 : (r == 65533) = false := by rw [beq_eq_false_iff_ne]; exact hne
  have q3 : 0 ≤ r := by omega
  have hvv : Utf8.valid r = true := by
    unfold Lib.validRune at hv
    have := of_decide_eq_true hv
    unfold Utf8.valid
    simp
    omega
  obtain ⟨hc2, hc4, hcl⟩ := encode_facts r hvv h0
  clear hvv
  generalize hc : Utf8.encode r = c at hc2 hc4 hcl
  by_cases h2 : c.size = 2
  · have mixed := L.mixed
    have h1s : 1 < s.size := by omega
    have h1c : 1 < c.size := by omega
    have hx := ha 1 s[1] (Lib.data_getElem? s 1 h1s)
    have hz : 128 ≤ (c[1]).toNat := by have := hcl (by omega); simpa [h2] using this
    clear hcl hc2 hc4 ha
    go_enter L.f152, Body.n152_ntmps ρ
    go_wp2_with (go_at_fn (ρ.f 119); refine (Any.utf8_ValidRune { L with } _ _).mono ?_; rintro e w' ⟨rfl, hw⟩; rw [hw, hv])
    go_wp2
    go_step3
    go_wp2
    go_loopg [9] 0 (fun k p wr => p = .int .i64 1 ∧ wr = w)
    case atStart => exact ⟨rfl, rfl⟩
    case round =>
      obtain ⟨rfl, rfl⟩ := hrel
      go_wp2
      go_step3
      go_wp2
      go_region
      have hcmp : (((s[1]).toNat : Int) != ((c[1]).toNat : Int)) = true := by rw [bne_iff_ne]; omega
      go_wp2
      go_region_with (go_at_fn (ρ.f 137); refine (Any.strings_IndexByte { L with } _ _ _).mono ?_; rintro e w' ⟨rfl, hw⟩; rw [hw])
      all_goals (go_wp2; simp only [Exit.noGoto, Exit.inBlock, Exit.then]; go_ret; exact ⟨rfl, (Below.refl _ _).drew.drew⟩)
  · go_enter L.f152, Body.n152_ntmps ρ
    go_wp2_with (go_at_fn (ρ.f 119); refine (Any.utf8_ValidRune { L with } _ _).mono ?_; rintro e w' ⟨rfl, hw⟩; rw [hw, hv])
    go_wp2
    go_step3
    go_wp2
    go_loopg [9] 0 (fun k p wr => p = .int .i64 ((c.size : Int) - 1) ∧ wr = w)
    case atStart => exact ⟨rfl, rfl⟩
    case round =>
      obtain ⟨rfl, rfl⟩ := hrel
      have hlt : ¬ ((c.size : Int) - 1 < (s.size : Int)) := by omega
      go_wp2
      go_ret
      exact ⟨rfl, Below.refl _ _⟩

theorem IndexRune_high (L : Lays.n152 Tryz.prog ρ) (s : ByteArray) (hs2 : s.size = 2) (ha : ∀ (j : Nat) b, s.data.toList[j]? = some b → b.toNat < 128) (r : Int) (h0 : 128 ≤ r) (w : World) :
    Calls Tryz.prog (ρ.f 152) #[.string s, .int .i32 r] w fun e w' => e = .returned (.int .i64 (-1)) ∧ Below w.heap.size w w' := by
  by_cases hne : r = 65533
  · subst hne
    refine (IndexRune_err L s ha w).mono ?_
    rintro e w' ⟨rfl, pos, rfl⟩
    exact ⟨rfl, (Below.refl _ _).alloc (Nat.le_refl _) _⟩
  cases hv : Lib.validRune r with
  | false =>
    refine (IndexRune_bad L s r h0 hne hv w).mono ?_
    rintro e w' ⟨rfl, rfl⟩
    exact ⟨rfl, Below.refl _ _⟩
  | true => exact IndexRune_good L s hs2 ha r h0 hne hv w
def itW (wx : World) (b : Nat) (s : ByteArray) (p : Nat) : World := { wx with heap := wx.heap.setIfInBounds b (.stringIter s p) }
theorem itW_at {wx : World} {b : Nat} {s : ByteArray} {q p : Nat} (h : wx.heap[b]? = some (.stringIter s q)) : (itW wx b s p).heap[b]? = some (.stringIter s p) := by
  have hb : b < wx.heap.size := by
    rcases Nat.lt_or_ge b wx.heap.size with h' | h'
    · exact h'
    · rw [Array.getElem?_eq_none h'] at h; cases h
  show (wx.heap.setIfInBounds b (.stringIter s p))[b]? = _
  simp [hb]
theorem itW_below {B : Nat} {w wx : World} (h : Below B w wx) {b : Nat} (hb : B ≤ b) (s : ByteArray) (p : Nat) : Below B w (itW wx b s p) :=
  h.trans ⟨rfl, rfl, rfl, by simp [itW], fun k hk => by
    show (wx.heap.setIfInBounds b (.stringIter s p))[k]? = _
    rw [Array.getElem?_setIfInBounds, if_neg (by omega)]⟩
theorem nx_any {P : Program} {wx : World} {b : Nat} {s : ByteArray} {pos : Nat} (hb : wx.heap[b]? = some (.stringIter s pos)) (h : pos < s.size) (ty : TypeId) :
    (Instr.next (.pointer (some ⟨b, 0, none⟩)) true ty).run P wx = .ok (.tuple #[.bool true, .int .i64 pos, .int .i32 (Utf8.decode s pos).1]) (itW wx b s (pos + (Utf8.decode s pos).2)) := by
  simp only [Instr.next, getObj, setObj, Sem.run_bind, Sem.run, hb, Result.andThen, h, if_true]
  simp [goInt, itW]
theorem nx_end {P : Program} {wx : World} {b : Nat} {s : ByteArray} {pos : Nat} (hb : wx.heap[b]? = some (.stringIter s pos)) (h : ¬ pos < s.size) (ty : TypeId) :
    (Instr.next (.pointer (some ⟨b, 0, none⟩)) true ty).run P wx = .ok (.tuple #[.bool false]) wx := by
  simp [Instr.next, getObj, Sem.run, hb, h]
theorem eats (s : ByteArray) (i : Nat) (h : i < s.size) (ha : 128 ≤ (s[i]'h).toNat) (k : Nat) (hk : k < (Utf8.decode s i).2) : i + k < s.size ∧ 128 ≤ (s.get! (i + k)).toNat := by
  have h0 := get_at s i h
  have a0 : i + 0 < s.size ∧ 128 ≤ (s.get! (i + 0)).toNat := ⟨h, by rw [h0]; exact ha⟩
  have hn : ¬ (s[i]'h).toNat < 128 := by omega
  simp only [Utf8.decode, h0, hn, if_false, Bool.and_eq_true, decide_eq_true_eq, beq_iff_eq] at hk
  have hc : ∀ j, i + j < s.size ∧ (s.get! (i + j)).toNat / 64 = 2 → i + j < s.size ∧ 128 ≤ (s.get! (i + j)).toNat := fun j h => ⟨h.1, by omega⟩
  match k with
  | 0 => exact a0
  | 1 =>
    split at hk
    · rename_i h1; exact hc 1 h1.2
    split at hk
    · rename_i h1; exact hc 1 h1.1.2
    split at hk
    · rename_i h1; exact hc 1 h1.1.1.2
    · simp at hk
  | 2 =>
    split at hk
    · split at hk <;> simp at hk
    split at hk
    · rename_i h1; exact hc 2 h1.2
    split at hk
    · rename_i h1; exact hc 2 h1.1.2
    · simp at hk
  | 3 =>
    split at hk
    · split at hk <;> simp at hk
    split at hk
    · split at hk <;> simp at hk
    split at hk
    · rename_i h1; exact hc 3 h1.2
    · simp at hk
  | n + 4 =>
    exfalso
    split at hk
    · split at hk <;> simp at hk <;> omega
    split at hk
    · split at hk <;> simp at hk <;> omega
    split at hk
    · split at hk <;> simp at hk <;> omega
    · simp at hk
theorem no_high {s chars : ByteArray} {i : Nat} (hac : ∀ (j : Nat) b, chars.data.toList[j]? = some b → b.toNat < 128) (h : i < s.size) (ha : 128 ≤ (s[i]'h).toNat) (hno : Lib.NoAny s.data.toList chars.data.toList i) :
    Lib.NoAny s.data.toList chars.data.toList (i + (Utf8.decode s i).2) := fun j b hj hb => by
  by_cases hlt : j < i
  · exact hno j b hlt hb
  obtain ⟨hk, hb128⟩ := eats s i h ha (j - i) (by omega)
  have e : i + (j - i) = j := by omega
  rw [e] at hk hb128
  have h1 : s.data.toList[j]? = some (s[j]'hk) := Lib.data_getElem? s j hk
  rw [hb] at h1; cases h1
  have h2 : s.get! (j + 0) = s[j]'hk := get_at s j hk
  rw [Nat.add_zero] at h2
  rw [h2] at hb128
  cases hc : chars.data.toList.contains (s[j]'hk) with
  | false => rfl
  | true =>
    have hm : s[j]'hk ∈ chars.data.toList := by simpa using hc
    obtain ⟨q, hq, hqe⟩ := List.getElem_of_mem hm
    have := hac q (s[j]'hk) (by rw [List.getElem?_eq_getElem hq, hqe])
    omega
theorem eat_le (s : ByteArray) (i : Nat) (h : i < s.size) : i + (Utf8.decode s i).2 ≤ s.size ∧ 1 ≤ (Utf8.decode s i).2 := by
  by_cases ha : (s[i]'h).toNat < 128
  · rw [decode_ascii s i h ha]; exact ⟨h, Nat.le_refl _⟩
  · have h1 := (decode_high s i h (by omega)).2
    have := (eats s i h (by omega) ((Utf8.decode s i).2 - 1) (by omega)).1
    exact ⟨by omega, h1⟩

set_option maxHeartbeats 8000000 in
set_option maxRecDepth 1000000 in
theorem IndexAny_wide (L : Lays.n153 Tryz.prog ρ) (s chars : ByteArray) (w : World) (h2 : chars.size = 2) (h8 : s.size ≤ 8) (hac : ∀ (j : Nat) b, chars.data.toList[j]? = some b → b.toNat < 128) :
    Calls Tryz.prog (ρ.f 153) #[.string s, .string chars] w fun e w' => e = .returned (.int .i64 (Lib.indexAny s.data.toList chars.data.toList)) ∧ Below w.heap.size w w' := by
  have HAC : Aside (∀ (j : Nat) b, chars.data.toList[j]? = some b → b.toNat < 128) := hac
  clear hac
  have hemp : chars.toList.isEmpty = false := by
    rw [Lib.toList_data]
    cases h : chars.data.toList with
    | nil => have := Lib.size_eq chars; rw [h, List.length_nil] at this; omega
    | cons _ _ => rfl
  have hn1 : ((chars.size : Int) == 1) = false := beq_eq_false_iff_ne.2 (by omega)
  have h8z : decide ((8 : Int) < (s.size : Int)) = false := decide_eq_false (by omega)
  have t3 := L.t3; have a3 := L.a3; have z3 := L.z3; have v3 := L.v3
  have t4 := L.t4; have a4 := L.a4; have z4 := L.z4; have v4 := L.v4
  have t5 := L.t5; have a5 := L.a5; have z5 := L.z5; have v5 := L.v5
  have t9 := L.t9; have a9 := L.a9; have z9 := L.z9; have v9 := L.v9
  have t21 := L.t21; have a21 := L.a21; have z21 := L.z21; have v21 := L.v21
  have e152 : ∀ args w, (callFunc (ρ.f 152) args).run Tryz.prog w = .ok (.enter (ρ.f 152) args) w := enters_of L.f152 (by kernel_rfl) rfl
  have e226 : ∀ args w, (callFunc (ρ.f 226) args).run Tryz.prog w = .ok (.enter (ρ.f 226) args) w := enters_of L.f226 (by kernel_rfl) rfl
  go_enter L.f153, Body.n153_ntmps ρ
  go_wp2_with (go_at_fn (ρ.f 226); refine (Any.strings_shouldUseASCIISet { L with } _ _).mono ?_; rintro e w' ⟨rfl, hw⟩; rw [hw, h8z])
  go_loopg [9, 10] s.size (fun g _ _ wx => ∃ i : Nat, i + g = s.size ∧ Aside (Below w.heap.size w wx) ∧ Aside (wx.heap[w.heap.size]? = some (.stringIter s i)) ∧ Lib.NoAny s.data.toList chars.data.toList i)
  case atStart => exact ⟨0, by omega, (Below.refl _ _).alloc (Nat.le_refl _) _, World.iter_heap _ _ _, Lib.NoAny.zero _ _⟩
  case round =>
    obtain ⟨i, hig, HB, HI, hno⟩ := hrel
    have HN : Aside (Lib.NoAny s.data.toList chars.data.toList i) := hno
    clear hno
    by_cases hi : i < s.size
    · have hle := eat_le s i hi
      obtain ⟨x, hx⟩ : ∃ x : UInt8, s[i]'hi = x := ⟨_, rfl⟩
      have hxl : s.data.toList[i]? = some x := by rw [← hx]; exact Lib.data_getElem? s i hi
      have Hx : Aside (s.data.toList[i]? = some x) := hxl
      have hnx := nx_any (P := Tryz.prog) HI.out hi
      have HN2 : Aside (128 ≤ x.toNat → Lib.NoAny s.data.toList chars.data.toList (i + (Utf8.decode s i).2)) := by
        intro h; exact no_high HAC.out hi (by rw [hx]; exact h) HN.out
      have HI2 : Aside ((itW wr w.heap.size s (i + (Utf8.decode s i).2)).heap[w.heap.size]? = some (.stringIter s (i + (Utf8.decode s i).2))) := itW_at HI.out
      have HB2 : Aside (Below w.heap.size w (itW wr w.heap.size s (i + (Utf8.decode s i).2))) := itW_below HB.out (Nat.le_refl _) _ _
      have hs1 : w.heap.size < (itW wr w.heap.size s (i + (Utf8.decode s i).2)).heap.size := by
        rcases Nat.lt_or_ge w.heap.size (itW wr w.heap.size s (i + (Utf8.decode s i).2)).heap.size with h' | h'
        · exact h'
        · have := HI2.out; rw [Array.getElem?_eq_none h'] at this; cases this
      have HS : Aside (w.heap.size < (itW wr w.heap.size s (i + (Utf8.decode s i).2)).heap.size) := hs1
      clear hs1
      by_cases hx128 : x.toNat < 128
      · have hd : Utf8.decode s i = (x.toNat, 1) := by rw [decode_ascii s i hi (by rw [hx]; exact hx128), hx]
        rw [hd] at hnx HI2 HB2 HS hle
        generalize itW wr w.heap.size s (i + 1) = wx at *
        have hcon := Lib.contains_iff_indexByte chars.data.toList x
        have hback : ((x.toNat : Int)).toNat.toUInt8 = x := by simp
        clear hxl hx hd HN2
        cases hin : chars.data.toList.contains x
        · rw [hin] at hcon
          have hlt : ¬ ((0 : Int) ≤ Lib.indexByte chars.data.toList x) := of_decide_eq_false hcon.symm
          clear hcon
          go_wp2_with (go_at_fn (ρ.f 152); refine (Any.strings_IndexRune_ascii { L with } _ _ _ (by omega) (by omega)).mono ?_; rintro e w' ⟨rfl, hw⟩; rw [hw, hback])
          go_roundg (s.size - (i + 1))
          case measure => omega
          case rel => exact ⟨i + 1, by omega, HB2, HI2, HN.out.succ Hx.out hin⟩
        · rw [hin] at hcon
          have hge : (0 : Int) ≤ Lib.indexByte chars.data.toList x := of_decide_eq_true hcon.symm
          clear hcon
          go_wp2_with (go_at_fn (ρ.f 152); refine (Any.strings_IndexRune_ascii { L with } _ _ _ (by omega) (by omega)).mono ?_; rintro e w' ⟨rfl, hw⟩; rw [hw, hback])
          go_ret
          exact ⟨by rw [Lib.indexAny_hit HN.out Hx.out hin]; rfl, HB2⟩
      · have hdh := (decode_high s i hi (by rw [hx]; omega)).1
        generalize Utf8.decode s i = d at *
        generalize itW wr w.heap.size s (i + d.2) = wx at *
        clear hxl hx
        go_wp2_with (go_at_fn (ρ.f 152); refine (IndexRune_high { L with } _ h2 HAC.out _ (by omega) _).mono ?_; rintro e w' ⟨rfl, hw⟩; (have hw : Aside (Below wx.heap.size wx w') := hw))
        go_roundg (s.size - (i + d.2))
        case measure => omega
        case rel => exact ⟨i + d.2, by omega, HB2.out.trans (hw.out.mono (Nat.le_of_lt HS.out)), (hw.out.block _ HS.out).trans HI2.out, HN2.out (by omega)⟩
    · obtain rfl : i = s.size := by omega
      have hnx := nx_end (P := Tryz.prog) HI.out hi
      go_wp2
      go_ret
      exact ⟨by rw [Lib.indexAny_none (by rw [← Lib.size_eq]; exact HN.out)]; rfl, HB.out⟩

end Go.Bee.C24x
namespace Go.Bee.C24g
open Go.RowKit (Below)
open Go Go.Bee Go.Proofs Go.Bee.Ty Go.Bee.C23 Go.Bee.C23s Go.Bee.Da Go.Bee.C24 Go.Bee.C24c Go.Bee.C24d Go.Bee.C24r Go.Bee.C24s Go.Bee.C24t Go.Bee.C24e Go.Bee.C24f
set_option linter.unusedVariables false
set_option maxRecDepth 20000
attribute [local irreducible] Go.Bee.bwp
theorem tys : type_of% Go.Bee.C24f.tys := Go.Bee.C24f.tys
theorem idxA (cs : Tx) (hcs : cs ∈ ([[44], [32, 44], [32, 46]] : List Tx)) (r : Tx) (hl : r.length ≤ 1048576) : IdxA cs r := by
  refine BRet.below (by kernel_rfl) rfl fun G w vs hvs hargs htb => ?_
  have hv : vs = #[.string ⟨r.toArray⟩, .string ⟨cs.toArray⟩] := by
    have e0 := hargs 0 _ (vs[0]'(by simp at hvs; omega)) rfl (Array.getElem?_eq_getElem _)
    have e1 := hargs 1 _ (vs[1]'(by simp at hvs; omega)) rfl (Array.getElem?_eq_getElem _)
    apply Array.ext (by simpa using hvs)
    intro i hi hj
    match i, hj with
    | 0, _ => obtain ⟨h, -⟩ := e0; generalize vs[0] = v at h; cases h; rfl
    | 1, _ => obtain ⟨h, -⟩ := e1; generalize vs[1] = v at h; cases h; rfl
    | n + 2, hj => have h : n + 2 < 2 := hj; omega
  rw [hv]
  have er : (⟨r.toArray⟩ : ByteArray).data.toList = r := by simp
  have ec : (⟨cs.toArray⟩ : ByteArray).data.toList = cs := by simp
  have zr : (⟨r.toArray⟩ : ByteArray).size = r.length := by simp [ByteArray.size]
  have zc : (⟨cs.toArray⟩ : ByteArray).size = cs.length := by simp [ByteArray.size]
  have hac : ∀ (j : Nat) b, (⟨cs.toArray⟩ : ByteArray).data.toList[j]? = some b → b.toNat < 128 := by
    rw [ec]
    intro j b hb
    have hm : b ∈ cs := List.mem_of_getElem? hb
    have ha : ∀ c ∈ ([[44], [32, 44], [32, 46]] : List Tx), ∀ b ∈ c, b.toNat < 128 := by decide
    exact ha cs hcs b hm
  have hsz : cs.length = 1 ∨ cs.length = 2 := by
    have ha : ∀ c ∈ ([[44], [32, 44], [32, 46]] : List Tx), c.length = 1 ∨ c.length = 2 := by decide
    exact ha cs hcs
  have hfin : ∀ {e : Ending} {w' : World}, e = .returned (.int .i64 (Lib.indexAny (⟨r.toArray⟩ : ByteArray).data.toList (⟨cs.toArray⟩ : ByteArray).data.toList)) → Below w.heap.size w w' →
      ∃ v, e = .returned v ∧ (∀ G' w2, RepT Tryz.prog G' w2 .res (.int (Lib.indexAny r cs)) v) ∧ Below w.heap.size w w' := by
    rintro e w' rfl hb
    rw [er, ec]
    exact ⟨_, rfl, fun G' w2 => ⟨.int _ _, rfl⟩, hb⟩
  rcases hsz with h1 | h2
  · refine (Any.strings_IndexAny_one YtbhmeompdbokdaaGreatDoorStr.lays153 _ _ w (by rw [zc]; exact h1) hac).mono ?_
    rintro e w' ⟨h, rfl⟩
    exact hfin h (Below.refl _ _)
  · by_cases h8 : r.length ≤ 8
    · refine (C24x.IndexAny_wide YtbhmeompdbokdaaGreatDoorStr.lays153 _ _ w (by rw [zc]; exact h2) (by rw [zr]; exact h8) hac).mono ?_
      rintro e w' ⟨h, hb⟩
      exact hfin h hb
    · have h116 : (Tryz.prog.info? (YtbhmeompdbokdaaGreatDoorStr.lays153_ren.t 116)).map (fun i => (i.zero, i.size)) = some (some (.agg (Array.replicate 256 (.bool false))), 256) := by kernel_rfl
      refine (Any.strings_IndexAny_long YtbhmeompdbokdaaGreatDoorStr.lays153 (zero_of_info h116).1 (zero_of_info h116).2 _ _ w (by rw [zc]; omega) (by rw [zr]; omega) (by rw [zr]; omega) (by rw [zc]; omega) hac).mono ?_
      rintro e w' ⟨h, rfl⟩
      exact hfin h (((Below.refl _ _).alloc (Nat.le_refl _) _).alloc (by simp) _)
theorem lawEnglishToEvent_b (s : Tx) (l : List Tx) : BRet Tryz.prog 4 [] [.str s, .d (.sl 1 (l.map .str))] (.bool true) [] := by
  refine BRet.slen 0 (by kernel_rfl) rfl fun hl => ?_
  refine bof Tryz.func4 ?_
  by_cases h0 : (s.length : Int) > 1048576
  · refine bgo ?_
    trivial
  have hsl : s.length ≤ 1048576 := by omega
  have hs2 := szStringS_b l 1048576 (by decide) (by decide)
  have hle := szL_len szTx_nice l 1048576 (by decide)
  generalize szL szTx l 1048576 = z at *
  by_cases h2 : z < 0
  · clear hle
    refine bgo ?_
    refine b_call hs2 rfl rfl rfl rfl ?_
    refine bgo ?_
    trivial
  have hlen : l.length ≤ 1048576 := by have := hle (by omega); omega
  have hto := toStringS_b l hlen
  have hsp := specEnglishToEvent_b s l hsl
  have hi := EnglishToEvent_b s l hsl (fun cs hcs r hr => idxA cs hcs r hr)
  have heq := eqStringS_s l
  rw [rdT_agree] at hsp
  generalize rdT s l (iRdT s l) = o at *
  have hev := eqEvent_s (ev0 o).d (ev0 o).p (ev0 o).a (ev0 o).am
  generalize o.isSome = b at *
  generalize (ev0 o).d = d at *
  generalize (ev0 o).p = p at *
  generalize (ev0 o).a = a at *
  generalize (ev0 o).am = am at *
  have hbb : (b != b) = false := bne_self_eq_false _
  clear hle hl
  refine bgo ?_
  refine b_call hs2 rfl rfl rfl rfl ?_
  refine bgo ?_
  refine b_call hto rfl rfl rfl rfl ?_
  refine bgo ?_
  refine b_call hsp rfl rfl rfl rfl ?_
  refine bgo ?_
  refine b_call hto rfl rfl rfl rfl ?_
  refine bgo ?_
  refine b_call hi rfl rfl rfl rfl ?_
  refine bgo ?_
  refine b_call hev rfl rfl rfl rfl ?_
  refine bgo ?_
  refine b_call hto rfl rfl rfl rfl ?_
  refine bgo ?_
  refine b_call heq rfl rfl rfl rfl ?_
  refine bgo ?_
  trivial
end Go.Bee.C24g

