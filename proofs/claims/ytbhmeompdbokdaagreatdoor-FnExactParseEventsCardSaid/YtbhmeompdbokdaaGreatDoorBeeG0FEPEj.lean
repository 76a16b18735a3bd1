/-
The logic and the walks, part 10. No condition.
-/
import Derived.Test.YtbhmeompdbokdaaGreatDoorBeeG0FEPEg
import Derived.ChangeArms
import Derived.SizedLaws
import Derived.Deep.Slices
import Derived.ChangeOld
import Derived.Below
import Derived.Carry
import Derived.ProofKit
import Derived.Test.YtbhmeompdbokdaaGreatDoorBeeG0FEPEh
import Derived.Handed
import Derived.HandedShaped
import Derived.Shelf.Vars
import Derived.FnData
import Derived.Test.YtbhmeompdbokdaaGreatDoorBeeG0FEPEi
import Derived.Test.YtbhmeompdbokdaaGreatDoorProg
import Derived.Shelf.Strings.IndexAnyAll
import Derived.Lib.OthersKept
import Derived.Laws.RangeAny
import Derived.Shelf.Small.Utf8
import Derived.Laws.Runes
import Derived.RegionTactic
import Derived.Deep.RegionWith
import Derived.ChangeAlike
namespace Go.Bee
open Go.ChangeShapes Go.WideShapes Go.ChangeAt Go.RowKit
set_option linter.unusedVariables false

def Old (w : World) : Nat → Nat → Prop := fun g _ => g < w.heap.size
def Cells (w : World) (ps : List PD) (cs : List Value) : Prop := ps.length = cs.length ∧ (∀ x ∈ ps, x.scalar = true) ∧ ∀ (i : Nat) x v, ps[i]? = some x → cs[i]? = some v → RepD (Old w) w x v
theorem Cells.append {w : World} {ps ps' : List PD} {cs cs' : List Value} (h : Cells w ps cs) (k : Cells w ps' cs') : Cells w (ps ++ ps') (cs ++ cs') := by
  obtain ⟨h1, h2, h3⟩ := h
  obtain ⟨k1, k2, k3⟩ := k
  refine ⟨by simp [h1, k1], fun x hx => (List.mem_append.1 hx).elim (h2 x) (k2 x), fun i x v hx hv => ?_⟩
  by_cases hi : i < ps.length
  · rw [List.getElem?_append_left hi] at hx
    rw [List.getElem?_append_left (by omega)] at hv
    exact h3 i x v hx hv
  · rw [List.getElem?_append_right (by omega)] at hx hv
    rw [h1] at hx
    exact k3 _ x v hx hv
def OpnN {α : Type} (P : Program) (t : TypeId) (e : α → PD) (B : α → Prop) (fuel : Nat) : Prop :=
  ∀ (H : Type) (enc : TypeId × Value → H) (w : World) (spare : Nat → Bool) (held : Bool) (cs : List Value) (x : DataW H × List MemPlace),
    DataW.trod enc P w 0 spare held fuel t cs = some x → (∀ n ∈ x.1.weights P t, n ≤ reachBytes) → ∃ a, B a ∧ Cells w (e a).cells cs
def Opn {α : Type} (P : Program) (t : TypeId) (e : α → PD) (B : α → Prop) : Prop := ∀ fuel, OpnN P t e B fuel
theorem cells_one {w : World} {x : PD} {v : Value} (hs : x.scalar = true) (h : RepD (Old w) w x v) : Cells w x.cells [v] := by
  have hc : x.cells = [x] := by cases x <;> first | rfl | simp [PD.scalar] at hs
  rw [hc]
  refine ⟨rfl, by simpa using hs, fun i y u hy hu => ?_⟩
  cases i with
  | zero => simp at hy hu; subst hy; subst hu; exact h
  | succ i => simp at hy
theorem opn_str {P : Program} {t : TypeId} (ht : P.underlying t = some .string) : Opn P t PD.str (fun _ => True) := by
  intro fuel H enc w spare held cs x h hb
  obtain ⟨s, rfl, rfl, _⟩ := DataW.trod_string ht h
  have := hb s.data.toList.length (by simp [DataW.weights])
  refine ⟨s.data.toList, trivial, cells_one rfl ?_⟩
  have hr := RepD.str (S := Old w) (w := w) s.data.toList (by unfold reachBytes at this; omega)
  simpa using hr
theorem choose_list {α : Type} (n : Nat) (R : Nat → α → Prop) (h : ∀ i, i < n → ∃ y, R i y) : ∃ ys : List α, ys.length = n ∧ ∀ i y, ys[i]? = some y → R i y := by
  induction n with
  | zero => exact ⟨[], rfl, fun i y hy => by simp at hy⟩
  | succ n ih =>
    obtain ⟨ys, hl, hr⟩ := ih (fun i hi => h i (by omega))
    obtain ⟨y, hy⟩ := h n (by omega)
    refine ⟨ys ++ [y], by simp [hl], fun i z hz => ?_⟩
    by_cases hi : i < ys.length
    · rw [List.getElem?_append_left hi] at hz
      exact hr i z hz
    · rw [List.getElem?_append_right (by omega)] at hz
      have : i = ys.length := by
        have := (List.getElem?_eq_some_iff.1 hz).1
        simp at this
        omega
      subst this
      simp at hz
      subst hz
      rw [hl]
      exact hy
theorem mem_weightsAll {H : Type} (P : Program) (e : TypeId) {n : Nat} : ∀ (l : List (DataW H)) (d : DataW H), d ∈ l → n ∈ d.weights P e → n ∈ DataW.weightsAll P e l
  | [], d, hd, _ => by simp at hd
  | a :: l, d, hd, hn => by
    rw [DataW.weightsAll, List.mem_append]
    rcases List.mem_cons.1 hd with rfl | hd
    · exact .inl hn
    · exact .inr (mem_weightsAll P e l d hd hn)
theorem cell_lt {w : World} {a : Addr} {v : Value} (h : w.cell? a = some v) : a.block < w.heap.size ∧ a.spot = none := by
  unfold World.cell? at h
  split at h
  · rename_i c _ _ hc
    split at h
    · cases h
    · rename_i hs
      exact ⟨(Array.getElem?_eq_some_iff.1 hc).1, by simpa using hs⟩
  · cases h
theorem run_of_each {w : World} {sz g : Nat} {α : Type} {e : α → PD} : ∀ (ys : List α) (o : Nat), (∀ (i : Nat) y, ys[i]? = some y → ∃ cs : List Value, cs.length = sz ∧ (∀ (j : Nat) u, cs[j]? = some u → w.cell? ⟨g, o + i * sz + j, none⟩ = some u) ∧ Cells w (e y).cells cs) →
    ∃ vs : List Value, vs.length = ys.length * sz ∧ Cells w (flat (ys.map e)) vs ∧ ∀ (i : Nat) v, vs[i]? = some v → w.cell? ⟨g, o + i, none⟩ = some v
  | [], o, _ => ⟨[], by simp, ⟨by simp [flat], by simp [flat], by simp [flat]⟩, by simp⟩
  | y :: ys, o, h => by
    obtain ⟨cs, h1, h2, h3⟩ := h 0 y rfl
    obtain ⟨vs, k1, k2, k3⟩ := run_of_each (w := w) (sz := sz) (g := g) (e := e) ys (o + sz) (fun i z hz => by
      obtain ⟨cs', q1, q2, q3⟩ := h (i + 1) z (by simpa using hz)
      refine ⟨cs', q1, fun j u hu => ?_, q3⟩
      rw [← q2 j u hu]
      congr 2
      rw [Nat.add_mul]; omega)
    refine ⟨cs ++ vs, by simp [h1, k1, Nat.add_mul]; omega, ?_, fun i v hv => ?_⟩
    · rw [List.map_cons, flat_cons]; exact h3.append k2
    · by_cases hi : i < cs.length
      · rw [List.getElem?_append_left hi] at hv
        have := h2 i v hv
        simpa using this
      · rw [List.getElem?_append_right (by omega)] at hv
        rw [← k3 _ v hv]
        congr 2
        omega
theorem opn_slice {P : Program} {t e : TypeId} {α : Type} {d : α → PD} {B : α → Prop} {sz fuel : Nat} (ht : P.underlying t = some (.slice e)) (hC : P.cellsOf e = sz) (hz : 0 < sz) (hby : 0 < P.bytesOf e)
    (h : ∀ n, n < fuel → OpnN P e d B n) : OpnN P t (fun l : List α => .sl sz (l.map d)) (fun l => ∀ a ∈ l, B a) fuel := by
  intro H enc w spare held cs x hx hw
  rcases DataW.trod_slice ht hx with ⟨rfl, _⟩ | ⟨a, len, cap, elems, rest, n, rfl, rfl, rfl, _, hl, hm, hlen, hel, _, _⟩
  · exact ⟨[], by simp, cells_one rfl (.nil sz)⟩
  · have hw2 : ∀ y ∈ elems, ∀ k ∈ y.1.weights P e, k ≤ reachBytes := fun y hy k hk => hw k (by
      rw [DataW.weights, ht]
      refine List.mem_cons_of_mem _ (List.mem_append_left _ (mem_weightsAll P e _ y.1 (List.mem_map_of_mem hy) hk)))
    obtain ⟨ys, hyl, hy⟩ := choose_list (α := α) len (fun i y => ∃ cs', w.cells? 0 (a.add (i * sz)) sz = some cs' ∧ B y ∧ Cells w (d y).cells cs') (fun i hi => by
      have h1 := hel i hi
      rw [List.getElem?_eq_getElem (by omega), Option.bind_eq_some_iff] at h1
      obtain ⟨cs', hc, hd⟩ := h1
      obtain ⟨y, hB, hk⟩ := h n (by omega) H enc w spare held cs' _ hd (hw2 _ (List.getElem_mem _))
      rw [hC] at hc
      exact ⟨y, cs', hc, hB, hk⟩)
    refine ⟨ys, fun y hm => ?_, cells_one rfl ?_⟩
    · obtain ⟨i, hi⟩ := List.getElem?_of_mem hm
      exact (hy i y hi).choose_spec.2.1
    · by_cases h0 : ys = []
      · subst h0
        simp only [List.length_nil] at hyl
        subst hyl
        exact .emp sz a cap
      · have hpos : 0 < ys.length := List.length_pos_iff.2 h0
        obtain ⟨cs0, hc0, -, hk0⟩ := hy 0 ys[0] (List.getElem?_eq_getElem hpos)
        obtain ⟨_, hcl0, hat0⟩ := World.cells?_some hc0
        have hcell := hat0 0 hz
        rw [List.getElem?_eq_getElem (by omega)] at hcell
        have hsp := (cell_lt hcell).2
        have hbl := (cell_lt hcell).1
        obtain ⟨g, o, sp⟩ := a
        have hsp' : sp = none := by simpa [Addr.add] using hsp
        subst hsp'
        obtain ⟨vs, k1, k2, k3⟩ := run_of_each (w := w) (sz := sz) (g := g) (e := d) ys o (fun i y hyi => by
          obtain ⟨cs', hc, hB, hk⟩ := hy i y hyi
          obtain ⟨_, hcl, hat⟩ := World.cells?_some hc
          refine ⟨cs', hcl, fun j u hu => ?_, hk⟩
          have hj : j < sz := by rw [← hcl]; exact (List.getElem?_eq_some_iff.1 hu).1
          have := hat j hj
          rw [hu, Addr.add_lit, Addr.add_lit] at this
          exact this)
        have hll : ys.length = (ys.map d).length := by simp
        have hmax : ys.length ≤ 140737488355328 := by
          have h1 : (elems.length + rest.length) * P.bytesOf e ≤ reachBytes := hw _ (by simp [DataW.weights, ht])
          have h2 : ys.length ≤ (elems.length + rest.length) * P.bytesOf e := Nat.le_trans (by omega) (Nat.le_mul_of_pos_right _ hby)
          unfold reachBytes at h1; omega
        rw [← hyl, hll]
        refine .sl sz (ys.map d) g o cap vs (by rw [← hll]; exact hmax) (by rw [← hll]; omega) (fun x hx => ?_) k2.2.1 k2.1.symm (fun i v hv => ⟨(cell_lt (k3 i v hv)).1, k3 i v hv⟩) k2.2.2
        obtain ⟨y, hym, rfl⟩ := List.mem_map.1 hx
        obtain ⟨i, hi⟩ := List.getElem?_of_mem hym
        obtain ⟨cs', hc, _, hk⟩ := hy i y hi
        obtain ⟨_, hcl, _⟩ := World.cells?_some hc
        rw [hk.1, hcl]
def OpnF {α : Type} (P : Program) (fs : List Field) (off : Nat) (e : α → List PD) (B : α → Prop) (n : Nat) : Prop :=
  ∀ (H : Type) (enc : TypeId × Value → H) (w : World) (spare : Nat → Bool) (held : Bool) (cs : List Value) (xs : List (DataW H × List MemPlace)), xs.length = fs.length →
    (∀ (i : Nat) (f : Field), fs[i]? = some f → DataW.trod enc P w 0 spare held n f.type ((cs.drop f.offset).take (P.cellsOf f.type)) = xs[i]?) →
    (∀ k ∈ DataW.weightsEach P (fs.map (·.type)) (xs.map (·.1)), k ≤ reachBytes) → ∃ y, B y ∧ Cells w (e y) (cs.drop off)
def OpnS {α : Type} (P : Program) (fs : List Field) (off len : Nat) (e : α → List PD) (B : α → Prop) (n : Nat) : Prop :=
  ∀ (H : Type) (enc : TypeId × Value → H) (w : World) (spare : Nat → Bool) (held : Bool) (cs : List Value) (xs : List (DataW H × List MemPlace)), xs.length = fs.length → cs.length = len →
    (∀ (i : Nat) (f : Field), fs[i]? = some f → DataW.trod enc P w 0 spare held n f.type ((cs.drop f.offset).take (P.cellsOf f.type)) = xs[i]?) →
    (∀ k ∈ DataW.weightsEach P (fs.map (·.type)) (xs.map (·.1)), k ≤ reachBytes) → ∃ y, B y ∧ Cells w (e y) (cs.drop off)
theorem OpnN.imp {α : Type} {P : Program} {t : TypeId} {e : α → PD} {B B' : α → Prop} {n : Nat} (h : OpnN P t e B n) (hb : ∀ a, B a → B' a) : OpnN P t e B' n := by
  intro H enc w spare held cs x hx hw
  obtain ⟨a, hB, hk⟩ := h H enc w spare held cs x hx hw
  exact ⟨a, hb a hB, hk⟩

theorem weights_of_each {H : Type} {P : Program} {ts : List TypeId} {ds : List (DataW H)} {j : Nat} {t : TypeId} {d : DataW H} (h : (DataW.weightsEach P ts ds).all (· ≤ reachBytes) = true) (ht : ts[j]? = some t) (hd : ds[j]? = some d) : ∀ n ∈ d.weights P t, n ≤ reachBytes := by
  intro n hn
  have := List.all_eq_true.1 h _ (DataW.weights_mem_each ht hd n hn)
  simpa using this
theorem arg_opn {H : Type} {enc : TypeId × Value → H} {P : Program} {t : TypeId} {α : Type} {e : α → PD} {B : α → Prop} {W : World} {spare : Nat → Bool} {held : Bool} {v : Value} {x : DataW H} {p : List MemPlace} {ts : List TypeId} {ds : List (DataW H)} {j : Nat} (h : Opn P t e B)
    (hsz : (DataW.weightsEach P ts ds).all (· ≤ reachBytes) = true) (ht : ts[j]? = some t) (hd : ds[j]? = some x) (hv : DataW.Trod enc P W 0 spare held t v x p) : ∃ y, B y ∧ Cells W (e y).cells v.cells.toList := by
  obtain ⟨fuel, hf⟩ := hv
  exact h fuel H enc W spare held _ _ hf (weights_of_each hsz ht hd)
def G0 (W : World) : Gh := { im := Old W, β := fun _ => 0, live := fun _ => False, own := fun _ => none, fz := fun g => g < W.heap.size }
theorem G0_hp (P : Program) (W : World) : Hp P (G0 W) W (bxOf []) :=
  ⟨fun b cells hc => (by cases b <;> simp [bxOf] at hc), fun b => (by cases b <;> simp [bxOf, G0]), fun b b' hl => False.elim hl, fun g o h => h, fun g p hg => (by cases hg), fun b hl => False.elim hl, fun b hl => False.elim hl⟩
theorem rep_one {P : Program} {W : World} {i : Nat} {x : PD} {v : Value} (hs : x.scalar = true) (hv : v.cells = #[v]) (h : Cells W x.cells v.cells.toList) : RepT P (G0 W) W (.t i) (.d x) v := by
  have hc : x.cells = [x] := by cases x <;> first | rfl | simp [PD.scalar] at hs
  rw [hc, hv] at h
  exact ⟨h.2.2 0 x v rfl rfl, hs⟩
theorem call_true {P : Program} {f : Nat} {args : List PV} {vs : Array Value} {W : World} (h : BRet P f [] args (.bool true) []) (hl : vs.size = args.length) (ha : ∀ (i : Nat) x u, args[i]? = some x → vs[i]? = some u → RepT P (G0 W) W (.t i) x u) (htb : TabOk P (fun g => g < W.heap.size) W) :
    Calls P f vs W fun e W' => e = .returned (.bool true) ∧ Below W.heap.size W W' := by
  refine Calls.mono (h.2.2 (G0 W) W vs (fun _ => False) hl ha (G0_hp P W) (fun g p hg => by cases hg) (fun b hl => False.elim hl) (fun g hg => ⟨hg, id⟩) (fun g h1 _ => h1) htb) ?_
  rintro e W' ⟨v, G', rfl, hv, -, hx, -⟩
  obtain ⟨hv, -⟩ := hv
  cases hv
  exact ⟨rfl, hx.os, hx.tape, hx.output, hx.size, fun k hk => hx.old k hk id⟩
end Go.Bee


namespace Go.Bee
theorem RepD.strs {S : Nat → Nat → Prop} {w : World} {sz : Nat} {l : List PD} {v : Value} (h : RepD S w (.sl sz l) v) : ∀ s, PD.str s ∈ flat l → s.length ≤ 140737488355328 := by
  intro s hs
  cases h with
  | nil _ => cases hs
  | emp _ _ _ => cases hs
  | sl _ _ g o c vs hb hc hu hs' hl hv hr =>
    obtain ⟨i, hi, he⟩ := List.mem_iff_getElem.1 hs
    exact (hr i _ vs[i] ((List.getElem?_eq_getElem hi).trans (congrArg some he)) (List.getElem?_eq_getElem (by omega))).slen
theorem BRet.strs {P : Program} {f : Nat} {args : List PV} {r : PV} (i : Nat) {sz : Nat} {l : List PD} (hf : isFn P f = true) (ha : args[i]? = some (.d (.sl sz l))) (h : (∀ s, PD.str s ∈ flat l → s.length ≤ 140737488355328) → BRet P f [] args r []) : BRet P f [] args r [] :=
  BRet.know hf rfl (fun G w vs hvs hargs => by
    have hi : i < vs.size := by rw [hvs]; exact (List.getElem?_eq_some_iff.1 ha).1
    exact (hargs i _ vs[i] ha (Array.getElem?_eq_getElem hi)).1.strs) h
end Go.Bee
namespace Go.Bee.C24d
open Go Go.Bee Go.Proofs Go.Bee.Ty Go.Bee.C23 Go.Bee.C23s Go.Bee.Da Go.Bee.C24 Go.Bee.C24c
set_option linter.unusedVariables false
set_option maxRecDepth 20000
attribute [local irreducible] Go.Bee.bwp
def szTx (s : Tx) (x : Int) : Int := if x - s.length < 0 then -1 else x - s.length
theorem szTx_nice : Nice szTx := fun t x hx => by unfold szTx; split <;> omega
theorem flat_txs (l : List Tx) : flat (l.map PD.str) = l.map .str := by
  induction l with
  | nil => rfl
  | cons a l ih => simp only [flat, List.map_cons, List.flatMap_cons] at ih ⊢; rw [ih]; rfl
theorem szStringS_b (l : List Tx) (x : Int) (h0 : 0 ≤ x) (hx : x ≤ 1048576) : BRet Tryz.prog 8 [] [.d (.sl 1 (l.map .str)), .int x] (.int (szL szTx l x)) [] := by
  refine BRet.len 0 (by kernel_rfl) rfl fun hl => ?_
  refine BRet.strs 0 (by kernel_rfl) rfl fun hls => ?_
  have hl2 : ∀ s ∈ l, s.length ≤ 140737488355328 := fun s h => hls s (by rw [flat_txs]; exact List.mem_map_of_mem h)
  clear hls
  simp only [List.length_map] at hl
  refine bof Tryz.func8 ?_
  have hlen : ∀ m : List PD, m = l.map .str → m.length = l.length := fun m h => by rw [h]; simp
  generalize hr : szL szTx l x = r
  unfold szL at hr
  by_cases hneg : x - (l.length : Int) < 0
  · rw [if_pos hneg] at hr
    subst hr
    refine bgo ?_
    trivial
  · rw [if_neg hneg] at hr
    refine bgo ?_
    refine b_lp (ι := Nat × Int) (fun i => [(0, .d (.sl 1 (l.map .str))), (1, .int i.2), (5, .int i.1)]) (fun _ => []) (fun i => i.1 ≤ l.length ∧ 0 ≤ i.2 ∧ i.2 ≤ x ∧ szF szTx (l.drop i.1) i.2 = r) (fun i => l.length - i.1) (0, x - l.length) hs ⟨Nat.zero_le _, by dsimp only; omega, by dsimp only; omega, hr⟩ ?_
    clear hr
    rintro ⟨k, y⟩ ⟨hk, hy0, hyx, hj⟩ I nx
    dsimp only at hk hy0 hyx hj ⊢
    by_cases hlt : k < l.length
    · have hx : l[k]? = some l[k] := List.getElem?_eq_getElem hlt
      have hsl := hl2 l[k] (List.getElem_mem hlt)
      rw [szF_step hlt] at hj
      unfold szTx at hj
      have hb : (k : Int) + 1 ≤ 1099511627776000 := by omega
      generalize hgs : l[k] = s at *
      clear hl2
      by_cases hb2 : y - (s.length : Int) < 0
      · rw [if_pos hb2, if_pos (by decide)] at hj
        subst hj
        refine bgo ?_
        trivial
      · rw [if_neg hb2, if_neg hb2] at hj
        refine bgo ?_
        exact nx.go (k + 1, y - s.length) ⟨hlt, by dsimp only; omega, by dsimp only; omega, hj⟩ (by dsimp only; omega) hs
    · have hk' : k = l.length := by omega
      subst hk'
      rw [List.drop_length] at hj
      have hj2 : y = r := hj
      subst hj2
      clear hj hl2
      refine bgo ?_
      refine wk_rfl ?_
      refine bgo ?_
      trivial
theorem toStringS_b (l : List Tx) (hl : l.length ≤ 1048576) : BRet Tryz.prog 10 [] [.d (.sl 1 (l.map .str))] (.own 9 1 (l.map .str)) [] := by
  refine bof Tryz.func10 ?_
  refine bgo ?_
  refine ⟨by omega, by omega, ?_⟩
  refine b_loop (fun n st => ∃ k : Nat, n = l.length - k ∧ k ≤ l.length ∧ st.tm 0 = .d (.sl 1 (l.map .str)) ∧ st.tm 3 = .rsl (.t 7) 9 1 l.length ∧ st.tm 4 = .int k ∧ st.bx (.t 7) = some (filling (l.map .str) str0 l.length k) ∧ ∀ b, b ≠ .t 7 → st.bx b = none) l.length
    ⟨0, rfl, Nat.zero_le _, rfl, rfl, rfl, by rw [filling_0]; rfl, fun b hb => by simp [bx_put, bx_strip1, bx_sbx, bx_init, bxOf_nil, hb]⟩ ?_
  rintro n st ⟨k, rfl, hk, t0, t3, t4, t7, hb⟩
  by_cases hlt : k < l.length
  · have hx : l[k]? = some l[k] := List.getElem?_eq_getElem hlt
    have hfl := filling_len (l := l.map PD.str) (zero := str0) (n := l.length) (k := k) (sz := 1) rfl (fun x hx => by obtain ⟨y, _, rfl⟩ := List.mem_map.1 hx; rfl) (by simp) hk
    have hfs := filling_step (l := l.map PD.str) (zero := str0) (n := l.length) (k := k) (sz := 1) rfl (fun x hx => by obtain ⟨y, _, rfl⟩ := List.mem_map.1 hx; rfl) (by simp) (by simpa using hlt)
    rw [Nat.mul_one] at hfs hfl
    have hfb : (List.take k (filling (l.map PD.str) str0 l.length k) ++ [PV.str l[k]] ++ List.drop (k + 1) (filling (l.map PD.str) str0 l.length k)).map PV.bC = filling (l.map .str) str0 l.length (k + 1) := by
      rw [List.map_append, List.map_append, List.map_take, List.map_drop, filling_bC rfl, ← hfs, List.getElem_map]; rfl
    refine bgo ?_
    refine ⟨by omega, _, _, Weak.bC (.t 7), by omega, k + 1, rfl, hlt, t0, t3, rfl, ?_, fun b hne => ?_⟩
    · refine Eq.trans ?_ (congrArg some hfb)
      simp [bx_put, bx_strip1, bx_sbx]
    have := hb b hne
    simp [bx_put, bx_strip1, bx_sbx, hne, this]
  · have hk' : k = l.length := by omega
    subst hk'
    refine bgo ?_
    refine made (t := 3) (l := l.map .str) t3 (t7.trans ?_) (by simp) (fun x hx => by obtain ⟨y, _, rfl⟩ := List.mem_map.1 hx; rfl) hb fun s s3 hb => ?_
    · have := filling_n (l.map PD.str) str0
      rw [List.length_map] at this
      rw [this]
    refine bgo ?_
    trivial
theorem eqStringS_s (l : List Tx) : BRet Tryz.prog 13 [] [.d (.sl 1 (l.map .str)), .d (.sl 1 (l.map .str))] (.bool true) [] := by
  refine BRet.len 0 (by kernel_rfl) rfl fun hl => ?_
  refine bof Tryz.func13 ?_
  have hll : (l.map PD.str).length = l.length := by simp
  have hli : ∀ i (h : i < l.length), (l.map PD.str)[i]? = some (.str l[i]) := fun i h => by simp [h]
  generalize l.map PD.str = q at *
  refine bgo ?_
  refine b_lp (ι := Nat × Unit) (fun i => [(0, .d (.sl 1 q)), (1, .d (.sl 1 q)), (5, .int i.1)]) (fun _ => []) (fun i => i.1 ≤ l.length) (fun i => l.length - i.1) (0, ()) hs (Nat.zero_le _) ?_
  rintro ⟨i, u⟩ hi I nx
  dsimp only at hi ⊢
  by_cases hlt : i < l.length
  · have hx := hli i hlt
    generalize l[i] = x at *
    have hib : (i : Int) + 1 ≤ 1099511627776000 := by omega
    have hlt2 : i < q.length := by omega
    clear hli
    refine bgo ?_
    exact nx.go (i + 1, ()) hlt (by dsimp only; omega) hs
  · have hlt2 : ¬ i < q.length := by omega
    refine bgo ?_
    refine wk_rfl ?_
    refine bgo ?_
    trivial
def evRes (d p : Int) (a : Tx) (am : Int) (l : List Tx) : Tx := if (parOk l && evOk d p a am l.length) = true then evT d (l.getD p.toNat []) a am else []
theorem opnTxs (n : Nat) : OpnN Tryz.prog 22 (fun l : List Tx => .sl 1 (l.map .str)) (fun _ => True) n :=
  (opn_slice (sz := 1) Tryz.underlying22 (by kernel_rfl) (by decide) (of_decide_eq_true (by kernel_rfl)) (fun m _ => opn_str Tryz.underlying9 m)).imp fun _ _ => trivial
end Go.Bee.C24d


namespace Go.Bee
set_option linter.unusedVariables false
variable {H : Type} {enc : TypeId × Value → H}
theorem returnsInHanded_and_shaped {a : Assume} {C : Checked} {os : Os} {f : FuncId} {fn : Func} {s : ChangeSpec} {conds : List PathCond} {apart fresh handsOn again : Bool} {X : World → Array Value → Prop}
    (hX : ∀ (w w' : World) (args : Array Value), w.heap = w'.heap → X w args → X w' args)
    (own : ownKnob C.prog.godebug = none) (started : os.Started) (noInit : C.prog.inits.idxOf? f = none) (hfn : C.prog.funcs[f]? = some fn)
    (witness : ∃ (w : World) (tape : Tape) (i : Input), w.os = os ∧ (w.forCall tape i).Shaped C.prog ∧ i.vars = [] ∧ Input.okWide C.prog (w.forCall tape i) .any w.heap.size f i ∧
      ((s.pre enc C.prog fn conds apart (w.forCall tape i).memory i.args ∧ X (w.forCall tape i).memory i.args) ∧ sizedMet enc C.prog fn (OpenSpec.ofChange s) apart (w.forCall tape i).memory i.args) ∧ a.holds C.prog (lone (Frame.enter C.prog f i.args .normal) [] (w.forCall tape i)))
    (contract : ∀ (W : World) (base : Nat) (args : Array Value) (ds gs : List (DataW H)) (before : List MemPlace),
      (∀ (j : Nat) t v, fn.params[j]? = some t → args[j]? = some v → Value.okWide C.prog W .any base t v) →
      DataW.Whole enc C.prog fn.params.toList s.vars apart W args.toList ds gs before →
      conds.all (PathCond.test C.prog ⟨fn.params.toList, ds, s.plain.varTypes C.prog, gs⟩) = true →
      (DataW.weightsEach C.prog (fn.params.toList ++ s.plain.varTypes C.prog) (ds ++ gs)).all (· ≤ reachBytes) = true → X W args → W.ShapedOpen C.prog →
      a.holds C.prog (lone (Frame.enter C.prog f args .normal) [] W) →
      Calls C.prog f args W fun e W' => ∃ v, e = .returned v ∧ s.post enc C.prog fn apart fresh handsOn again W args v W') :
    ReturnsInHanded a C os f .any (fun w args => (s.pre enc C.prog fn conds apart w args ∧ X w args) ∧ sizedMet enc C.prog fn (OpenSpec.ofChange s) apart w args) (s.post enc C.prog fn apart fresh handsOn again) := by
  refine returnsInHanded_of_calls own started noInit witness ?_
  intro w tape i _ hsh _ hok hpre hholds
  obtain ⟨_, _, _, fn', hfn', _, _, _, _, hval⟩ := hok
  have e : fn' = fn := Option.some.inj (hfn'.symm.trans hfn)
  subst e
  obtain ⟨⟨⟨ds, gs, before, hw, hc⟩, hx⟩, hz⟩ := hpre
  have hw' := DataW.Whole.of_heap (w' := w.forCall tape i) (by rfl) hw
  refine (contract (w.forCall tape i) w.heap.size i.args ds gs before hval hw' hc (hz.weights hw) (hX _ _ _ (by rfl) hx) hsh hholds).mono fun e W' ⟨v, he, hp⟩ => ?_
  subst he
  exact ChangeSpec.post_blind hp
theorem tab_num {P : Program} {W : World} {name : String} {g : Nat} {t : TypeId} {zero : Array Value} (hn : P.globalNamed name = some g) (h : W.ShapedOpen P) (hg : g < P.globals.size)
    (h0 : ((begin P (fun _ _ => 0) default).world.heap[g]?).bind Obj.row? = some (zero, t)) (hz : zero.size = 1) (hb : P.buildable t = true) (hc : P.cellTypes P.depth t = some [t]) (hu : P.underlying t = some (.int .i64)) : TabHas P W name .num := by
  obtain ⟨m, hm⟩ := Go.Proofs.cell_of_shapedOpen_int h hg h0 hz hb hc hu
  obtain ⟨cs, hh, hs, _⟩ := h.1 g zero t hg h0
  have hv : W.var? P name = some cs := by simp [World.var?, hn, hh]
  have h1 := World.var?_cell hn hv 0
  rw [hm] at h1
  refine ⟨m, ?_⟩
  rw [hv]
  congr 1
  apply Array.ext
  · rw [hs, hz]; rfl
  · intro i hi hj
    obtain rfl : i = 0 := by simp at hj; omega
    have h2 : cs[0]? = some cs[0] := Array.getElem?_eq_getElem hi
    rw [h2] at h1
    exact (Option.some.inj h1).symm
end Go.Bee


namespace Go.Bee.C24t
open Go Go.Bee Go.Proofs Go.Bee.Ty Go.Bee.C23 Go.Bee.C23s Go.Bee.Da Go.Bee.C24 Go.Bee.C24c Go.Bee.C24d Go.Bee.C24r Go.Bee.C24s
set_option linter.unusedVariables false
set_option maxRecDepth 20000
attribute [local irreducible] Go.Bee.bwp
theorem eqEvent_s (d p : Int) (a : Tx) (am : Int) : BRet Tryz.prog 12 [] [.agg [.int d, .int p, .str a, .int am], .agg [.int d, .int p, .str a, .int am]] (.bool true) [] := by
  refine bof Tryz.func12 ?_
  refine bgo ?_
  trivial
end Go.Bee.C24t


namespace Go.Proofs
open Go.Shelf
def YtbhmeompdbokdaaGreatDoorStr.lays153_ren : Go.Shelf.Ren := ⟨fun | 153 => 113 | 152 => 151 | 226 => 152 | 227 => 153 | 228 => 154 | 137 => 177 | 119 => 178 | 224 => 179 | 225 => 180 | 217 => 185 | 266 => 192 | n => n, fun | 9 => 9 | 3 => 3 | 4 => 4 | 5 => 5 | 21 => 21 | 117 => 139 | 116 => 138 | 0 => 0 | 46 => 145 | 124 => 157 | n => n, fun | n => n⟩
end Go.Proofs
namespace Go.Bee.C24x
open Go Go.Proofs Go.Shelf Go.RowKit Go.Lib
variable {ρ : Ren}
def itW (wx : World) (b : Nat) (s : ByteArray) (p : Nat) : World := { wx with heap := wx.heap.setIfInBounds b (.stringIter s p) }
end Go.Bee.C24x
namespace Go.Bee.C24g
open Go.RowKit (Below)
open Go Go.Bee Go.Proofs Go.Bee.Ty Go.Bee.C23 Go.Bee.C23s Go.Bee.Da Go.Bee.C24 Go.Bee.C24c Go.Bee.C24d Go.Bee.C24r Go.Bee.C24s Go.Bee.C24t Go.Bee.C24e Go.Bee.C24f
set_option linter.unusedVariables false
set_option maxRecDepth 20000
attribute [local irreducible] Go.Bee.bwp
theorem tys : type_of% Go.Bee.C24f.tys := Go.Bee.C24f.tys
end Go.Bee.C24g


namespace Go.Bee.Ea
open Go Go.Bee Go.Proofs Go.Bee.Ty Go.Bee.C23 Go.Bee.C23s Go.Bee.Da Go.Bee.C24 Go.Bee.C24c Go.Bee.C24d Go.Bee.C24r
set_option linter.unusedVariables false
def eP (e : Ev4) : PD := .agg [.int .i64 e.d, .int .i64 e.p, .str e.a, .int .i64 e.am]
def eS (l : List Ev4) : List PD := l.map eP
theorem eP_inj : ∀ a b : Ev4, eP a = eP b → a = b := fun a b h => by
  obtain ⟨a1, a2, a3, a4⟩ := a; obtain ⟨b1, b2, b3, b4⟩ := b
  simp [eP] at h
  obtain ⟨h1, h2, h3, h4⟩ := h
  subst h1; subst h2; subst h3; subst h4; rfl
theorem lessLt : ∀ a b : List UInt8, (Op.bytesLess a b || a == b) = !(Op.bytesLess b a)
  | [], [] => rfl
  | [], _ :: _ => rfl
  | _ :: _, [] => rfl
  | a :: x, b :: y => by
    have ih := lessLt x y
    simp only [Op.bytesLess]
    by_cases h1 : a < b
    · have h2 : ¬ b < a := fun h => by have := UInt8.lt_iff_toNat_lt.1 h; have := UInt8.lt_iff_toNat_lt.1 h1; omega
      have h3 : ¬ b = a := fun e => by subst e; exact h2 h1
      simp [h1, h2, h3]
    · by_cases h2 : a = b
      · subst h2
        simp [h1]
        exact ih
      · have h3 : b < a := by
          rw [UInt8.lt_iff_toNat_lt] at h1 ⊢
          have : a.toNat ≠ b.toNat := fun e => h2 (UInt8.toNat_inj.1 e)
          omega
        simp [h1, h2, h3]
def cmpI (a b : Int) : Int := if a < b then -1 else if a > b then 1 else 0
def cmpS (a b : Tx) : Int := if Op.bytesLess a b = true then -1 else if Op.bytesLess b a = true then 1 else 0
def orI (l : List Int) : Int := (l.find? fun x => x != 0).getD 0
def cmpE (a b : Ev4) : Int := orI [cmpI a.d b.d, cmpI a.p b.p, cmpS a.a b.a, cmpI a.am b.am]
theorem cmpI_0 {a b : Int} : cmpI a b = 0 ↔ a = b := by unfold cmpI; split <;> (try split) <;> omega
theorem orI_c (x : Int) (l : List Int) : orI (x :: l) = if x = 0 then orI l else x := by
  unfold orI
  rw [List.find?_cons]
  by_cases h : x = 0
  · subst h; rfl
  · rw [if_neg h]
    have : (x != 0) = true := by simpa using h
    rw [this]; rfl
theorem cmpI_neg (a b : Int) : cmpI b a = -cmpI a b := by unfold cmpI; split <;> split <;> (try split) <;> (try split) <;> omega
theorem cmpS_neg (a b : Tx) : cmpS b a = -cmpS a b := by
  have h1 := lessLt a b
  have h2 := lessLt b a
  unfold cmpS
  cases e1 : Op.bytesLess a b <;> cases e2 : Op.bytesLess b a <;> simp [e1, e2] at h1 h2 ⊢
theorem cmpE_neg (a b : Ev4) : cmpE b a = -cmpE a b := by
  unfold cmpE
  simp only [orI_c, cmpI_neg a.d b.d, cmpI_neg a.p b.p, cmpS_neg a.a b.a, cmpI_neg a.am b.am]
  have h0 : orI [] = 0 := rfl
  rw [h0]
  repeat' split
  all_goals omega
def e0 : Ev4 := ⟨0, 0, [], 0⟩
def badAt (l : List Ev4) (k : Nat) : Bool := decide (0 < k) && decide (cmpE (l.getD k e0) (l.getD (k - 1) e0) < 0)
def srtE (l : List Ev4) : Bool := (List.range l.length).all fun k => !badAt l k
theorem badAt_i {l : List Ev4} {k : Nat} (hk : k + 1 < l.length) : badAt l (k + 1) = decide (cmpE l[k + 1] l[k] < 0) := by
  unfold badAt
  have h2 : k < l.length := by omega
  simp [hk, h2]
theorem srt_bad {l : List Ev4} {k : Nat} (hk : k < l.length) (h : badAt l k = true) : srtE l = false := by
  cases hx : srtE l
  · rfl
  · unfold srtE at hx
    have := List.all_eq_true.1 hx k (List.mem_range.2 hk)
    rw [h] at this; cases this
theorem srt_good {l : List Ev4} (h : ∀ k, k < l.length → badAt l k = false) : srtE l = true := by
  unfold srtE
  rw [List.all_eq_true]
  intro k hk
  rw [h k (List.mem_range.1 hk)]; rfl
def evsOk (l : List Ev4) (n : Int) : Bool := (inB n 2 4 && decide ((l.length : Int) ≤ 40) && l.all fun e => evOk e.d e.p e.a e.am n) && srtE l
def jn (p : Tx) : List Tx → List Tx
  | [] => [p]
  | h :: t => (p ++ h) :: t
theorem jn_0 (c : UInt8) (s : Tx) : jn [] (splitC c s) = splitC c s := by
  cases h : splitC c s with
  | nil => exact absurd h (splitC_ne c s)
  | cons a l => rfl
theorem jn_c (c : UInt8) (p s : Tx) : jn p (splitC c (c :: s)) = p :: splitC c s := by
  rw [splitC_c, if_pos rfl]; simp [jn]
theorem jn_n {c a : UInt8} (h : a ≠ c) (p s : Tx) : jn p (splitC c (a :: s)) = jn (p ++ [a]) (splitC c s) := by
  rw [splitC_c, if_neg h]
  cases h : splitC c s with
  | nil => exact absurd h (splitC_ne c s)
  | cons a l => simp [jn]
def lns (s : Tx) : List Tx := (splitC 10 s).dropLast
def lok (s : Tx) : Bool := (splitC 10 s).getD ((splitC 10 s).length - 1) [] == []
theorem lns_len (s : Tx) : (lns s).length = (splitC 10 s).length - 1 := by unfold lns; rw [List.length_dropLast]
theorem splitC_len1 (c : UInt8) : ∀ s : Tx, (splitC c s).length ≤ s.length + 1
  | [] => Nat.le_refl _
  | a :: l => by
    have := splitC_len1 c l
    unfold splitC
    split
    · simp; omega
    · split
      · rename_i h t e; rw [e] at this; simp at this ⊢; omega
      · simp
end Go.Bee.Ea
namespace Go.Bee.C24h
open Go Go.Bee Go.Proofs Go.Bee.Ty Go.Bee.C23 Go.Bee.C23s Go.Bee.Da Go.Bee.C24 Go.Bee.C24c Go.Bee.C24d Go.Bee.C24r Go.Bee.C24s Go.Bee.C24t Go.Bee.C24e Go.Bee.C24f Go.Bee.Ea
theorem bI4 : ∀ a b c d : Int, evBuildSlice Tryz.prog 88 4 [(0, .d (.int .i64 a)), (1, .d (.int .i64 b)), (2, .d (.int .i64 c)), (3, .d (.int .i64 d))] = some (.own 3 1 [.int .i64 a, .int .i64 b, .int .i64 c, .int .i64 d]) := fun a b c d => by kernel_rfl
theorem slEv : SlT Tryz.prog 32 25 4 40 := ⟨_, _, ty32, rfl, ty25, rfl, rfl, rfl, by decide⟩
theorem bE1 : ∀ (a b : Int) (c : Tx) (d : Int), evBuildSlice Tryz.prog 32 1 [(0, .agg [.d (.int .i64 a), .d (.int .i64 b), .d (.str c), .d (.int .i64 d)])] = some (.own 25 4 [.agg [.int .i64 a, .int .i64 b, .str c, .int .i64 d]]) := fun a b c d => by kernel_rfl
theorem bE0 : evBuildSlice Tryz.prog 32 0 [] = some (.own 25 4 []) := by kernel_rfl
theorem tys : type_of% (And.intro Go.Bee.C24f.tys (And.intro bI4 (And.intro slEv.facts (And.intro bE1 bE0)))) := And.intro Go.Bee.C24f.tys (And.intro bI4 (And.intro slEv.facts (And.intro bE1 bE0)))
end Go.Bee.C24h
namespace Go.Bee.C24h
open Go Go.Bee Go.Proofs Go.Bee.Ty Go.Bee.C23 Go.Bee.C23s Go.Bee.Da Go.Bee.C24 Go.Bee.C24c Go.Bee.C24d Go.Bee.C24r Go.Bee.C24s Go.Bee.C24t Go.Bee.C24e Go.Bee.C24f Go.Bee.Ea
set_option linter.unusedVariables false
set_option maxRecDepth 20000
attribute [local irreducible] Go.Bee.bwp
theorem isNaNI_b (a : Int) : BRet Tryz.prog 183 [] [.int a] (.bool false) [] := by
  refine bof Tryz.func183 ?_
  have : (a != a) = false := bne_self_eq_false _
  refine bgo ?_
  trivial
theorem isNaNS_b (a : Tx) : BRet Tryz.prog 184 [] [.str a] (.bool false) [] := by
  refine bof Tryz.func184 ?_
  have : (a == a) = true := by simp
  refine bgo ?_
  trivial
theorem compareI_b (a b : Int) : BRet Tryz.prog 160 [] [.int a, .int b] (.int (cmpI a b)) [] := by
  have h1 := isNaNI_b a
  have h2 := isNaNI_b b
  unfold cmpI
  refine bof Tryz.func160 ?_
  by_cases h : a < b
  · rw [if_pos h]
    refine bgo ?_
    refine b_call h1 rfl rfl rfl rfl ?_
    refine bgo ?_
    refine b_call h2 rfl rfl rfl rfl ?_
    refine bgo ?_
    trivial
  · rw [if_neg h]
    by_cases hg : a > b
    · rw [if_pos hg]
      refine bgo ?_
      refine b_call h1 rfl rfl rfl rfl ?_
      refine bgo ?_
      refine b_call h2 rfl rfl rfl rfl ?_
      refine bgo ?_
      trivial
    · rw [if_neg hg]
      refine bgo ?_
      refine b_call h1 rfl rfl rfl rfl ?_
      refine bgo ?_
      refine b_call h2 rfl rfl rfl rfl ?_
      refine bgo ?_
      trivial
theorem compareS_b (a b : Tx) : BRet Tryz.prog 161 [] [.str a, .str b] (.int (cmpS a b)) [] := by
  have h1 := isNaNS_b a
  have h2 := isNaNS_b b
  have hl := lessLt a b
  unfold cmpS
  refine bof Tryz.func161 ?_
  cases h : Op.bytesLess a b
  · rw [if_neg (by decide)]
    rw [h] at hl
    cases hg : Op.bytesLess b a
    · rw [hg] at hl
      rw [if_neg (by decide)]
      have hab : a = b := by simpa using hl
      clear hl
      subst hab
      have hbb : (a == a) = true := by simp
      refine bgo ?_
      refine b_call h1 rfl rfl rfl rfl ?_
      refine bgo ?_
      refine b_call h2 rfl rfl rfl rfl ?_
      refine bgo ?_
      trivial
    · rw [hg] at hl
      rw [if_pos rfl]
      have hab : (a == b) = false := by simpa using hl
      have hab2 : ¬ a = b := by simpa using hab
      clear hl
      refine bgo ?_
      refine b_call h1 rfl rfl rfl rfl ?_
      refine bgo ?_
      refine b_call h2 rfl rfl rfl rfl ?_
      refine bgo ?_
      trivial
  · rw [if_pos rfl]
    clear hl
    refine bgo ?_
    refine b_call h1 rfl rfl rfl rfl ?_
    refine bgo ?_
    refine b_call h2 rfl rfl rfl rfl ?_
    refine bgo ?_
    trivial
theorem or_b (l : List Int) : BRet Tryz.prog 159 [] [.d (.sl 1 (l.map (.int .i64)))] (.int (orI l)) [] := by
  refine BRet.len 0 (by kernel_rfl) rfl fun hl => ?_
  simp only [List.length_map] at hl
  refine bof Tryz.func159 ?_
  generalize hr : orI l = r
  refine bgo ?_
  refine b_lp (ι := Nat × Unit) (fun i => [(3, .int 0), (6, .d (.sl 1 (l.map (.int .i64)))), (7, .int l.length), (8, .int i.1)]) (fun _ => []) (fun i => i.1 ≤ l.length ∧ orI (l.drop i.1) = r) (fun i => l.length - i.1) (0, ()) hs ⟨Nat.zero_le _, hr⟩ ?_
  clear hr
  rintro ⟨i, u⟩ ⟨hi, hd⟩ I nx
  dsimp only at hi hd ⊢
  by_cases hlt : i < l.length
  · have hx : l[i]? = some l[i] := List.getElem?_eq_getElem hlt
    rw [List.drop_eq_getElem_cons hlt, orI_c] at hd
    generalize l[i] = x at *
    by_cases h0 : x = 0
    · subst h0
      rw [if_pos rfl] at hd
      have hzz : ((0 : Int) != 0) = false := rfl
      replace hd : Go.RowKit.Hid (orI (l.drop (i + 1)) = r) := hd
      refine bgo ?_
      exact nx.go (i + 1, ()) ⟨hlt, hd.out⟩ (by dsimp only; omega) hs
    · rw [if_neg h0] at hd
      subst hd
      have hzz : (x != 0) = true := by simpa using h0
      refine bgo ?_
      trivial
  · have hi2 : i = l.length := by omega
    subst hi2
    rw [List.drop_length] at hd
    subst hd
    refine bgo ?_
    refine wk_rfl ?_
    refine bgo ?_
    rfl
theorem CompareEvents_b (a b : Ev4) : BRet Tryz.prog 120 [] [.agg [.int a.d, .int a.p, .str a.a, .int a.am], .agg [.int b.d, .int b.p, .str b.a, .int b.am]] (.int (cmpE a b)) [] := by
  have h1 := compareI_b a.d b.d
  have h2 := compareI_b a.p b.p
  have h3 := compareS_b a.a b.a
  have h4 := compareI_b a.am b.am
  have h5 := or_b [cmpI a.d b.d, cmpI a.p b.p, cmpS a.a b.a, cmpI a.am b.am]
  unfold cmpE
  simp only [List.map_cons, List.map_nil] at h5
  generalize cmpI a.d b.d = x1 at *
  generalize cmpI a.p b.p = x2 at *
  generalize cmpS a.a b.a = x3 at *
  generalize cmpI a.am b.am = x4 at *
  refine bof Tryz.func120 ?_
  refine bgo ?_
  refine b_call h1 rfl rfl rfl rfl ?_
  refine bgo ?_
  refine b_call h2 rfl rfl rfl rfl ?_
  refine bgo ?_
  refine b_call h3 rfl rfl rfl rfl ?_
  refine bgo ?_
  refine b_call h4 rfl rfl rfl rfl ?_
  refine bgo ?_
  refine b_call h5 rfl rfl rfl rfl ?_
  refine bgo ?_
  trivial
theorem l8Compare_b (a b : Ev4) : BRet Tryz.prog 116 [] [.agg [.int a.d, .int a.p, .str a.a, .int a.am], .agg [.int b.d, .int b.p, .str b.a, .int b.am]] (.int (cmpE a b)) [] := by
  obtain ⟨ad, ap, aa, am⟩ := a
  obtain ⟨bd, bp, ba, bm⟩ := b
  dsimp only
  have hS := lessLt aa ba
  obtain ⟨r, hr⟩ : ∃ r, Go.RowKit.Hid (cmpE ⟨ad, ap, aa, am⟩ ⟨bd, bp, ba, bm⟩ = r) := ⟨_, rfl⟩
  rw [hr.out]
  have he : Go.RowKit.Hid (r = if cmpI ad bd = 0 then if cmpI ap bp = 0 then if cmpS aa ba = 0 then cmpI am bm else cmpS aa ba else cmpI ap bp else cmpI ad bd) := by
    show r = _
    rw [← hr.out]
    show orI _ = _
    simp only [orI_c]
    have h0 : orI [] = 0 := rfl
    rw [h0]
    repeat' split
    all_goals first | rfl | omega
  clear hr
  refine bof Tryz.func116 ?_
  have fin : ∀ x y : Int, (x < y ∧ cmpI x y = -1) ∨ ((¬ x < y) ∧ x > y ∧ cmpI x y = 1) ∨ (¬ x < y ∧ ¬ x > y ∧ x = y ∧ cmpI x y = 0) := fun x y => by unfold cmpI; split <;> (try split) <;> omega
  by_cases h1 : ad = bd
  · subst h1
    have hc1 : (ad != ad) = false := bne_self_eq_false _
    have k1 : cmpI ad ad = 0 := cmpI_0.2 rfl
    by_cases h2 : ap = bp
    · subst h2
      have hc2 : (ap != ap) = false := bne_self_eq_false _
      have k2 : cmpI ap ap = 0 := cmpI_0.2 rfl
      cases h3 : Op.bytesLess aa ba
      · rw [h3] at hS
        cases h4 : Op.bytesLess ba aa
        · rw [h4] at hS
          have hab : aa = ba := by simpa using hS
          have k3 : cmpS aa ba = 0 := by unfold cmpS; rw [h3, h4]; rfl
          have er : r = cmpI am bm := by rw [he.out, k1, k2, k3]; rfl
          clear hS k1 k2 k3 he
          subst hab
          have hbb : (aa == aa) = true := by simp
          rcases fin am bm with ⟨h5, h6⟩ | ⟨h5, h6, h7⟩ | ⟨h5, h6, h8, h7⟩
          · rw [h6] at er
            subst er
            clear fin h6
            refine bgo ?_
            trivial
          · rw [h7] at er
            subst er
            clear fin h7
            refine bgo ?_
            trivial
          · rw [h7] at er
            subst er
            clear fin h7
            subst h8
            have g1 : ¬ am < am := by omega
            have g2 : ¬ am > am := by omega
            refine bgo ?_
            trivial
        · rw [h4] at hS
          have k3 : cmpS aa ba = 1 := by unfold cmpS; rw [h3, h4]; rfl
          have er : r = 1 := by rw [he.out, k1, k2, k3]; rfl
          have hab : (aa == ba) = false := by simpa using hS
          have hab2 : ¬ aa = ba := by simpa using hab
          clear hS k1 k2 k3 he fin
          subst er
          refine bgo ?_
          trivial
      · have k3 : cmpS aa ba = -1 := by unfold cmpS; rw [h3]; rfl
        have er : r = -1 := by rw [he.out, k1, k2, k3]; rfl
        clear hS k1 k2 k3 he fin
        subst er
        refine bgo ?_
        trivial
    · have hc2 : (ap != bp) = true := by simpa using h2
      rcases fin ap bp with ⟨h5, h6⟩ | ⟨h5, h6, h7⟩ | ⟨h5, h6, h8, h7⟩
      · have er : r = -1 := by rw [he.out, k1, h6]; rfl
        clear hS k1 he fin h6
        subst er
        refine bgo ?_
        trivial
      · have er : r = 1 := by rw [he.out, k1, h7]; rfl
        clear hS k1 he fin h7
        subst er
        refine bgo ?_
        trivial
      · exact absurd h8 h2
  · have hc1 : (ad != bd) = true := by simpa using h1
    rcases fin ad bd with ⟨h5, h6⟩ | ⟨h5, h6, h7⟩ | ⟨h5, h6, h8, h7⟩
    · have er : r = -1 := by rw [he.out, h6]; rfl
      clear hS he fin h6
      subst er
      refine bgo ?_
      trivial
    · have er : r = 1 := by rw [he.out, h7]; rfl
      clear hS he fin h7
      subst er
      refine bgo ?_
      trivial
    · exact absurd h8 h1
end Go.Bee.C24h


namespace Go.Bee
set_option linter.unusedVariables false

def dpc (x : PD) : PV := if x.isSl = true then .dp x else .d x
theorem own_mine {G : Gh} {w : World} {p : Pos} {e sz : Nat} {l : List PD} {v : Value} (hp : ∀ x ∈ flat l, x.plain = true) (h : OwnAt G w p e sz l v) : RepD (Mine G w p) w (.sl sz l) v := by
  by_cases hl : l = []
  · subst hl
    have h1 := OwnAt.data h
    generalize e1 : PD.sl sz [] = z at h1
    cases h1 <;> cases e1
    · exact .nil sz
    · rename_i g o c vs _ _ _ _ _ _ _
      exact .emp sz ⟨g, o, none⟩ c
    · rename_i ad c; exact .emp sz ad c
  · obtain ⟨g, c, rfl, hlc, ⟨vs, h1, h2, h3, h4⟩, hg, cs, e', hgc⟩ := own_at0 h hl
    have hrun := (OwnAt.data h).run
    exact .sl sz l g 0 c vs h.1.len hlc hrun.2.2.1 h2 h1 (fun i v hi => ⟨⟨(h3 i v hi).1, hg, cs, e', hgc⟩, (h3 i v hi).2⟩) (fun i x v hx hv => plain_sc (hp x (List.mem_of_getElem? hx)) (h2 x (List.mem_of_getElem? hx)) (h4 i x v hx hv))
theorem CLe.ownDp {e sz : Nat} {l : List PD} (hp : ∀ x ∈ flat l, x.plain = true) : CLe (.own e sz l) (.dp (.sl sz l)) := ⟨fun P G w p v h => ⟨own_mine hp h, Eq.refl _⟩⟩
theorem PLe.ownDp {e sz : Nat} {l : List PD} (hp : ∀ x ∈ flat l, x.plain = true) : PLe (.own e sz l) (.dp (.sl sz l)) := ⟨fun P G w loc v h => ⟨own_mine hp h, Eq.refl _⟩⟩
theorem BRet.less {P : Program} {f : Nat} {bi bo : List (List PV)} {args : List PV} {r r' : PV} (h : BRet P f bi args r bo) (hle : PLe r r') : BRet P f bi args r' bo :=
  ⟨h.1, h.2.1, fun G w vs Wr a b c d e g g2 tb => Calls.mono (h.2.2 G w vs Wr a b c d e g g2 tb) fun x w' hx => by
    obtain ⟨v, G', h1, h2, h3⟩ := hx
    exact ⟨v, G', h1, hle.t _ _ _ _ _ h2, h3⟩⟩
theorem wk_unq {P : Program} {K : St → Prop} {s : St} (ts : List (Nat × PV)) (bs : List (BN × List PV)) (hs : Has s.unq ts bs) (h : K (mk ts bs)) : wk P K s := ⟨_, Weak.trans Weak.unq (Weak.mk hs), h⟩
def PV.unbC (b : BN) (y : PD) (n : Nat) : PV → PV
  | .rsv c sz m => if c = b ∧ m = n then .d y else .rsv c sz m
  | x => x
def PV.unbV (b : BN) (y : PD) (n : Nat) : PV → PV
  | .agg l => .agg (l.map (PV.unbC b y n))
  | x => x.unbC b y n
def PV.unb (b : BN) (y : PD) (n : Nat) : PV → PV
  | .tup l => .tup (l.map (PV.unbV b y n))
  | x => x.unbV b y n
def St.unb (st : St) (b : BN) (y : PD) (n : Nat) : St := ⟨fun t => ((st.tm t).unb b y n).kill b, fun c => if c = b then none else (st.bx c).map fun cells => (cells.map (PV.unbC b y n)).map (PV.killC b)⟩
end Go.Bee


namespace Go.Bee.Ea
open Go Go.Bee Go.Proofs Go.Bee.Ty Go.Bee.C23 Go.Bee.C23s Go.Bee.Da Go.Bee.C24 Go.Bee.C24c Go.Bee.C24d Go.Bee.C24r
set_option linter.unusedVariables false
open Classical in
noncomputable def Kf1 (p : Ev4 → Bool) : List PD → Option PD := fun xs => if h : ∃ a, xs = [eP a] then some (.bool (p h.choose)) else none
open Classical in
noncomputable def Kf2 (p : Ev4 → Ev4 → Int) : List PD → Option PD := fun xs => if h : ∃ q : Ev4 × Ev4, xs = [eP q.1, eP q.2] then some (.int .i64 (p h.choose.1 h.choose.2)) else none
theorem Kf1_e (p : Ev4 → Bool) (a : Ev4) : Kf1 p [eP a] = some (.bool (p a)) := by
  have h : ∃ b, [eP a] = [eP b] := ⟨a, rfl⟩
  unfold Kf1
  rw [dif_pos h]
  have := eP_inj _ _ (List.cons.inj h.choose_spec).1
  rw [← this]
theorem Kf2_e (p : Ev4 → Ev4 → Int) (a b : Ev4) : Kf2 p [eP a, eP b] = some (.int .i64 (p a b)) := by
  have h : ∃ q : Ev4 × Ev4, [eP a, eP b] = [eP q.1, eP q.2] := ⟨(a, b), rfl⟩
  unfold Kf2
  rw [dif_pos h]
  have h1 := eP_inj _ _ (List.cons.inj h.choose_spec).1
  have h2 := eP_inj _ _ (List.cons.inj (List.cons.inj h.choose_spec).2).1
  rw [← h1, ← h2]
theorem Kf1_ok {p : Ev4 → Bool} {P : Program} {B : Bx} {f : Nat} {caps cs : List PV} (hc : capsOf B caps = some cs) (hf : isFn P f = true) (h : ∀ a, BRet P f [] (ofPD (eP a) :: cs) (.bool (p a)) []) : CloOK P B f caps (Kf1 p) := by
  have : CloOK0 P B f caps (Kf1 p) := ⟨cs, hc, hf, fun xs r hr => by
    unfold Kf1 at hr
    split at hr
    · rename_i hx
      simp only [Option.some.injEq] at hr
      subst hr
      refine ⟨rfl, ?_⟩
      have hs := hx.choose_spec
      have := h hx.choose
      generalize hx.choose = a at *
      subst hs
      exact this
    · cases hr⟩
  exact this.up
theorem Kf2_ok {p : Ev4 → Ev4 → Int} {P : Program} {B : Bx} {f : Nat} {caps cs : List PV} (hc : capsOf B caps = some cs) (hf : isFn P f = true) (h : ∀ a b, BRet P f [] (ofPD (eP a) :: ofPD (eP b) :: cs) (.int (p a b)) []) : CloOK P B f caps (Kf2 p) := by
  have : CloOK0 P B f caps (Kf2 p) := ⟨cs, hc, hf, fun xs r hr => by
    unfold Kf2 at hr
    split at hr
    · rename_i hx
      simp only [Option.some.injEq] at hr
      subst hr
      refine ⟨rfl, ?_⟩
      have hs := hx.choose_spec
      have := h hx.choose.1 hx.choose.2
      generalize hx.choose = a at *
      subst hs
      exact this
    · cases hr⟩
  exact this.up
theorem b_fnb {P : Program} {fl : AF} {K : St → Prop} {st : St} {d t : Nat} {xs : List Operand} {ts : Array TypeId} {ty : TypeId} {pos : String} {af : Array Edge} {g : Option (Nat × Bool)} {Kf : List PD → Option PD} (zs : List PD) {b : Bool}
    (hf : st.tm t = .fn Kf) (hmv : fl.mv = false) (hz : pdsOf (xs.map st.ev) = some zs) (hr : Kf zs = some (.bool b)) (k : K (st.put d (.bool b))) :
    bcallD P none fl ⟨some d, .call ⟨.value (.tmp t), xs.toArray, ts⟩, ty, pos, af, g⟩ K st := b_fn hf hmv hz hr k
theorem b_fni {P : Program} {inn : Option (List BN)} {fl : AF} {K : St → Prop} {st : St} {d t : Nat} {xs : List Operand} {ts : Array TypeId} {ty : TypeId} {pos : String} {af : Array Edge} {g : Option (Nat × Bool)} {Kf : List PD → Option PD} (zs : List PD) {n : Int}
    (hf : st.tm t = .fn Kf) (hmv : fl.mv = false) (hz : pdsOf (xs.map st.ev) = some zs) (hr : Kf zs = some (.int .i64 n)) (k : K (st.put d (.int n))) :
    bcallD P inn fl ⟨some d, .call ⟨.value (.tmp t), xs.toArray, ts⟩, ty, pos, af, g⟩ K st :=
  bcallD_of (fun B2 => .fn _ (.tmp t) xs Kf zs (.int .i64 n) ⟨⟨ts, rfl⟩, by rw [ev_at]; exact hf, by rw [ev_at]; exact hz, hr, rfl⟩) (by rw [after_pure rfl, hmv]; exact k)
theorem caps1e {fl : AF} {B : Bx} {b : BN} {cells : List PV} {ys : List PD} (hf : fl.bt = true ∨ fl.be = true) (h1 : B b = some cells) (e1 : pdL cells = some ys) :
    capsOf (vz fl B) [.ptr b 0] = some [.eptr ys] := by
  have hv : vz fl B = B := by simp [vz, hf]
  simp [hv, capsOf, capOf, h1, e1]
def anyE (p : Ev4 → Bool) (l : List Ev4) : Int := (l.findIdx? p).elim (-1) fun i => (i : Int)
def okAll (l : List Ev4) (n : Int) : Bool := l.all fun e => evOk e.d e.p e.a e.am n
theorem eS_len (l : List Ev4) : (eS l).length = l.length := by simp [eS]
theorem eS_at {l : List Ev4} {i : Nat} (h : i < l.length) : (eS l)[i]? = some (.agg [.int .i64 l[i].d, .int .i64 l[i].p, .str l[i].a, .int .i64 l[i].am]) := by
  simp [eS, eP, h]
theorem eS_app (a : List Ev4) (e : Ev4) : eS (a ++ [e]) = eS a ++ [eP e] := by simp [eS]
end Go.Bee.Ea
namespace Go.Bee.C24h
open Go Go.Bee Go.Proofs Go.Bee.Ty Go.Bee.C23 Go.Bee.C23s Go.Bee.Da Go.Bee.C24 Go.Bee.C24c Go.Bee.C24d Go.Bee.C24r Go.Bee.C24s Go.Bee.C24t Go.Bee.C24e Go.Bee.C24f Go.Bee.Ea
set_option linter.unusedVariables false
set_option maxRecDepth 20000
attribute [local irreducible] Go.Bee.bwp
theorem indexFuncEv_b (l : List Ev4) (p : Ev4 → Bool) : BRet Tryz.prog 182 [] [.d (.sl 4 (eS l)), .fn (Kf1 p)] (.int (idx p l 0)) [] := by
  refine BRet.len 0 (by kernel_rfl) rfl fun hl => ?_
  rw [eS_len] at hl
  refine bof Tryz.func182 ?_
  have hqi : ∀ i (h : i < l.length), (eS l)[i]? = some (.agg [.int .i64 l[i].d, .int .i64 l[i].p, .str l[i].a, .int .i64 l[i].am]) := fun i h => eS_at h
  have hql := eS_len l
  generalize eS l = q at *
  generalize hr : idx p l 0 = r
  refine bgo ?_
  refine b_lp (ι := Nat × Unit) (fun i => [(0, .d (.sl 4 q)), (1, .fn (Kf1 p)), (7, .int l.length), (8, .int i.1)]) (fun _ => []) (fun i => i.1 ≤ l.length ∧ idx p (l.drop i.1) i.1 = r) (fun i => l.length - i.1) (0, ()) hs ⟨Nat.zero_le _, hr⟩ ?_
  clear hr
  rintro ⟨i, u⟩ ⟨hi, hd⟩ I nx
  dsimp only at hi hd ⊢
  by_cases hlt : i < l.length
  · have hx := hqi i hlt
    have hlt2 : i < q.length := by omega
    have hib : (i : Int) + 1 ≤ 1099511627776000 := by omega
    have hk := Kf1_e p l[i]
    have hp := idx_step (p := p) hlt
    rw [hd] at hp
    generalize l[i] = x at *
    clear hd hqi
    refine bgo ?_
    refine b_fnb [eP x] rfl rfl rfl hk ?_
    cases hpx : p x
    · rw [hpx, if_neg (by decide)] at hp
      replace hp : Go.RowKit.Hid (r = idx p (l.drop (i + 1)) (i + 1)) := hp
      refine bgo ?_
      exact nx.go (i + 1, ()) ⟨hlt, hp.out.symm⟩ (by dsimp only; omega) hs
    · rw [hpx, if_pos rfl] at hp
      subst hp
      refine bgo ?_
      trivial
  · have hi2 : i = l.length := by omega
    subst hi2
    rw [List.drop_length] at hd
    have hd2 : r = -1 := hd.symm
    subst hd2
    have hlt2 : ¬ (l.length < q.length) := by omega
    clear hd
    refine bgo ?_
    refine wk_rfl ?_
    refine bgo ?_
    trivial
theorem containsFuncEv_b (l : List Ev4) (p : Ev4 → Bool) : BRet Tryz.prog 157 [] [.d (.sl 4 (eS l)), .fn (Kf1 p)] (.bool (l.any p)) [] := by
  refine bof Tryz.func157 ?_
  refine bgo ?_
  refine b_call (indexFuncEv_b l p) rfl rfl rfl rfl ?_
  refine bgo ?_
  rw [← idx_any p l 0]
theorem areEv1_b (e : Ev4) (n : Int) (h0 : 0 ≤ n) (h1 : n ≤ 1099511627776000) : BRet Tryz.prog 158 [] [.agg [.int e.d, .int e.p, .str e.a, .int e.am], .eptr [.int .i64 n]] (.bool (!evOk e.d e.p e.a e.am n)) [] := by
  refine bof Tryz.func158 ?_
  refine bgo ?_
  refine b_call (isEvent_b e.d e.p e.a e.am n h0 h1) rfl rfl rfl rfl ?_
  refine bgo ?_
  trivial
theorem areEvents_b (l : List Ev4) (n : Int) (h0 : 0 ≤ n) (h1 : n ≤ 1099511627776000) : BRet Tryz.prog 118 [] [.d (.sl 4 (eS l)), .int n] (.bool (inB n 2 4 && decide ((l.length : Int) ≤ 40) && okAll l n)) [] := by
  refine BRet.len 0 (by kernel_rfl) rfl fun hl => ?_
  rw [eS_len] at hl
  have hw := within_b n 2 4
  have hc := containsFuncEv_b l fun e => !evOk e.d e.p e.a e.am n
  have hk : okAll l n = !(l.any fun e => !evOk e.d e.p e.a e.am n) := by unfold okAll; rw [List.all_eq_not_any_not]
  rw [hk]
  have hql := eS_len l
  have hc1 := fun e => areEv1_b e n h0 h1
  generalize l.any (fun e => !evOk e.d e.p e.a e.am n) = z at *
  clear hk
  generalize eS l = q at *
  generalize hA : inB n 2 4 = A at *
  clear hA
  refine bof Tryz.func118 ?_
  cases A
  · refine bgo ?_
    refine b_call hw rfl rfl rfl rfl ?_
    refine bgo ?_
    trivial
  · by_cases hle : (l.length : Int) ≤ 40
    · rw [decide_eq_true hle]
      have hle2 : (q.length : Int) ≤ 40 := by omega
      refine bgo ?_
      refine b_call hw rfl rfl rfl rfl ?_
      refine bgo ?_
      refine b_callc2 hc rfl rfl rfl rfl (by exact Kf1_ok (caps1e (.inr rfl) rfl rfl) (by kernel_rfl) fun e => hc1 e) rfl ?_
      refine bgo ?_
      trivial
    · rw [decide_eq_false hle]
      have hle2 : ¬ (q.length : Int) ≤ 40 := by omega
      refine bgo ?_
      refine b_call hw rfl rfl rfl rfl ?_
      refine bgo ?_
      trivial
theorem isSorted_b (l : List Ev4) : BRet Tryz.prog 119 [] [.d (.sl 4 (eS l)), .fn (Kf2 cmpE)] (.bool (srtE l)) [] := by
  refine BRet.len 0 (by kernel_rfl) rfl fun hl => ?_
  rw [eS_len] at hl
  refine bof Tryz.func119 ?_
  have hqi : ∀ i (h : i < l.length), (eS l)[i]? = some (.agg [.int .i64 l[i].d, .int .i64 l[i].p, .str l[i].a, .int .i64 l[i].am]) := fun i h => eS_at h
  have hql := eS_len l
  generalize eS l = q at *
  generalize hr : srtE l = r
  refine bgo ?_
  refine b_lp (ι := Int × Unit) (fun i => [(0, .d (.sl 4 q)), (1, .fn (Kf2 cmpE)), (5, .int i.1)]) (fun _ => []) (fun i => i.1 ≤ l.length - 1 ∧ ∀ k : Nat, k < l.length → (k : Int) > i.1 → badAt l k = false) (fun i => i.1.toNat) ((l.length : Int) - 1, ()) hs ⟨by omega, fun k h1 h2 => by dsimp only at h2; omega⟩ ?_
  rintro ⟨i, u⟩ ⟨hi, hd⟩ I nx
  dsimp only at hi hd ⊢
  by_cases hg : i > 0
  · obtain ⟨m, rfl⟩ : ∃ m : Nat, i = ((m + 1 : Nat) : Int) := ⟨(i - 1).toNat, by omega⟩
    have hm1 : m + 1 < l.length := by omega
    have hx1 := hqi (m + 1) hm1
    have hx0 := hqi m (by omega)
    have hb := badAt_i hm1
    have hk := Kf2_e cmpE l[m + 1] l[m]
    have hsb := fun h => srt_bad hm1 (by rw [hb]; exact h)
    generalize l[m + 1] = x at *
    generalize l[m] = y at *
    obtain ⟨w, hw⟩ : ∃ w : Nat, w = m + 1 := ⟨_, rfl⟩
    rw [← hw] at hg hi hx1 hb hm1 hd nx ⊢
    have hwm : (w : Int) - 1 = m := by omega
    have hlt1 : w < q.length := by omega
    have hlt0 : m < q.length := by omega
    have hwb : (w : Int) ≤ 1099511627776000 := by omega
    clear hqi
    replace hw : Go.RowKit.Hid (w = m + 1) := hw
    by_cases hn : cmpE x y < 0
    · have hf := hsb (decide_eq_true hn)
      rw [hr] at hf
      subst hf
      clear hsb hb hd hr
      generalize cmpE x y = z at *
      refine bgo ?_
      refine b_fni [eP x, eP y] rfl rfl rfl hk ?_
      refine bgo ?_
      trivial
    · rw [decide_eq_false hn] at hb
      have hb2 : Go.RowKit.Hid (badAt l w = false) := by rw [hw.out]; rw [hw.out] at hb; exact hb
      have hd2 : Go.RowKit.Hid (∀ k : Nat, k < l.length → (k : Int) > (w : Int) → badAt l k = false) := hd
      clear hsb hb hd hr
      generalize cmpE x y = z at *
      refine bgo ?_
      refine b_fni [eP x, eP y] rfl rfl rfl hk ?_
      refine bgo ?_
      refine nx.go ((m : Int), ()) ⟨by dsimp only; omega, fun k h1 h2 => ?_⟩ (by dsimp only; omega) hs
      dsimp only at h2
      by_cases e : k = w
      · subst e; exact hb2.out
      · exact hd2.out k h1 (by omega)
  · have hg2 : r = true := by
      rw [← hr]
      refine srt_good fun k hk => ?_
      by_cases h0 : k = 0
      · subst h0; rfl
      · exact hd k hk (by omega)
    subst hg2
    clear hd hr
    refine bgo ?_
    refine wk_rfl ?_
    refine bgo ?_
    trivial
theorem evsOk_eq (l : List Ev4) (n : Int) : evsOk l n = ((inB n 2 4 && decide ((l.length : Int) ≤ 40) && okAll l n) && srtE l) := rfl
theorem IsValidEvents_b (l : List Ev4) (n : Int) (h0 : 0 ≤ n) (h1 : n ≤ 1099511627776000) : BRet Tryz.prog 66 [] [.d (.sl 4 (eS l)), .int n] (.bool (evsOk l n)) [] := by
  have ha := areEvents_b l n h0 h1
  have hi := isSorted_b l
  rw [evsOk_eq]
  generalize (inB n 2 4 && decide ((l.length : Int) ≤ 40) && okAll l n) = A at *
  generalize srtE l = B at *
  refine bof Tryz.func66 ?_
  cases A
  · refine bgo ?_
    refine b_call ha rfl rfl rfl rfl ?_
    refine bgo ?_
    trivial
  · refine bgo ?_
    refine b_call ha rfl rfl rfl rfl ?_
    refine bgo ?_
    refine b_callc2 hi rfl rfl rfl rfl (by exact Kf2_ok rfl (by kernel_rfl) fun a b => CompareEvents_b a b) rfl ?_
    refine bgo ?_
    trivial
end Go.Bee.C24h


namespace Go.Bee.Ea
open Go Go.Bee Go.Proofs Go.Bee.Ty Go.Bee.C23 Go.Bee.C23s Go.Bee.Da Go.Bee.C24 Go.Bee.C24c Go.Bee.C24d Go.Bee.C24r Go.Bee.C24s
set_option linter.unusedVariables false
def lnE (l : List Tx) (x : Tx) : Option Ev4 := rdE x l (iRd l (splitC 32 x))
def evA (l : List Tx) : List Tx → List Ev4 → Option (List Ev4)
  | [], acc => some acc
  | x :: r, acc => match lnE l x with
    | none => none
    | some e => evA l r (acc ++ [e])
def evF (n : Int) : Option (List Ev4) → Option (List Ev4)
  | some es => if evsOk es n = true then some es else none
  | none => none
def evsR (s : Tx) (l : List Tx) : Option (List Ev4) := if (lok s && decide ((s.length : Int) ≤ 4000) && parOk l) = true then evF l.length (evA l (lns s) []) else none
theorem evA_none {l : List Tx} {x : Tx} {r : List Tx} {acc : List Ev4} (h : lnE l x = none) : evA l (x :: r) acc = none := by rw [evA, h]
theorem evA_some {l : List Tx} {x : Tx} {r : List Tx} {acc : List Ev4} {e : Ev4} (h : lnE l x = some e) : evA l (x :: r) acc = evA l r (acc ++ [e]) := by rw [evA, h]
theorem evA_len {l : List Tx} : ∀ {r : List Tx} {acc es : List Ev4}, evA l r acc = some es → es.length = acc.length + r.length
  | [], acc, es, h => by rw [evA] at h; cases h; rfl
  | x :: r, acc, es, h => by
    cases hx : lnE l x with
    | none => rw [evA_none hx] at h; cases h
    | some e => rw [evA_some hx] at h; have := evA_len h; simp at this ⊢; omega
theorem evs_len {s : Tx} {l : List Tx} : ((evsR s l).getD []).length ≤ 4000 := by
  unfold evsR
  split
  · rename_i h
    simp only [Bool.and_eq_true, decide_eq_true_eq] at h
    cases h2 : evA l (lns s) [] with
    | none => simp [evF]
    | some es =>
      unfold evF
      by_cases h5 : evsOk es l.length = true
      · dsimp only
        rw [if_pos h5]
        have := evA_len h2
        have h3 := lns_len s
        have h4 := splitC_len1 10 s
        simp at this ⊢
        omega
      · dsimp only
        rw [if_neg h5]; simp
  · simp
theorem lns_mem {s x : Tx} (h : x ∈ lns s) : x.length ≤ s.length := splitC_memlen 10 s x (List.dropLast_subset _ h)
end Go.Bee.Ea
namespace Go.Bee.C24h
open Go Go.Bee Go.Proofs Go.Bee.Ty Go.Bee.C23 Go.Bee.C23s Go.Bee.Da Go.Bee.C24 Go.Bee.C24c Go.Bee.C24d Go.Bee.C24r Go.Bee.C24s Go.Bee.C24t Go.Bee.C24e Go.Bee.C24f Go.Bee.Ea
set_option linter.unusedVariables false
set_option maxRecDepth 20000
attribute [local irreducible] Go.Bee.bwp
theorem l8Valid_b (l : List Ev4) (n : Int) (h0 : 0 ≤ n) (h1 : n ≤ 1099511627776000) : BRet Tryz.prog 117 [] [.d (.sl 4 (eS l)), .int n] (.bool (inB n 2 4 && decide ((l.length : Int) ≤ 40) && okAll l n)) [] := by
  have hw := l1In_b n 2 4
  refine bof Tryz.func117 ?_
  have hqi : ∀ i (h : i < l.length), (eS l)[i]? = some (.agg [.int .i64 l[i].d, .int .i64 l[i].p, .str l[i].a, .int .i64 l[i].am]) := fun i h => eS_at h
  have hql := eS_len l
  generalize eS l = q at *
  generalize hr : (inB n 2 4 && decide ((l.length : Int) ≤ 40) && okAll l n) = r
  refine bgo ?_
  refine b_lp (ι := Nat × Unit) (fun i => [(0, .d (.sl 4 q)), (1, .int n), (5, .int i.1)]) (fun _ => []) (fun i => i.1 ≤ l.length ∧ i.1 ≤ 41 ∧ ∀ k, (h : k < l.length) → k < i.1 → evOk l[k].d l[k].p l[k].a l[k].am n = true) (fun i => l.length - i.1) (0, ()) hs ⟨Nat.zero_le _, by simp, fun k h1 h2 => absurd h2 (Nat.not_lt_zero _)⟩ ?_
  rintro ⟨i, u⟩ ⟨hi, hi41, hd⟩ I nx
  dsimp only at hi hi41 hd ⊢
  by_cases hlt : i < l.length
  · have hlt2 : (i : Int) < q.length := by omega
    have hlt3 : i < q.length := by omega
    by_cases h40 : (i : Int) ≤ 40
    · have hx := hqi i hlt
      have he := l8Event_b l[i].d l[i].p l[i].a l[i].am n h0 h1
      have hib : (i : Int) + 1 ≤ 1099511627776000 := by omega
      clear hqi
      cases hok : evOk l[i].d l[i].p l[i].a l[i].am n
      · have hrf : r = false := by
          rw [← hr]
          have : okAll l n = false := by
            unfold okAll
            rw [List.all_eq_false]
            exact ⟨l[i], List.getElem_mem hlt, by rw [hok]; decide⟩
          rw [this, Bool.and_false]
        subst hrf
        rw [hok] at he
        clear hd hr
        generalize l[i] = x at *
        refine bgo ?_
        refine b_call he rfl rfl rfl rfl ?_
        refine bgo ?_
        trivial
      · rw [hok] at he
        have hd2 : Go.RowKit.Hid (∀ k, (h : k < l.length) → k < i + 1 → evOk l[k].d l[k].p l[k].a l[k].am n = true) := by
          intro k h hk
          by_cases e : k = i
          · subst e; exact hok
          · exact hd k h (by omega)
        clear hd hr hok
        generalize l[i] = x at *
        refine bgo ?_
        refine b_call he rfl rfl rfl rfl ?_
        refine bgo ?_
        exact nx.go (i + 1, ()) ⟨hlt, by dsimp only; omega, hd2.out⟩ (by dsimp only; omega) hs
    · have hlen : ¬ (q.length : Int) ≤ 40 := by omega
      have hlen2 : ¬ (l.length : Int) ≤ 40 := by omega
      have hrf : r = false := by rw [← hr, decide_eq_false hlen2]; simp
      subst hrf
      clear hd hr hqi
      refine bgo ?_
      refine wk_rfl ?_
      refine bgo ?_
      trivial
  · have hi2 : i = l.length := by omega
    have hlt2 : ¬ (i : Int) < q.length := by omega
    have hall : okAll l n = true := by
      unfold okAll
      rw [List.all_eq_true]
      intro e he
      obtain ⟨k, hk, rfl⟩ := List.getElem_of_mem he
      exact hd k hk (by omega)
    rw [hall, Bool.and_true] at hr
    by_cases h40 : (l.length : Int) ≤ 40
    · rw [decide_eq_true h40, Bool.and_true] at hr
      have hlen : (q.length : Int) ≤ 40 := by omega
      rw [hr] at hw
      clear hd hqi hall hr
      subst hi2
      refine bgo ?_
      refine wk_rfl ?_
      refine bgo ?_
      refine b_call hw rfl rfl rfl rfl ?_
      refine bgo ?_
      trivial
    · have hlen : ¬ (q.length : Int) ≤ 40 := by omega
      rw [decide_eq_false h40, Bool.and_false] at hr
      subst hr
      clear hd hqi hall
      subst hi2
      refine bgo ?_
      refine wk_rfl ?_
      refine bgo ?_
      trivial
theorem l8Good_b (l : List Ev4) (n : Int) (h0 : 0 ≤ n) (h1 : n ≤ 1099511627776000) : BRet Tryz.prog 64 [] [.d (.sl 4 (eS l)), .int n] (.bool (evsOk l n)) [] := by
  have hv := l8Valid_b l n h0 h1
  rw [evsOk_eq]
  refine bof Tryz.func64 ?_
  have hqi : ∀ i (h : i < l.length), (eS l)[i]? = some (.agg [.int .i64 l[i].d, .int .i64 l[i].p, .str l[i].a, .int .i64 l[i].am]) := fun i h => eS_at h
  have hql := eS_len l
  generalize eS l = q at *
  generalize hr : ((inB n 2 4 && decide ((l.length : Int) ≤ 40) && okAll l n) && srtE l) = r
  refine bgo ?_
  refine b_lp (ι := Nat × Unit) (fun i => [(0, .d (.sl 4 q)), (1, .int n), (5, .int i.1)]) (fun _ => []) (fun i => 0 < i.1 ∧ i.1 ≤ 41 ∧ ∀ k, k < l.length → k < i.1 → badAt l k = false) (fun i => l.length - i.1) (1, ()) hs ⟨by simp, by simp, fun k h1 h2 => by (have : k = 0 := by dsimp only at h2; omega); subst this; rfl⟩ ?_
  rintro ⟨i, u⟩ ⟨hi0, hi41, hd⟩ I nx
  dsimp only at hi0 hi41 hd ⊢
  by_cases hlt : i < l.length
  · have hlt2 : (i : Int) < q.length := by omega
    have hlt3 : i < q.length := by omega
    by_cases h40 : (i : Int) ≤ 40
    · obtain ⟨m, hm⟩ : ∃ m : Nat, i = m + 1 := ⟨i - 1, by omega⟩
      have hx := hqi i hlt
      have hy := hqi m (by omega)
      have he := l8Compare_b l[m] l[i]
      have hng := cmpE_neg l[m] l[i]
      have hb : badAt l i = decide (cmpE l[i] l[m] < 0) := by subst hm; exact badAt_i hlt
      have hib : (i : Int) + 1 ≤ 1099511627776000 := by omega
      have hwm : (i : Int) - 1 = m := by omega
      have hlt0 : m < q.length := by omega
      have hsb := fun h => srt_bad (l := l) hlt (by rw [hb]; exact h)
      clear hqi
      generalize l[i] = x at *
      generalize l[m] = y at *
      replace hm : Go.RowKit.Hid (i = m + 1) := hm
      by_cases hg : cmpE y x > 0
      · have hrf : r = false := by rw [← hr, hsb (decide_eq_true (by omega))]; simp
        subst hrf
        clear hd hr hsb hb hng
        generalize cmpE y x = z at *
        refine bgo ?_
        refine b_call he rfl rfl rfl rfl ?_
        refine bgo ?_
        trivial
      · rw [decide_eq_false (by omega)] at hb
        have hd2 : Go.RowKit.Hid (∀ k, k < l.length → k < i + 1 → badAt l k = false) := by
          intro k h hk
          by_cases e : k = i
          · subst e; exact hb
          · exact hd k h (by omega)
        clear hd hr hsb hb hng
        generalize cmpE y x = z at *
        refine bgo ?_
        refine b_call he rfl rfl rfl rfl ?_
        refine bgo ?_
        exact nx.go (i + 1, ()) ⟨by dsimp only; omega, by dsimp only; omega, hd2.out⟩ (by dsimp only; omega) hs
    · have hlen2 : ¬ (l.length : Int) ≤ 40 := by omega
      have hA : (inB n 2 4 && decide ((l.length : Int) ≤ 40) && okAll l n) = false := by rw [decide_eq_false hlen2]; simp
      rw [hA, Bool.false_and] at hr
      rw [hA] at hv
      subst hr
      clear hd hqi hA
      refine bgo ?_
      refine wk_rfl ?_
      refine bgo ?_
      refine b_call hv rfl rfl rfl rfl ?_
      refine bgo ?_
      trivial
  · have hlt2 : ¬ (i : Int) < q.length := by omega
    have hsrt : srtE l = true := srt_good fun k hk => hd k hk (by omega)
    rw [hsrt, Bool.and_true] at hr
    rw [hr] at hv
    clear hd hqi hsrt hr
    refine bgo ?_
    refine wk_rfl ?_
    refine bgo ?_
    refine b_call hv rfl rfl rfl rfl ?_
    refine bgo ?_
    trivial
theorem linesOf_b (s : Tx) (hl : s.length ≤ 1048576) : BRet Tryz.prog 65 [] [.str s] (.tup [.d (.sl 1 ((lns s).map .str)), .bool (lok s)]) [] := by
  by_cases he : s = []
  · subst he
    have e1 : lns [] = [] := rfl
    have e2 : lok [] = true := rfl
    rw [e1, e2]
    refine BRet.less (r := .tup [.nilS, .bool true]) ?_ ?_
    · refine bof Tryz.func65 ?_
      refine bgo ?_
      trivial
    · exact ⟨fun P G w loc v h => by
        obtain ⟨vs, rfl, h1, h2⟩ := h
        refine ⟨vs, rfl, by simpa using h1, fun i y u hy hu => ?_⟩
        match i, hy with
        | 0, hy =>
          simp at hy; subst hy
          exact PLe.nil.t P G w loc u (h2 0 .nilS u rfl hu)
        | i + 1, hy => exact h2 (i + 1) y u (by simpa using hy) hu⟩
  · have hsp := (split_b s 10 hl).less PLe.own
    have hln := splitC_len1 10 s
    have hne := splitC_ne 10 s
    have e1 : (lns s).map PD.str = ((splitC 10 s).map PD.str).take ((splitC 10 s).length - 1) := by unfold lns; rw [List.dropLast_eq_take, List.map_take]
    have e2 : lok s = ((splitC 10 s).getD ((splitC 10 s).length - 1) [] == []) := rfl
    rw [e1, e2]
    clear e1 e2
    generalize splitC 10 s = L at *
    have hL : 0 < L.length := by
      cases L with
      | nil => exact absurd rfl hne
      | cons a b => simp
    obtain ⟨m, hm⟩ : ∃ m, L.length = m + 1 := ⟨L.length - 1, by omega⟩
    have hx : L[m]? = some (L.getD m []) := by
      have : m < L.length := by omega
      simp [this]
    have hmm : L.length - 1 = m := by omega
    rw [hmm]
    have hml : (L.map PD.str).length = m + 1 := by rw [List.length_map, hm]
    have hxx : (L.map PD.str)[m]? = some (.str (L.getD m [])) := by rw [List.getElem?_map, hx]; rfl
    generalize L.getD m [] = y at *
    generalize L.map PD.str = q at *
    have h1 : (q.length : Int) - 1 = m := by omega
    have h2 : m ≤ q.length := by omega
    have h3 : m < q.length := by omega
    have hmb : (m : Int) ≤ 1099511627776000 := by omega
    clear hm hmm hL hne hx hml
    have hse : (s == []) = false := by simpa using he
    refine bof Tryz.func65 ?_
    refine bgo ?_
    refine b_call hsp rfl rfl rfl rfl ?_
    refine bgo ?_
    trivial
end Go.Bee.C24h


namespace Go.Bee.C24h
open Go Go.Bee Go.Proofs Go.Bee.Ty Go.Bee.C23 Go.Bee.C23s Go.Bee.Da Go.Bee.C24 Go.Bee.C24c Go.Bee.C24d Go.Bee.C24r Go.Bee.C24s Go.Bee.C24t Go.Bee.C24e Go.Bee.C24f Go.Bee.Ea
set_option linter.unusedVariables false
set_option maxRecDepth 20000
attribute [local irreducible] Go.Bee.bwp
theorem PLe.tupNil {e sz : Nat} {x : PV} : PLe (.tup [.nilS, x]) (.tup [.own e sz [], x]) := ⟨fun P G w loc v h => by
  obtain ⟨vs, rfl, h1, h2⟩ := h
  refine ⟨vs, rfl, by simpa using h1, fun i y u hy hu => ?_⟩
  match i, hy with
  | 0, hy =>
    simp at hy; subst hy
    have := h2 0 .nilS u rfl hu
    exact PLe.nilO.t P G w loc u this
  | i + 1, hy => exact h2 (i + 1) y u (by simpa using hy) hu⟩
theorem piece_step {s : Tx} {st i : Nat} (h : i < s.length) (hs : st ≤ i) : (s.take (i + 1)).drop st = (s.take i).drop st ++ [s[i]] := by
  rw [List.take_succ_eq_append_getElem h, List.drop_append_of_le_length (by rw [List.length_take]; omega)]
theorem l1Split_b (s : Tx) (c : UInt8) (hl : s.length ≤ 1048576) : BRet Tryz.prog 63 [] [.str s, .d (.int .u8 c.toNat)] (.own 9 1 ((splitC c s).map .str)) [] := by
  refine bof Tryz.func63 ?_
  generalize hr : splitC c s = r
  refine bgo ?_
  refine b_lp (ι := Nat × Nat × List Tx) (fun i => [(0, .str s), (1, .d (.int .u8 c.toNat)), (5, .own 9 1 (i.2.2.map .str)), (6, .int i.2.1), (7, .int i.1)]) (fun _ => [])
    (fun i => i.1 ≤ s.length ∧ i.2.1 ≤ i.1 ∧ i.2.2.length ≤ i.1 ∧ i.2.2 ++ jn ((s.take i.1).drop i.2.1) (splitC c (s.drop i.1)) = r) (fun i => s.length - i.1) (0, 0, []) hs ⟨Nat.zero_le _, Nat.le_refl _, Nat.le_refl _, by dsimp only; rw [List.drop_zero, ← hr]; exact jn_0 c s⟩ ?_
  clear hr
  rintro ⟨i, st, acc⟩ ⟨hi, hst, hacc, hd⟩ I nx
  dsimp only at hi hst hacc hd ⊢
  by_cases hlt : i < s.length
  · have hx : s[i]? = some s[i] := List.getElem?_eq_getElem hlt
    have hib : (i : Int) + 1 ≤ 1099511627776 := by omega
    have hil : (i : Int) < s.length := by omega
    rw [List.drop_eq_getElem_cons hlt] at hd
    have hps := piece_step hlt hst
    generalize s[i] = a at *
    by_cases hac : a = c
    · subst hac
      rw [jn_c] at hd
      have hd2 : (acc ++ [(s.take i).drop st]) ++ jn ((s.take (i + 1)).drop (i + 1)) (splitC a (s.drop (i + 1))) = r := by
        have : (s.take (i + 1)).drop (i + 1) = [] := by rw [List.drop_eq_nil_of_le]; simp; omega
        rw [this, jn_0, ← hd]; simp
      replace hd2 : Go.RowKit.Hid ((acc ++ [(s.take i).drop st]) ++ jn ((s.take (i + 1)).drop (i + 1)) (splitC a (s.drop (i + 1))) = r) := hd2
      have hcc : ((a.toNat : Int) == a.toNat) = true := by simp
      have hm : (acc ++ [(s.take i).drop st]).map PD.str = acc.map PD.str ++ [.str ((s.take i).drop st)] := by simp
      have hle : (st : Int) ≤ i := by omega
      have hle2 : (i : Int) ≤ s.length := by omega
      have hml : (acc.map PD.str).length ≤ i := by rw [List.length_map]; exact hacc
      have hmm : ((acc.map PD.str).length + 1) * (16 + 1) ≤ 140737488355328 := by omega
      clear hd hps
      generalize acc.map PD.str = q at *
      refine bgo ?_
      refine nx.go (i + 1, i + 1, acc ++ [(s.take i).drop st]) ⟨hlt, Nat.le_refl _, by simp; omega, hd2.out⟩ (by dsimp only; omega) ?_
      dsimp only
      rw [hm]
      exact hs
    · rw [jn_n hac, ← hps] at hd
      replace hd : Go.RowKit.Hid (acc ++ jn ((s.take (i + 1)).drop st) (splitC c (s.drop (i + 1))) = r) := hd
      have hcc : ((a.toNat : Int) == c.toNat) = false := by
        rw [beq_eq_false_iff_ne]
        intro e
        exact hac (UInt8.toNat_inj.1 (by omega))
      clear hps
      refine bgo ?_
      exact nx.go (i + 1, st, acc) ⟨hlt, by dsimp only; omega, by dsimp only; omega, hd.out⟩ (by dsimp only; omega) hs
  · have hi2 : i = s.length := by omega
    subst hi2
    rw [List.drop_length, List.take_length] at hd
    have hd2 : acc ++ [s.drop st] = r := by
      have : jn (s.drop st) (splitC c []) = [s.drop st] := by simp [splitC, jn]
      rw [this] at hd; exact hd
    subst hd2
    have hlt2 : ¬ (s.length : Int) < s.length := by omega
    have hle : (st : Int) ≤ s.length := by omega
    have hm : (acc ++ [s.drop st]).map PD.str = acc.map PD.str ++ [.str (s.drop st)] := by simp
    have hml : (acc.map PD.str).length ≤ s.length := by rw [List.length_map]; exact hacc
    have hmm : ((acc.map PD.str).length + 1) * (16 + 1) ≤ 140737488355328 := by omega
    rw [hm]
    clear hd hm
    generalize acc.map PD.str = q at *
    refine bgo ?_
    refine wk_rfl ?_
    refine bgo ?_
    trivial
theorem ParseEvents_b (s : Tx) (l : List Tx) (hl : s.length ≤ 1048576) : BRet Tryz.prog 17 [] [.str s, .d (.sl 1 (l.map .str))] (.tup [.own 25 4 (eS ((evsR s l).getD [])), .bool (evsR s l).isSome]) [] := by
  have hln := linesOf_b s hl
  have hpa := areParties_b l
  have hlm := fun x (h : x ∈ lns s) => lns_mem h
  have hnl : (s.length : Int) ≤ 4000 → (lns s).length ≤ 4000 := fun h => by have := lns_len s; have := splitC_len1 10 s; omega
  have hR : evsR s l = if (lok s && decide ((s.length : Int) ≤ 4000) && parOk l) = true then evF l.length (evA l (lns s) []) else none := rfl
  generalize lns s = L at *
  cases hk : lok s && decide ((s.length : Int) ≤ 4000) && parOk l
  · rw [hk, if_neg (by decide)] at hR
    rw [hR]
    refine BRet.less ?_ PLe.tupNil
    refine bof Tryz.func17 ?_
    have hnl2 : ¬ (s.length : Int) > 4000 ↔ (s.length : Int) ≤ 4000 := by omega
    cases h1 : lok s
    · rw [h1] at hln
      clear hnl hlm hR hk hnl2
      refine bgo ?_
      refine b_call hln rfl rfl rfl rfl ?_
      refine bgo ?_
      trivial
    rw [h1] at hln hk
    by_cases h2 : (s.length : Int) > 4000
    · clear hnl hlm hR hk hnl2
      refine bgo ?_
      refine b_call hln rfl rfl rfl rfl ?_
      refine bgo ?_
      trivial
    rw [decide_eq_true (hnl2.1 h2)] at hk
    have hp : parOk l = false := by simpa using hk
    rw [hp] at hpa
    clear hnl hlm hR hk hnl2
    refine bgo ?_
    refine b_call hln rfl rfl rfl rfl ?_
    refine bgo ?_
    refine b_call hpa rfl rfl rfl rfl ?_
    refine bgo ?_
    trivial
  · rw [hk, if_pos rfl] at hR
    simp only [Bool.and_eq_true, decide_eq_true_eq] at hk
    obtain ⟨⟨h1, h2⟩, h3⟩ := hk
    rw [h1] at hln
    rw [h3] at hpa
    have hll : L.length ≤ 4000 := hnl h2
    have hpl : l.length ≤ 4 := by
      unfold parOk inB at h3
      simp only [Bool.and_eq_true, decide_eq_true_eq] at h3
      omega
    have hlm2 : ∀ i (h : i < L.length), (L[i]).length ≤ 1048576 := fun i h => Nat.le_trans (hlm _ (List.getElem_mem h)) hl
    have hng : ¬ (s.length : Int) > 4000 := by omega
    have hqi : ∀ i (h : i < L.length), (L.map PD.str)[i]? = some (.str L[i]) := fun i h => by simp [h]
    have hql : (L.map PD.str).length = L.length := by simp
    generalize hq : L.map PD.str = q at *
    clear hlm hnl h1 h2 h3 hq
    obtain ⟨o, ho⟩ : ∃ o, Go.RowKit.Hid (evsR s l = o) := ⟨_, rfl⟩
    rw [ho.out]
    have hoe : Go.RowKit.Hid (evF l.length (evA l L []) = o) := by show _ = o; rw [← ho.out]; exact hR.symm
    clear hR ho
    have hfin : ∀ es : List Ev4, es.length ≤ 4000 → Go.RowKit.Hid (evF l.length (some es) = o) → BRet Tryz.prog 66 [] [.d (.sl 4 (eS es)), .int l.length] (.bool (evsOk es l.length)) [] ∧ o = if evsOk es l.length = true then some es else none := fun es h1 h2 => ⟨IsValidEvents_b es l.length (by omega) (by omega), h2.out.symm⟩
    have hcases : o = none ∨ ∃ es, o = some es := by cases o <;> simp
    have hless : o = none → PLe (.tup [.nilS, .bool false]) (.tup [.own 25 4 (eS (o.getD [])), .bool o.isSome]) := fun h => by subst h; exact PLe.tupNil
    rcases hcases with rfl | ⟨fes, rfl⟩
    · refine BRet.less (r := .tup [.nilS, .bool false]) ?_ (hless rfl)
      clear hless
      refine bof Tryz.func17 ?_
      refine bgo ?_
      refine b_call hln rfl rfl rfl rfl ?_
      refine bgo ?_
      refine b_call hpa rfl rfl rfl rfl ?_
      refine bgo ?_
      refine b_lp (ι := Nat × List Ev4) (fun i => [(1, .d (.sl 1 (l.map .str))), (8, .own 25 4 (eS i.2)), (31, .d (.sl 1 q)), (32, .int L.length), (33, .int i.1)]) (fun _ => [])
        (fun i => i.1 ≤ L.length ∧ i.2.length = i.1 ∧ Go.RowKit.Hid (evF l.length (evA l (L.drop i.1) i.2) = none)) (fun i => L.length - i.1) (0, []) hs ⟨Nat.zero_le _, rfl, hoe⟩ ?_
      clear hoe
      rintro ⟨i, acc⟩ ⟨hi, hac, hd⟩ I nx
      dsimp only at hi hac hd ⊢
      by_cases hlt : i < L.length
      · have hx := hqi i hlt
        have hpe := ParseEvent_b L[i] l (hlm2 i hlt)
        have hlr : rdE L[i] l (iRd l (splitC 32 L[i])) = lnE l L[i] := rfl
        rw [hlr] at hpe
        have hib : (i : Int) + 1 ≤ 1099511627776000 := by omega
        rw [List.drop_eq_getElem_cons hlt] at hd
        have hlt2 : (i : Int) < L.length := by omega
        clear hqi hlm2 hlr
        cases hlo : lnE l L[i] with
        | none =>
          rw [hlo] at hpe
          clear hd hfin
          generalize L[i] = x at *
          refine bgo ?_
          refine b_call hpe rfl rfl rfl rfl ?_
          refine bgo ?_
          trivial
        | some e =>
          rw [evA_some hlo] at hd
          rw [hlo] at hpe
          have he0 : ev0 (some e) = e := rfl
          rw [he0] at hpe
          have hm : eS (acc ++ [e]) = eS acc ++ [.agg [.int .i64 e.d, .int .i64 e.p, .str e.a, .int .i64 e.am]] := eS_app acc e
          have hml : (eS acc).length ≤ 4000 := by rw [eS_len]; omega
          have hmm : ((eS acc).length + 1) * (40 + 4) ≤ 140737488355328 := by omega
          have hal : (acc ++ [e]).length = i + 1 := by simp; omega
          generalize hm2 : eS (acc ++ [e]) = q2 at *
          generalize hm3 : eS acc = q1 at *
          generalize L[i] = x at *
          clear hlo he0
          replace hm : Go.RowKit.Hid (q2 = q1 ++ [.agg [.int .i64 e.d, .int .i64 e.p, .str e.a, .int .i64 e.am]]) := hm
          refine bgo ?_
          refine b_call hpe rfl rfl rfl rfl ?_
          refine bgo ?_
          refine nx.go (i + 1, acc ++ [e]) ⟨hlt, hal, hd⟩ (by dsimp only; omega) ?_
          dsimp only
          rw [hm2, hm.out]
          exact hs
      · have hi2 : i = L.length := by omega
        rw [List.drop_eq_nil_of_le (by omega), evA] at hd
        obtain ⟨hv, hres⟩ := hfin acc (by omega) hd
        have hlt2 : ¬ (i : Int) < L.length := by omega
        clear hqi hlm2 hfin hd
        have hil : (i : Int) = L.length := by omega
        cases hok : evsOk acc l.length
        · rw [hok] at hv
          clear hres hok hac
          generalize eS acc = q1 at *
          subst hi2
          refine bgo ?_
          refine wk_rfl ?_
          refine bgo ?_
          refine b_call hv rfl rfl rfl rfl ?_
          refine bgo ?_
          trivial
        · rw [hok, if_pos rfl] at hres; cases hres
    · clear hless
      show BRet Tryz.prog 17 [] [.str s, .d (.sl 1 (l.map .str))] (.tup [.own 25 4 (eS fes), .bool true]) []
      refine bof Tryz.func17 ?_
      refine bgo ?_
      refine b_call hln rfl rfl rfl rfl ?_
      refine bgo ?_
      refine b_call hpa rfl rfl rfl rfl ?_
      refine bgo ?_
      refine b_lp (ι := Nat × List Ev4) (fun i => [(1, .d (.sl 1 (l.map .str))), (8, .own 25 4 (eS i.2)), (31, .d (.sl 1 q)), (32, .int L.length), (33, .int i.1)]) (fun _ => [])
        (fun i => i.1 ≤ L.length ∧ i.2.length = i.1 ∧ Go.RowKit.Hid (evF l.length (evA l (L.drop i.1) i.2) = some fes)) (fun i => L.length - i.1) (0, []) hs ⟨Nat.zero_le _, rfl, hoe⟩ ?_
      clear hoe
      rintro ⟨i, acc⟩ ⟨hi, hac, hd⟩ I nx
      dsimp only at hi hac hd ⊢
      by_cases hlt : i < L.length
      · have hx := hqi i hlt
        have hpe := ParseEvent_b L[i] l (hlm2 i hlt)
        have hlr : rdE L[i] l (iRd l (splitC 32 L[i])) = lnE l L[i] := rfl
        rw [hlr] at hpe
        have hib : (i : Int) + 1 ≤ 1099511627776000 := by omega
        rw [List.drop_eq_getElem_cons hlt] at hd
        have hlt2 : (i : Int) < L.length := by omega
        clear hqi hlm2 hlr
        cases hlo : lnE l L[i] with
        | none =>
          rw [hlo] at hpe
          rw [evA_none hlo] at hd
          exact absurd hd.out (by simp [evF])
        | some e =>
          rw [evA_some hlo] at hd
          rw [hlo] at hpe
          have he0 : ev0 (some e) = e := rfl
          rw [he0] at hpe
          have hm : eS (acc ++ [e]) = eS acc ++ [.agg [.int .i64 e.d, .int .i64 e.p, .str e.a, .int .i64 e.am]] := eS_app acc e
          have hml : (eS acc).length ≤ 4000 := by rw [eS_len]; omega
          have hmm : ((eS acc).length + 1) * (40 + 4) ≤ 140737488355328 := by omega
          have hal : (acc ++ [e]).length = i + 1 := by simp; omega
          generalize hm2 : eS (acc ++ [e]) = q2 at *
          generalize hm3 : eS acc = q1 at *
          generalize L[i] = x at *
          clear hlo he0
          replace hm : Go.RowKit.Hid (q2 = q1 ++ [.agg [.int .i64 e.d, .int .i64 e.p, .str e.a, .int .i64 e.am]]) := hm
          refine bgo ?_
          refine b_call hpe rfl rfl rfl rfl ?_
          refine bgo ?_
          refine nx.go (i + 1, acc ++ [e]) ⟨hlt, hal, hd⟩ (by dsimp only; omega) ?_
          dsimp only
          rw [hm2, hm.out]
          exact hs
      · have hi2 : i = L.length := by omega
        rw [List.drop_eq_nil_of_le (by omega), evA] at hd
        obtain ⟨hv, hres⟩ := hfin acc (by omega) hd
        have hlt2 : ¬ (i : Int) < L.length := by omega
        clear hqi hlm2 hfin hd
        have hil : (i : Int) = L.length := by omega
        cases hok : evsOk acc l.length
        · rw [hok, if_neg (by decide)] at hres; cases hres
        · rw [hok, if_pos rfl] at hres
          obtain rfl : fes = acc := by simpa using hres
          rw [hok] at hv
          clear hres hok hac
          generalize eS fes = q1 at *
          subst hi2
          refine bgo ?_
          refine wk_rfl ?_
          refine bgo ?_
          refine b_call hv rfl rfl rfl rfl ?_
          refine bgo ?_
          trivial
end Go.Bee.C24h


namespace Go.Bee.C24h
open Go Go.Bee Go.Proofs Go.Bee.Ty Go.Bee.C23 Go.Bee.C23s Go.Bee.Da Go.Bee.C24 Go.Bee.C24c Go.Bee.C24d Go.Bee.C24r Go.Bee.C24s Go.Bee.C24t Go.Bee.C24e Go.Bee.C24f Go.Bee.Ea
set_option linter.unusedVariables false
set_option maxRecDepth 20000
attribute [local irreducible] Go.Bee.bwp
theorem specParseEvents_b (s : Tx) (l : List Tx) (hl : s.length ≤ 1048576) : BRet Tryz.prog 16 [] [.str s, .d (.sl 1 (l.map .str))] (.tup [.own 25 4 (eS ((evsR s l).getD [])), .bool (evsR s l).isSome]) [] := by
  have hsp := (l1Split_b s 10 hl).less PLe.own
  have hpa := l7Parties_b l
  have hlm := fun x (h : x ∈ lns s) => lns_mem h
  have hnl : (s.length : Int) ≤ 4000 → (lns s).length ≤ 4000 := fun h => by have := lns_len s; have := splitC_len1 10 s; omega
  have hR : evsR s l = if (lok s && decide ((s.length : Int) ≤ 4000) && parOk l) = true then evF l.length (evA l (lns s) []) else none := rfl
  have hlo : lok s = ((splitC 10 s).getD ((splitC 10 s).length - 1) [] == []) := rfl
  have hne := splitC_ne 10 s
  have hln : lns s = (splitC 10 s).dropLast := rfl
  have hsl1 := splitC_len1 10 s
  generalize lns s = L at *
  generalize splitC 10 s = M at *
  have hM : 0 < M.length := by
    cases M with
    | nil => exact absurd rfl hne
    | cons a b => simp
  obtain ⟨m, hm⟩ : ∃ m, M.length = m + 1 := ⟨M.length - 1, by omega⟩
  have hmm : M.length - 1 = m := by omega
  rw [hmm] at hlo
  have hLl : L.length = m := by rw [hln, List.length_dropLast]; omega
  have hx : (M.map PD.str)[m]? = some (.str (M.getD m [])) := by
    have : m < M.length := by omega
    simp [this]
  have hqi : ∀ i (h : i < L.length), (M.map PD.str)[i]? = some (.str L[i]) := fun i h => by
    subst hln
    have : i < M.length := by omega
    simp [this]
  have hql : (M.map PD.str).length = m + 1 := by rw [List.length_map, hm]
  generalize M.getD m [] = y at *
  generalize M.map PD.str = q at *
  clear hmm hM hne hln
  have hq1 : (q.length : Int) - 1 = m := by omega
  have hq2 : m < q.length := by omega
  have hmb : (m : Int) ≤ 1099511627776000 := by omega
  clear hm hsl1
  replace hql : Go.RowKit.Hid (q.length = m + 1) := hql
  subst hLl
  cases hk : lok s && decide ((s.length : Int) ≤ 4000) && parOk l
  · rw [hk, if_neg (by decide)] at hR
    rw [hR]
    show BRet Tryz.prog 16 [] [.str s, .d (.sl 1 (l.map .str))] (.tup [.own 25 4 [], .bool false]) []
    refine bof Tryz.func16 ?_
    have hnl2 : ¬ (s.length : Int) > 4000 ↔ (s.length : Int) ≤ 4000 := by omega
    cases hp : parOk l
    · rw [hp] at hpa
      clear hnl hlm hR hk hnl2 hqi hlo
      refine bgo ?_
      refine b_call hsp rfl rfl rfl rfl ?_
      refine bgo ?_
      refine b_call hpa rfl rfl rfl rfl ?_
      refine bgo ?_
      trivial
    rw [hp] at hpa hk
    by_cases h2 : (s.length : Int) > 4000
    · clear hnl hlm hR hk hnl2 hqi hlo
      refine bgo ?_
      refine b_call hsp rfl rfl rfl rfl ?_
      refine bgo ?_
      refine b_call hpa rfl rfl rfl rfl ?_
      refine bgo ?_
      trivial
    rw [decide_eq_true (hnl2.1 h2), Bool.and_true, Bool.and_true, hlo] at hk
    have hy : ¬ y = [] := by simpa using hk
    clear hnl hlm hR hnl2 hqi hlo
    refine bgo ?_
    refine b_call hsp rfl rfl rfl rfl ?_
    refine bgo ?_
    refine b_call hpa rfl rfl rfl rfl ?_
    refine bgo ?_
    trivial
  · rw [hk, if_pos rfl] at hR
    simp only [Bool.and_eq_true, decide_eq_true_eq] at hk
    obtain ⟨⟨h1, h2⟩, h3⟩ := hk
    rw [h3] at hpa
    rw [hlo] at h1
    have hy : y = [] := by simpa using h1
    subst hy
    have hee : (([] : Tx) == []) = true := rfl
    have hll : L.length ≤ 4000 := hnl h2
    have hpl : l.length ≤ 4 := by
      unfold parOk inB at h3
      simp only [Bool.and_eq_true, decide_eq_true_eq] at h3
      omega
    have hlm2 : ∀ i (h : i < L.length), (L[i]).length ≤ 1048576 := fun i h => Nat.le_trans (hlm _ (List.getElem_mem h)) hl
    have hng : ¬ (s.length : Int) > 4000 := by omega
    clear hlm hnl h1 h2 hlo
    obtain ⟨o, ho⟩ : ∃ o, Go.RowKit.Hid (evsR s l = o) := ⟨_, rfl⟩
    rw [ho.out]
    have hoe : Go.RowKit.Hid (evF l.length (evA l L []) = o) := by show _ = o; rw [← ho.out]; exact hR.symm
    clear hR ho
    have hrd : ∀ x : Tx, finE txE x l (sRd x l) = lnE l x := fun x => by
      have := rd_agree x l
      unfold rdE at this
      rw [if_pos h3, if_pos h3] at this
      rw [this]
      unfold lnE rdE
      rw [if_pos h3]
    have hrb := fun x (h : x.length ≤ 1048576) => l7ReadEvent_b x l h h3
    clear h3
    have hfin : ∀ es : List Ev4, es.length ≤ 4000 → Go.RowKit.Hid (evF l.length (some es) = o) → BRet Tryz.prog 64 [] [.d (.sl 4 (eS es)), .int l.length] (.bool (evsOk es l.length)) [] ∧ o = if evsOk es l.length = true then some es else none := fun es h1 h2 => ⟨l8Good_b es l.length (by omega) (by omega), h2.out.symm⟩
    have hcases : o = none ∨ ∃ es, o = some es := by cases o <;> simp
    rcases hcases with rfl | ⟨fes, rfl⟩
    · show BRet Tryz.prog 16 [] [.str s, .d (.sl 1 (l.map .str))] (.tup [.own 25 4 [], .bool false]) []
      refine bof Tryz.func16 ?_
      refine bgo ?_
      refine b_call hsp rfl rfl rfl rfl ?_
      refine bgo ?_
      refine b_call hpa rfl rfl rfl rfl ?_
      refine bgo ?_
      refine b_lp (ι := Nat × List Ev4) (fun i => [(1, .d (.sl 1 (l.map .str))), (6, .own 25 4 (eS i.2)), (7, .d (.sl 1 q)), (8, .int i.1)]) (fun _ => [])
        (fun i => i.1 ≤ L.length ∧ i.2.length = i.1 ∧ Go.RowKit.Hid (evF l.length (evA l (L.drop i.1) i.2) = none)) (fun i => L.length - i.1) (0, []) hs ⟨Nat.zero_le _, rfl, hoe⟩ ?_
      clear hoe
      rintro ⟨i, acc⟩ ⟨hi, hac, hd⟩ I nx
      dsimp only at hi hac hd ⊢
      by_cases hlt : i < L.length
      · have hx := hqi i hlt
        have hpe := hrb L[i] (hlm2 i hlt)
        rw [hrd] at hpe
        have hltq : i < q.length := by omega
        have hltm : (i : Int) < L.length := by omega
        have hib : (i : Int) + 1 ≤ 1099511627776000 := by omega
        rw [List.drop_eq_getElem_cons hlt] at hd
        have hlt2 : (i : Int) < L.length := by omega
        clear hqi hlm2 hrd hrb
        cases hlo : lnE l L[i] with
        | none =>
          rw [hlo] at hpe
          clear hd hfin
          generalize L[i] = x at *
          refine bgo ?_
          refine b_call hpe rfl rfl rfl rfl ?_
          refine bgo ?_
          trivial
        | some e =>
          rw [evA_some hlo] at hd
          rw [hlo] at hpe
          have he0 : ev0 (some e) = e := rfl
          rw [he0] at hpe
          have hm : eS (acc ++ [e]) = eS acc ++ [.agg [.int .i64 e.d, .int .i64 e.p, .str e.a, .int .i64 e.am]] := eS_app acc e
          have hml : (eS acc).length ≤ 4000 := by rw [eS_len]; omega
          have hmm : ((eS acc).length + 1) * (40 + 4) ≤ 140737488355328 := by omega
          have hal : (acc ++ [e]).length = i + 1 := by simp; omega
          generalize hm2 : eS (acc ++ [e]) = q2 at *
          generalize hm3 : eS acc = q1 at *
          generalize L[i] = x at *
          clear hlo he0
          replace hm : Go.RowKit.Hid (q2 = q1 ++ [.agg [.int .i64 e.d, .int .i64 e.p, .str e.a, .int .i64 e.am]]) := hm
          refine bgo ?_
          refine b_call hpe rfl rfl rfl rfl ?_
          refine bgo ?_
          refine nx.go (i + 1, acc ++ [e]) ⟨hlt, hal, hd⟩ (by dsimp only; omega) ?_
          dsimp only
          rw [hm2, hm.out]
          exact hs
      · have hi2 : i = L.length := by omega
        rw [List.drop_eq_nil_of_le (by omega), evA] at hd
        obtain ⟨hv, hres⟩ := hfin acc (by omega) hd
        have hlt2 : ¬ (i : Int) < L.length := by omega
        clear hqi hlm2 hfin hd hrd hrb
        have hil : (i : Int) = L.length := by omega
        cases hok : evsOk acc l.length
        · rw [hok] at hv
          clear hres hok hac
          generalize eS acc = q1 at *
          subst hi2
          refine bgo ?_
          refine wk_rfl ?_
          refine bgo ?_
          refine b_call hv rfl rfl rfl rfl ?_
          refine bgo ?_
          trivial
        · rw [hok, if_pos rfl] at hres; cases hres
    · show BRet Tryz.prog 16 [] [.str s, .d (.sl 1 (l.map .str))] (.tup [.own 25 4 (eS fes), .bool true]) []
      refine bof Tryz.func16 ?_
      refine bgo ?_
      refine b_call hsp rfl rfl rfl rfl ?_
      refine bgo ?_
      refine b_call hpa rfl rfl rfl rfl ?_
      refine bgo ?_
      refine b_lp (ι := Nat × List Ev4) (fun i => [(1, .d (.sl 1 (l.map .str))), (6, .own 25 4 (eS i.2)), (7, .d (.sl 1 q)), (8, .int i.1)]) (fun _ => [])
        (fun i => i.1 ≤ L.length ∧ i.2.length = i.1 ∧ Go.RowKit.Hid (evF l.length (evA l (L.drop i.1) i.2) = some fes)) (fun i => L.length - i.1) (0, []) hs ⟨Nat.zero_le _, rfl, hoe⟩ ?_
      clear hoe
      rintro ⟨i, acc⟩ ⟨hi, hac, hd⟩ I nx
      dsimp only at hi hac hd ⊢
      by_cases hlt : i < L.length
      · have hx := hqi i hlt
        have hpe := hrb L[i] (hlm2 i hlt)
        rw [hrd] at hpe
        have hltq : i < q.length := by omega
        have hltm : (i : Int) < L.length := by omega
        have hib : (i : Int) + 1 ≤ 1099511627776000 := by omega
        rw [List.drop_eq_getElem_cons hlt] at hd
        have hlt2 : (i : Int) < L.length := by omega
        clear hqi hlm2 hrd hrb
        cases hlo : lnE l L[i] with
        | none =>
          rw [hlo] at hpe
          rw [evA_none hlo] at hd
          exact absurd hd.out (by simp [evF])
        | some e =>
          rw [evA_some hlo] at hd
          rw [hlo] at hpe
          have he0 : ev0 (some e) = e := rfl
          rw [he0] at hpe
          have hm : eS (acc ++ [e]) = eS acc ++ [.agg [.int .i64 e.d, .int .i64 e.p, .str e.a, .int .i64 e.am]] := eS_app acc e
          have hml : (eS acc).length ≤ 4000 := by rw [eS_len]; omega
          have hmm : ((eS acc).length + 1) * (40 + 4) ≤ 140737488355328 := by omega
          have hal : (acc ++ [e]).length = i + 1 := by simp; omega
          generalize hm2 : eS (acc ++ [e]) = q2 at *
          generalize hm3 : eS acc = q1 at *
          generalize L[i] = x at *
          clear hlo he0
          replace hm : Go.RowKit.Hid (q2 = q1 ++ [.agg [.int .i64 e.d, .int .i64 e.p, .str e.a, .int .i64 e.am]]) := hm
          refine bgo ?_
          refine b_call hpe rfl rfl rfl rfl ?_
          refine bgo ?_
          refine nx.go (i + 1, acc ++ [e]) ⟨hlt, hal, hd⟩ (by dsimp only; omega) ?_
          dsimp only
          rw [hm2, hm.out]
          exact hs
      · have hi2 : i = L.length := by omega
        rw [List.drop_eq_nil_of_le (by omega), evA] at hd
        obtain ⟨hv, hres⟩ := hfin acc (by omega) hd
        have hlt2 : ¬ (i : Int) < L.length := by omega
        clear hqi hlm2 hfin hd hrd hrb
        have hil : (i : Int) = L.length := by omega
        cases hok : evsOk acc l.length
        · rw [hok, if_neg (by decide)] at hres; cases hres
        · rw [hok, if_pos rfl] at hres
          obtain rfl : fes = acc := by simpa using hres
          rw [hok] at hv
          clear hres hok hac
          generalize eS fes = q1 at *
          subst hi2
          refine bgo ?_
          refine wk_rfl ?_
          refine bgo ?_
          refine b_call hv rfl rfl rfl rfl ?_
          refine bgo ?_
          trivial
end Go.Bee.C24h


namespace Go.Bee.Mt
open Go Go.Bee Go.Proofs Go.Bee.Ty
theorem sU1 : ∀ (x : Int), evBuildSlice Tryz.prog 37 1 [(0, .d (.int .u8 x))] = some (.own 5 1 [.int .u8 x]) := fun x => by kernel_rfl
theorem cvI : ∀ (n : Int), evConv Tryz.prog 5 (.d (.int .i64 n)) = some (.d (.int .u8 (IntKind.u8.wrap n))) := fun n => by kernel_rfl
def opt (b : Bool) (x : PV) : Option PV := if b = true then some x else none
theorem cvS0 : ∀ (x : Int), evConv2 Tryz.prog 37 9 (.own 5 1 [.int .u8 x]) = (u8s [.int .u8 x]).bind fun bs => some (.d (.str bs)) := fun x => by kernel_rfl
theorem cvS (x : Int) (h : 0 ≤ x) (h2 : x < 256) : evConv2 Tryz.prog 37 9 (.own 5 1 [.int .u8 x]) = some (.d (.str [UInt8.ofNat x.toNat])) := by
  rw [cvS0]
  unfold u8s
  rw [if_pos ⟨h, h2⟩]; rfl
theorem tys : type_of% (And.intro Go.Bee.C24h.tys (And.intro sU1 cvI)) := And.intro Go.Bee.C24h.tys (And.intro sU1 cvI)
end Go.Bee.Mt
namespace Go.Bee.Mt
open Go Go.Bee Go.Proofs Go.Bee.Ty Go.Bee.C23 Go.Bee.C23s Go.Bee.Da Go.Bee.C24 Go.Bee.C24c Go.Bee.C24d Go.Bee.C24r Go.Bee.Ea
set_option linter.unusedVariables false
set_option maxRecDepth 20000
attribute [local irreducible] Go.Bee.bwp
def digs : Nat → Nat → List UInt8 → List UInt8
  | 0, _, acc => acc
  | f + 1, n, acc => if 0 < n then digs f (n / 10) (UInt8.ofNat (48 + ((n % 10 : Nat) : Int)).toNat :: acc) else acc
def mkT (k : Int) : List UInt8 := if k ≤ 0 then [109, 48] else 109 :: digs k.toNat k.toNat []
theorem markText_b (k : Int) (hk : k ≤ 1099511627776) : BRet Tryz.prog 67 [] [.int k] (.str (mkT k)) [] := by
  refine bof Tryz.func67 ?_
  by_cases h0 : k ≤ 0
  · have e : mkT k = [109, 48] := if_pos h0
    rw [e]
    refine bgo ?_
    trivial
  · have e : mkT k = 109 :: digs k.toNat k.toNat [] := if_neg h0
    rw [e]
    clear e
    obtain ⟨n, rfl⟩ : ∃ n : Nat, k = n := ⟨k.toNat, by omega⟩
    rw [show ((n : Int)).toNat = n from rfl]
    generalize hr : digs n n [] = res
    refine bgo ?_
    refine b_lp (ι := Nat × Nat × List UInt8) (fun i => [(0, .int i.2.1), (3, .str i.2.2)]) (fun _ => []) (fun i => i.2.1 ≤ i.1 ∧ digs i.1 i.2.1 i.2.2 = res ∧ i.2.2.length + i.2.1 ≤ n) (fun i => i.2.1) (n, n, []) hs ⟨Nat.le_refl _, hr, by simp⟩ ?_
    clear hr
    rintro ⟨f, m, acc⟩ ⟨hf, hd, hl⟩ I nx
    dsimp only at hf hd hl ⊢
    by_cases hm : 0 < m
    · have hgt : (m : Int) > 0 := by omega
      obtain ⟨f, rfl⟩ : ∃ f', f = f' + 1 := ⟨f - 1, by omega⟩
      rw [show digs (f + 1) m acc = digs f (m / 10) (UInt8.ofNat (48 + ((m % 10 : Nat) : Int)).toNat :: acc) from if_pos hm] at hd
      have hq : (m : Int).tdiv 10 = ((m / 10 : Nat) : Int) := by rw [Int.tdiv_eq_ediv_of_nonneg (by omega)]; omega
      have ht : (m : Int).tmod 10 = ((m % 10 : Nat) : Int) := by rw [Int.tmod_eq_emod_of_nonneg (by omega)]; omega
      have hw : IntKind.u8.wrap (48 + ((m % 10 : Nat) : Int)) = 48 + ((m % 10 : Nat) : Int) := by
        exact IntWalk.u8_in _ ⟨by omega, by omega⟩
      have hc := cvS (48 + ((m % 10 : Nat) : Int)) (by omega) (by omega)
      have h10 : ¬ ((10 : Int) = 0) := by decide
      have h7 : m / 10 < m := by omega
      have h8 : acc.length + 1 + m / 10 ≤ n := by omega
      have h9 : m / 10 ≤ f := by omega
      have h11 : 1 + acc.length ≤ 140737488355328 := by omega
      refine bgo ?_
      exact nx.go (f, m / 10, UInt8.ofNat (48 + ((m % 10 : Nat) : Int)).toNat :: acc) ⟨h9, hd, by simp; omega⟩ h7 hs
    · have hm0 : m = 0 := by omega
      subst hm0
      have hd2 : digs f 0 acc = acc := by cases f <;> rfl
      rw [hd2] at hd
      subst hd
      have h11 : 1 + acc.length ≤ 140737488355328 := by omega
      refine bgo ?_
      refine wk_rfl ?_
      refine bgo ?_
      trivial
def row (l : List PD) : List PV := (flat l).map PV.d
theorem put_set {α : Type} (X : List α) (o : Nat) (v : α) (h : o < X.length) : X.take o ++ [v] ++ X.drop (o + 1) = X.set o v := by
  rw [List.set_eq_take_append_cons_drop, if_pos h]; simp
theorem row_app (a b : List PD) : row (a ++ b) = row a ++ row b := by unfold row flat; rw [List.flatMap_append, List.map_append]
theorem row_len {sz : Nat} {l : List PD} (h : ∀ x ∈ l, x.cells.length = sz) : (row l).length = l.length * sz := by unfold row; rw [List.length_map, flat_length h]
theorem row_gives (l : List PD) (h : True) : (row l).all PV.gives1 = true := by
  rw [List.all_eq_true]
  intro x hx
  obtain ⟨y, -, rfl⟩ := List.mem_map.1 hx
  rfl
theorem row_ok (l : List PD) (L : List BN) : (row l).all (okC L) = true := by
  rw [List.all_eq_true]
  intro x hx
  obtain ⟨y, -, rfl⟩ := List.mem_map.1 hx
  rfl
theorem unq_row (l : List PD) : (row l).map PV.unqC = row l := by
  unfold row
  rw [List.map_map]; rfl
theorem row_pass (l : List PD) : (row l).all PV.pass1 = true := by
  rw [List.all_eq_true]
  intro x hx
  obtain ⟨y, -, rfl⟩ := List.mem_map.1 hx
  rfl

theorem bofM (ms : List Nat) {f : Nat} {fn : Func} {c : Code} {rs : List ResultVar} {args : List PV} {r : PV} (hf : Tryz.prog.funcs[f]? = some fn) (h : bwp Tryz.prog (Hm ms) c (endK Tryz.prog rs r []) (St.init args [])) (hb : fn.body = some c := by exact rfl) (hrs : fn.results = rs.toArray := by exact rfl)
    (hn : (fn.name != "runtime.NumGoroutine") = true := by kernel_rfl) (hd : cOk Tryz.prog (Hm ms) fn.ntmps c = true := by kernel_rfl) (ha : args.length ≤ fn.ntmps := by exact Nat.le_of_ble_eq_true rfl) : BRet Tryz.prog f [] args r [] :=
  BRet.of_body (Hm ms) mixed hf hb hn hd hrs rfl ha h
theorem lendD {B : Bx} {x : PD} : LendV B (.d x) (.d x) := .one _ _ (.d _)
theorem lendQ {B : Bx} {x : PD} : LendV B (.q x) (.d x) := .one _ _ (.q _)
theorem lendO {B : Bx} {e sz : Nat} {l : List PD} : LendV B (.own e sz l) (.d (.sl sz l)) := .one _ _ (.own _ _ _)
theorem takeB {x : Bool} : TakeT (.d (.bool x)) (.d (.bool x)) := .one _ _ (.one _ _ (.d _ rfl))
theorem takeI {x : Int} : TakeT (.d (.int .i64 x)) (.d (.int .i64 x)) := .one _ _ (.one _ _ (.d _ rfl))
theorem takeQ {x : PD} : TakeT (.dp x) (.q x) := .one _ _ (.one _ _ (.dp _))
theorem take0 {e sz : Nat} {x : Bool} : TakeT (.tup [.own e sz [], .d (.bool x)]) (.tup [.d (.sl sz []), .d (.bool x)]) := .tup _ _ (.cons (.one _ _ (.own0 _ _)) (.cons (.one _ _ (.d _ rfl)) .nil))
theorem lendR {B : Bx} {b : BN} {sz n : Nat} {l : List PD} (hb : B b = some (row l)) (hl : l.length = n) (hu : ∀ x ∈ l, x.cells.length = sz) : LendV B (.rsv b sz n) (.d (.sl sz l)) := .one _ _ (.rsv b sz n l [] (by rw [List.append_nil]; exact hb) hl hu)
theorem markStringS_z (l : List Tx) (k : Int) (h0 : 0 ≤ k) (hk : k + l.length ≤ 1099511627776) : BRet Tryz.prog 19 [] [.zs (.sl 1 (l.map .str)), .int k] (.int (k + l.length)) [] := by
  refine bof Tryz.func19 ?_
  have hlen : (l.length : Int) ≤ 1099511627776 := by omega
  generalize hr : k + l.length = r at *
  refine bgo ?_
  refine b_lp (ι := Nat × Int) (fun i => [(0, .zs (.sl 1 (l.map .str))), (1, .int i.2), (5, .int i.1)]) (fun _ => []) (fun i => i.1 ≤ l.length ∧ 0 ≤ i.2 ∧ i.2 + (l.length - i.1 : Nat) = r) (fun i => l.length - i.1) (0, k) hs ⟨Nat.zero_le _, h0, by simpa using hr⟩ ?_
  clear hr
  rintro ⟨i, j⟩ ⟨hi, hj0, hj⟩ I nx
  dsimp only at hi hj0 hj ⊢
  by_cases hlt : i < l.length
  · have hx : l[i]? = some l[i] := List.getElem?_eq_getElem hlt
    have hm := markText_b j (by omega)
    have hj2 : j + 1 + ((l.length - (i + 1) : Nat) : Int) = r := by omega
    have hjb : j + 1 ≤ 1099511627776 := by omega
    have hib : (i : Int) + 1 ≤ 1099511627776 := by omega
    clear hj
    refine bgo ?_
    refine b_call hm rfl rfl rfl rfl ?_
    refine bgo ?_
    exact nx.go (i + 1, j + 1) ⟨hlt, by dsimp only; omega, hj2⟩ (by dsimp only; omega) hs
  · have hi2 : i = l.length := by omega
    subst hi2
    have hj2 : j = r := by omega
    subst hj2
    refine bgo ?_
    refine wk_rfl ?_
    refine bgo ?_
    trivial
theorem eS_one (l : List Ev4) : ∀ x ∈ eS l, x.cells.length = 4 := fun x hx => by obtain ⟨t, _, rfl⟩ := List.mem_map.1 hx; rfl
theorem eS_plain (l : List Ev4) : ∀ x ∈ flat (eS l), x.plain = true := by
  intro x hx
  obtain ⟨y, hy, hxy⟩ := List.mem_flatMap.1 hx
  obtain ⟨t, _, rfl⟩ := List.mem_map.1 hy
  simp only [eP, PD.cells, List.mem_cons, List.not_mem_nil, or_false] at hxy
  rcases hxy with rfl | rfl | rfl | rfl <;> rfl
theorem txs_plain (l : List Tx) : ∀ x ∈ flat (l.map PD.str), x.plain = true := by
  intro x hx
  obtain ⟨y, hy, hxy⟩ := List.mem_flatMap.1 hx
  obtain ⟨t, _, rfl⟩ := List.mem_map.1 hy
  simp only [PD.cells, List.mem_singleton] at hxy
  subst hxy; rfl
theorem eS_apps (a b : List Ev4) : eS (a ++ b) = eS a ++ eS b := List.map_append
def mkE (n : Nat) (k : Int) : List Ev4 := (List.range n).map fun (i : Nat) => (⟨k + 4 * (i : Int), k + 4 * (i : Int) + 1, mkT (k + 4 * (i : Int) + 2), k + 4 * (i : Int) + 3⟩ : Ev4)
theorem row_set4 {a b : List Ev4} {i : Nat} {v : Ev4} (hv : a[i]? = some v) (hb : i < b.length) :
    ((((row (eS (a.take i ++ b.drop i))).set (i * 4) (.d (.int .i64 v.d))).set (i * 4 + 1) (.d (.int .i64 v.p))).set (i * 4 + 2) (.d (.str v.a))).set (i * 4 + 3) (.d (.int .i64 v.am)) = row (eS (a.take (i + 1) ++ b.drop (i + 1))) := by
  obtain ⟨ha, rfl⟩ := List.getElem?_eq_some_iff.1 hv
  have h1 : (row (eS (a.take i))).length = i * 4 := by rw [row_len (eS_one _), eS_len, List.length_take, Nat.min_eq_left (by omega)]
  rw [List.drop_eq_getElem_cons hb, List.take_succ_eq_append_getElem ha, show b[i] :: b.drop (i + 1) = [b[i]] ++ b.drop (i + 1) from rfl]
  simp only [eS_apps, row_app]
  have key : ∀ (X Y : List PV) (j : Nat) (v : PV), X.length = i * 4 → (X ++ Y).set (i * 4 + j) v = X ++ Y.set j v := fun X Y j v hX => by
    rw [List.set_append_right _ _ (by omega), hX, show i * 4 + j - i * 4 = j by omega]
  have k0 : (row (eS (a.take i)) ++ (row (eS [b[i]]) ++ row (eS (b.drop (i + 1))))).set (i * 4) (.d (.int .i64 a[i].d)) = row (eS (a.take i)) ++ (row (eS [b[i]]) ++ row (eS (b.drop (i + 1)))).set 0 (.d (.int .i64 a[i].d)) := key _ _ 0 _ h1
  rw [k0, key _ _ 1 _ h1, key _ _ 2 _ h1, key _ _ 3 _ h1, List.append_assoc]
  rfl
theorem markEventS_r (l : List Ev4) (k : Int) (h0 : 0 ≤ k) (hk : k + 4 * l.length ≤ 1099511627776) : BRet Tryz.prog 20 [row (eS l)] [.rsv (.a 0) 4 l.length, .int k] (.int (k + 4 * l.length)) [row (eS (mkE l.length k))] := by
  refine bofp Tryz.func20 ?_
  have hml : (mkE l.length k).length = l.length := by simp [mkE]
  have hmi : ∀ i, i < l.length → (mkE l.length k)[i]? = some (⟨k + 4 * (i : Int), k + 4 * (i : Int) + 1, mkT (k + 4 * (i : Int) + 2), k + 4 * (i : Int) + 3⟩ : Ev4) := fun i h => by simp [mkE, h]
  generalize mkE l.length k = m at *
  have hm0 : row (eS (m.take 0 ++ l.drop 0)) = row (eS l) := by simp
  have hm1 : row (eS (m.take l.length ++ l.drop l.length)) = row (eS m) := by rw [List.drop_length, List.append_nil, ← hml, List.take_length]
  refine bgo ?_
  refine b_lp (ι := Nat × Int) (fun i => [(0, .rsv (.a 0) 4 l.length), (1, .int i.2), (5, .int i.1)]) (fun i => [(.a 0, row (eS (m.take i.1 ++ l.drop i.1)))]) (fun i => i.1 ≤ l.length ∧ i.2 = k + 4 * i.1) (fun i => l.length - i.1) (0, k)
    ⟨hsT, ⟨_, rfl, HasC.of hm0.symm (row_ok _ _)⟩, trivial⟩ ⟨Nat.zero_le _, by simp⟩ ?_
  rintro ⟨i, j⟩ ⟨hi, hj⟩ I nx
  dsimp only at hi hj ⊢
  by_cases hlt : i < l.length
  · have hlm : (row (eS (m.take i ++ l.drop i))).length = l.length * 4 := by rw [row_len (eS_one _), eS_len]; simp; omega
    have hst := row_set4 (a := m) (b := l) (i := i) (hmi i hlt) hlt
    rw [← hj] at hst
    have e1 : j + 1 + 1 = j + 2 := by omega
    have e2 : j + 2 + 1 = j + 3 := by omega
    have e3 : j + 3 + 1 = j + 4 := by omega
    have hib : (i : Int) + 1 ≤ 1099511627776 := by omega
    have hkb : j + 4 ≤ 1099511627776 := by omega
    have hj0 : 0 ≤ j := by omega
    have hj2 : k + 4 * ((i + 1 : Nat) : Int) = j + 4 := by omega
    have hmt := markText_b (j + 2) (by omega)
    have hX4 : i * 4 + 4 ≤ l.length * 4 := by omega
    clear hj
    generalize hX : row (eS (m.take i ++ l.drop i)) = X at *
    refine bgo ?_
    refine ⟨by omega, ?_, ?_⟩
    · have p1 := put_set X (i * 4) (PV.int j) (by omega)
      show i * 4 + 1 + 1 ≤ (List.take (i * 4) X ++ [PV.int j] ++ List.drop (i * 4 + 1) X).length
      rw [p1, List.length_set]; omega
    refine b_call hmt rfl rfl rfl rfl ?_
    refine bgo ?_
    refine ⟨?_, ?_, nx.go (i + 1, j + 4) ⟨hlt, hj2.symm⟩ (by dsimp only; omega) ⟨⟨⟨PLe.rfl, rfl⟩, ⟨PLe.rfl, rfl⟩, ⟨PLe.rfl, rfl⟩, trivial⟩, ⟨_, rfl, HasC.of ?_ (row_ok _ _)⟩, trivial⟩⟩
    · simp only [Nat.add_zero]
      rw [put_set X (i * 4) _ (by omega), put_set _ (i * 4 + 1) _ (by rw [List.length_set]; omega), List.length_set, List.length_set]; omega
    · simp only [Nat.add_zero]
      rw [put_set X (i * 4) _ (by omega), put_set _ (i * 4 + 1) _ (by rw [List.length_set]; omega), put_set _ (i * 4 + 2) _ (by rw [List.length_set, List.length_set]; omega), List.length_set, List.length_set, List.length_set]; omega
    · simp only [Nat.add_zero]
      rw [put_set X (i * 4) _ (by omega), put_set _ (i * 4 + 1) _ (by rw [List.length_set]; omega), put_set _ (i * 4 + 2) _ (by rw [List.length_set, List.length_set]; omega), put_set _ (i * 4 + 3) _ (by rw [List.length_set, List.length_set, List.length_set]; omega)]
      exact hst
  · have hi2 : i = l.length := by omega
    subst hi2
    subst hj
    refine bgo ?_
    refine wk_mk [(1, .int (k + 4 * l.length))] [(.a 0, row (eS m))] ⟨hsT, ⟨_, rfl, HasC.of (by first | rfl | exact hm1) (row_ok _ _)⟩, trivial⟩ ?_
    refine bgo ?_
    exact ret_1p rfl rfl rfl (fun k => rfl) (row_gives _ trivial)
theorem heldEventS_b (n : Nat) (k : Int) (h0 : 0 ≤ k) (hk : k + 4 * n ≤ 1099511627776) : BRet Tryz.prog 21 [] [.d (.sl 4 (eS (mkE n k))), .int k] (.int (k + 4 * n)) [] := by
  refine bof Tryz.func21 ?_
  have hml : (mkE n k).length = n := by simp [mkE]
  have hmi : ∀ i, i < n → (mkE n k)[i]? = some (⟨k + 4 * (i : Int), k + 4 * (i : Int) + 1, mkT (k + 4 * (i : Int) + 2), k + 4 * (i : Int) + 3⟩ : Ev4) := fun i h => by simp [mkE, h]
  generalize mkE n k = m at *
  have hll : (eS m).length = n := by rw [eS_len, hml]
  have hli : ∀ i, i < n → (eS m)[i]? = some (.agg [.int .i64 (k + 4 * (i : Int)), .int .i64 (k + 4 * (i : Int) + 1), .str (mkT (k + 4 * (i : Int) + 2)), .int .i64 (k + 4 * (i : Int) + 3)]) := fun i h => by
    have h2 : i < m.length := by omega
    have := hmi i h
    rw [List.getElem?_eq_getElem h2] at this
    rw [eS_at h2, Option.some.inj this]
  generalize eS m = q at *
  refine bgo ?_
  refine b_lp (ι := Nat × Int) (fun i => [(0, .d (.sl 4 q)), (1, .int i.2), (5, .int i.1)]) (fun _ => []) (fun i => i.1 ≤ n ∧ i.2 = k + 4 * i.1) (fun i => n - i.1) (0, k) hs ⟨Nat.zero_le _, by simp⟩ ?_
  rintro ⟨i, j⟩ ⟨hi, hj⟩ I nx
  dsimp only at hi hj ⊢
  by_cases hlt : i < n
  · have hx := hli i hlt
    rw [← hj] at hx
    have hib : (i : Int) + 1 ≤ 1099511627776 := by omega
    have hkb : j + 4 ≤ 1099511627776 := by omega
    have hj0 : 0 ≤ j := by omega
    have e1 : j + 1 + 1 = j + 2 := by omega
    have e2 : j + 2 + 1 = j + 3 := by omega
    have e3 : j + 3 + 1 = j + 4 := by omega
    have hj2 : k + 4 * ((i + 1 : Nat) : Int) = j + 4 := by omega
    have hlt2 : i < q.length := by omega
    have hmt := markText_b (j + 2) (by omega)
    have n0 : (j != j) = false := bne_self_eq_false _
    have n1 : ((j + 1) != (j + 1)) = false := bne_self_eq_false _
    have n3 : ((j + 3) != (j + 3)) = false := bne_self_eq_false _
    clear hj hml hmi hli
    refine bgo ?_
    refine b_call hmt rfl rfl rfl rfl ?_
    refine bgo ?_
    exact nx.go (i + 1, j + 4) ⟨hlt, hj2.symm⟩ (by dsimp only; omega) hs
  · have hi2 : i = n := by omega
    subst hi2
    subst hj
    have hlt2 : ¬ i < q.length := by omega
    refine bgo ?_
    refine wk_rfl ?_
    refine bgo ?_
    trivial
theorem eqEventS_s (l : List Ev4) : BRet Tryz.prog 18 [] [.d (.sl 4 (eS l)), .d (.sl 4 (eS l))] (.bool true) [] := by
  refine BRet.len 0 (by kernel_rfl) rfl fun hl => ?_
  refine bof Tryz.func18 ?_
  have hll := eS_len l
  rw [eS_len] at hl
  have hli : ∀ i (h : i < l.length), (eS l)[i]? = some (.agg [.int .i64 l[i].d, .int .i64 l[i].p, .str l[i].a, .int .i64 l[i].am]) := fun i h => eS_at h
  generalize eS l = q at *
  refine bgo ?_
  refine b_lp (ι := Nat × Unit) (fun i => [(0, .d (.sl 4 q)), (1, .d (.sl 4 q)), (5, .int i.1)]) (fun _ => []) (fun i => i.1 ≤ l.length) (fun i => l.length - i.1) (0, ()) hs (Nat.zero_le _) ?_
  rintro ⟨i, u⟩ hi I nx
  dsimp only at hi ⊢
  by_cases hlt : i < l.length
  · have hx := hli i hlt
    have he := Go.Bee.C24t.eqEvent_s l[i].d l[i].p l[i].a l[i].am
    generalize l[i] = x at *
    have hib : (i : Int) + 1 ≤ 1099511627776000 := by omega
    have hlt2 : (i : Int) < q.length := by omega
    have hlt3 : i < q.length := by omega
    clear hli
    refine bgo ?_
    refine b_call he rfl rfl rfl rfl ?_
    refine bgo ?_
    exact nx.go (i + 1, ()) hlt (by dsimp only; omega) hs
  · have hlt2 : ¬ (i : Int) < q.length := by omega
    refine bgo ?_
    refine wk_rfl ?_
    refine bgo ?_
    trivial
end Go.Bee.Mt

