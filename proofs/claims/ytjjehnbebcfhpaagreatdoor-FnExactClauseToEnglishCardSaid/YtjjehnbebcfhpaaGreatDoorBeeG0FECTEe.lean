/-
The logic and the walks, part 5. No condition.
-/
import Derived.Test.YtjjehnbebcfhpaaGreatDoorBeeG0FECTEc
import Derived.Test.YtjjehnbebcfhpaaGreatDoorBeeG0FECTEd
import Derived.Shelf.Sort.Plain
import Derived.Sort.EncStr
import Derived.Test.YtjjehnbebcfhpaaGreatDoorProg
import Derived.Shelf.Strings.Count
import Derived.Shelf.Strings.Search3
import Derived.Test.YtjjehnbebcfhpaaGreatDoorBeeG0FECTEa
import Derived.Shelf.Strconv.Itoa3
import Derived.Lib.ItoaLen
import Derived.ChangeArms
import Derived.SizedLaws
import Derived.Deep.Slices
import Derived.ChangeOld
import Derived.Below
import Derived.Carry
import Derived.ProofKit
/- Sums of sizes, as the laws reckon them. -/
namespace Go.Bee.Ty
open Go Go.Bee Go.Proofs
set_option linter.unusedVariables false
theorem mixed : Tryz.prog.follows .mixedOrders = true := by kernel_rfl

/-- What is left after an item; below nought: too large. -/
def szF {α : Type} (f : α → Int → Int) : List α → Int → Int
  | [], x => x
  | a :: l, x => if f a x < 0 then -1 else szF f l (f a x)
def szL {α : Type} (f : α → Int → Int) (l : List α) (x : Int) : Int := if x - l.length < 0 then -1 else szF f l (x - l.length)
def Nice {α : Type} (f : α → Int → Int) : Prop := ∀ a x, 0 ≤ x → f a x = -1 ∨ (0 ≤ f a x ∧ f a x ≤ x)
theorem szF_nice {α : Type} {f : α → Int → Int} (h : Nice f) : ∀ (l : List α) (x : Int), 0 ≤ x → szF f l x = -1 ∨ (0 ≤ szF f l x ∧ szF f l x ≤ x)
  | [], x, hx => .inr ⟨hx, Int.le_refl _⟩
  | a :: l, x, hx => by
    unfold szF
    split
    · exact .inl rfl
    · rename_i hn
      rcases h a x hx with e | ⟨e1, e2⟩
      · omega
      · rcases szF_nice h l (f a x) e1 with e | ⟨e3, e4⟩
        · exact .inl e
        · exact .inr ⟨e3, by omega⟩
theorem szL_nice {α : Type} {f : α → Int → Int} (h : Nice f) : Nice (szL f) := fun l x hx => by
  unfold szL
  split
  · exact .inl rfl
  · rcases szF_nice h l (x - l.length) (by omega) with e | ⟨e1, e2⟩
    · exact .inl e
    · exact .inr ⟨e1, by omega⟩
theorem szL_len {α : Type} {f : α → Int → Int} (h : Nice f) (l : List α) (x : Int) (hx : 0 ≤ x) (hn : 0 ≤ szL f l x) : (l.length : Int) ≤ x := by
  unfold szL at hn
  split at hn <;> omega
theorem szF_step {α : Type} {f : α → Int → Int} {l : List α} {k : Nat} (hk : k < l.length) (x : Int) : szF f (l.drop k) x = if f l[k] x < 0 then -1 else szF f (l.drop (k + 1)) (f l[k] x) := by
  rw [List.drop_eq_getElem_cons hk]
  rfl
theorem bof {f : Nat} {fn : Func} {c : Code} {rs : List ResultVar} {args : List PV} {r : PV} (hf : Tryz.prog.funcs[f]? = some fn) (h : bwp Tryz.prog (fun _ => []) c (endK Tryz.prog rs r []) (St.init args [])) (hb : fn.body = some c := by exact rfl) (hrs : fn.results = rs.toArray := by exact rfl)
    (hn : (fn.name != "runtime.NumGoroutine") = true := by kernel_rfl) (hd : cOk Tryz.prog (fun _ => []) fn.ntmps c = true := by kernel_rfl) (ha : args.length ≤ fn.ntmps := by exact Nat.le_of_ble_eq_true rfl) : BRet Tryz.prog f [] args r [] :=
  BRet.of_body (fun _ => []) mixed hf hb hn hd hrs rfl ha h

/-! A slice that is made and filled. -/
theorem flat_length {sz : Nat} : ∀ {l : List PD}, (∀ x ∈ l, x.cells.length = sz) → (flat l).length = l.length * sz
  | [], _ => by simp [flat]
  | a :: l, h => by
    have := flat_length (sz := sz) (l := l) (fun x hx => h x (List.mem_cons_of_mem _ hx))
    simp only [flat, List.flatMap_cons, List.length_append, List.length_cons] at this ⊢
    rw [this, h a (by simp), Nat.add_mul]; omega
def filling (l : List PD) (zero : List PV) (n k : Nat) : List PV := (flat (l.take k)).map PV.d ++ (List.replicate (n - k) zero).flatten
theorem filling_0 (l : List PD) (zero : List PV) (n : Nat) : filling l zero n 0 = (List.replicate n zero).flatten := by simp [filling, flat]
theorem filling_n (l : List PD) (zero : List PV) : filling l zero l.length l.length = (flat l).map PV.d := by simp [filling]
theorem filling_len {l : List PD} {zero : List PV} {sz n k : Nat} (hz : zero.length = sz) (hc : ∀ x ∈ l, x.cells.length = sz) (hl : l.length = n) (hk : k ≤ n) : (filling l zero n k).length = n * sz := by
  have h1 := flat_length (sz := sz) (l := l.take k) (fun x hx => hc x (List.mem_of_mem_take hx))
  simp only [filling, List.length_append, List.length_map, h1, List.length_take, List.length_flatten, List.map_replicate, hz, List.sum_replicate_nat]
  rw [Nat.min_eq_left (by omega), ← Nat.add_mul]
  congr 1; omega
theorem filling_step {l : List PD} {zero : List PV} {sz n k : Nat} (hz : zero.length = sz) (hc : ∀ x ∈ l, x.cells.length = sz) (hl : l.length = n) (hk : k < l.length) :
    (filling l zero n k).take (k * sz) ++ (l[k].cells.map PV.d) ++ (filling l zero n k).drop (k * sz + sz) = filling l zero n (k + 1) := by
  have h1 := flat_length (sz := sz) (l := l.take k) (fun x hx => hc x (List.mem_of_mem_take hx))
  rw [List.length_take, Nat.min_eq_left (by omega)] at h1
  have e : n - k = (n - (k + 1)) + 1 := by omega
  have hlen : ((flat (l.take k)).map PV.d).length = k * sz := by rw [List.length_map]; exact h1
  unfold filling
  rw [List.take_left' hlen, e, List.replicate_succ, List.flatten_cons, ← List.append_assoc, List.drop_left' (by rw [List.length_append, hlen, hz]), List.take_succ_eq_append_getElem hk]
  have : flat (l.take k ++ [l[k]]) = flat (l.take k) ++ l[k].cells := by unfold flat; rw [List.flatMap_append]; simp [-List.take_append_getElem]
  rw [this, List.map_append]
theorem filling_bC {l : List PD} {zero : List PV} {n k : Nat} (hz : zero.map PV.bC = zero) : (filling l zero n k).map PV.bC = filling l zero n k := by
  unfold filling
  rw [List.map_append, List.map_map, List.map_flatten, List.map_replicate, hz]
  rfl
theorem filling_ok {l : List PD} {zero : List PV} (hz : ∀ L, zero.all (okC L) = true) (n k : Nat) (L : List BN) : (filling l zero n k).all (okC L) = true := by
  unfold filling
  rw [List.all_append, Bool.and_eq_true]
  refine ⟨by simp [okC], ?_⟩
  rw [List.all_eq_true]
  intro x hx
  obtain ⟨y, hy, hx⟩ := List.mem_flatten.1 hx
  rw [(List.mem_replicate.1 hy).2] at hx
  exact List.all_eq_true.1 (hz L) x hx
theorem made {P : Program} {st : St} {t : Nat} {b : BN} {e sz n : Nat} {l : List PD} {K : St → Prop} (ht : st.tm t = .rsl b e sz n) (hb : st.bx b = some ((flat l).map .d)) (hl : l.length = n) (hu : ∀ x ∈ l, x.cells.length = sz) (ho : ∀ c, c ≠ b → st.bx c = none)
    (k : ∀ s : St, s.tm t = .own e sz l → (∀ c, s.bx c = none) → K s) : wk P K st :=
  wk_of (Weak.freeze ht hb hl hu) (k _ (by simp [tm_put]) fun c => by
    rw [bx_put, bx_drop]
    split
    · rfl
    · rename_i hc; rw [ho c hc]; rfl)
theorem bofW {f : Nat} {fn : Func} {c : Code} {rs : List ResultVar} {args : List PV} {r : PV} (hf : Tryz.prog.funcs[f]? = some fn) (h : bwp Tryz.prog (fun _ => []) c (endW Tryz.prog rs r []) (St.init args [])) (hb : fn.body = some c := by exact rfl) (hrs : fn.results = rs.toArray := by exact rfl)
    (hn : (fn.name != "runtime.NumGoroutine") = true := by kernel_rfl) (hd : cOk Tryz.prog (fun _ => []) fn.ntmps c = true := by kernel_rfl) (ha : args.length ≤ fn.ntmps := by exact Nat.le_of_ble_eq_true rfl) : BRet Tryz.prog f [] args r [] :=
  BRet.of_bodyW (fun _ => []) mixed hf hb hn hd hrs rfl ha h

/-! Texts. -/
def StrT (P : Program) (t : Nat) : Prop := ∃ i, tyi P t = some i ∧ i.str = true
theorem StrT.sl {P : Program} {t : Nat} (h : StrT P t) (s : List UInt8) : (∀ k : Int, 0 ≤ k → k ≤ s.length → evSlice P t (.d (.str s)) none (some (.d (.int .i64 k))) = some (.d (.str (s.take k.toNat)))) ∧
    (∀ k : Int, 0 ≤ k → k ≤ s.length → evSlice P t (.d (.str s)) (some (.d (.int .i64 k))) none = some (.d (.str (s.drop k.toNat)))) ∧
    ∀ j k : Int, 0 ≤ j → j ≤ k → k ≤ s.length → evSlice P t (.d (.str s)) (some (.d (.int .i64 j))) (some (.d (.int .i64 k))) = some (.d (.str ((s.take k.toNat).drop j.toNat))) := by
  obtain ⟨i, h1, h2⟩ := h
  refine ⟨fun k h3 h4 => ?_, fun k h3 h4 => ?_, fun j k h3 h4 h5 => ?_⟩
  · simp [evSlice, h1, h2, sb, PV.int?, h3, h4]
  · simp [evSlice, h1, h2, sb, PV.int?, h3, h4]
  · have h6 : 0 ≤ k := by omega
    have h7 : j ≤ (k.toNat : Int) := by omega
    simp only [evSlice, h1, h2, sb, PV.int?, h3, h5, h6, h7, and_self, if_true, Option.bind_some, Option.map_some]
theorem StrT.facts {P : Program} {t : Nat} (h : StrT P t) :
    (∀ (s : List UInt8) (k : Int), 0 ≤ k → k ≤ s.length → evSlice P t (.d (.str s)) none (some (.d (.int .i64 k))) = some (.d (.str (s.take k.toNat)))) ∧
    (∀ (s : List UInt8) (k : Int), 0 ≤ k → k ≤ s.length → evSlice P t (.d (.str s)) (some (.d (.int .i64 k))) none = some (.d (.str (s.drop k.toNat)))) ∧
    ∀ (s : List UInt8) (j k : Int), 0 ≤ j → j ≤ k → k ≤ s.length → evSlice P t (.d (.str s)) (some (.d (.int .i64 j))) (some (.d (.int .i64 k))) = some (.d (.str ((s.take k.toNat).drop j.toNat))) :=
  ⟨fun s => (h.sl s).1, fun s => (h.sl s).2.1, fun s => (h.sl s).2.2⟩
/-! Slices of a type: what is known of t, whose items are e. -/
def SlT (P : Program) (t e sz by_ : Nat) : Prop := ∃ i te, tyi P t = some i ∧ i.el = some e ∧ tyi P e = some te ∧ te.sz = sz ∧ te.by_ = by_ ∧ te.zero.length = te.sz ∧ 0 < te.sz
theorem SlT.app {P : Program} {t e sz by_ : Nat} (h : SlT P t e sz by_) (l m : List PD) (x : PV) (hx : x.more = some (some sz, m)) (hb : (l.length + m.length) * (by_ + 1) ≤ 140737488355328) : evAppend P t (.own e sz l) x = some (.own e sz (l ++ m)) := by
  obtain ⟨i, te, h1, h2, h3, rfl, rfl, h6, h7⟩ := h
  simp [evAppend, PV.grow, hx, h1, h2, h3, h6, h7, hb]
theorem SlT.appn {P : Program} {t e sz by_ : Nat} (h : SlT P t e sz by_) (l : List PD) (hb : l.length * (by_ + 1) ≤ 140737488355328) : evAppend P t (.own e sz l) .nilS = some (.own e sz l) := by
  obtain ⟨i, te, h1, h2, h3, rfl, rfl, h6, h7⟩ := h
  simp [evAppend, PV.grow, PV.more, h1, h2, h3, h6, h7, hb]
theorem SlT.build0 {P : Program} {t e sz by_ : Nat} (h : SlT P t e sz by_) : evBuildSlice P t 0 [] = some (.own e sz []) := by
  obtain ⟨i, te, h1, h2, h3, rfl, rfl, h6, h7⟩ := h
  simp [evBuildSlice, h1, h2, h3, h6, pdAll]
theorem SlT.build1 {P : Program} {t e sz by_ : Nat} (h : SlT P t e sz by_) (x : PV) (y : PD) (hx : x.pd = some y) (hy : y.cells.length = sz) (hs : sz ≤ 16777216) : evBuildSlice P t 1 [(0, x)] = some (.own e sz [y]) := by
  obtain ⟨i, te, h1, h2, h3, rfl, rfl, h6, h7⟩ := h
  simp [evBuildSlice, h1, h2, h3, h6, pdAll, hx, hy, hs]
theorem SlT.hi {P : Program} {t e sz by_ : Nat} (h : SlT P t e sz by_) (l : List PD) (x : PV) (hx : x.list = some (sz, l)) (hs : ∀ s, x ≠ .d (.str s)) (k : Nat) (hk : k ≤ l.length) : evSlice P t x none (some (.int k)) = some (.d (.sl sz (l.take k))) := by
  obtain ⟨i, te, h1, h2, h3, rfl, rfl, h6, h7⟩ := h
  have : evSlice P t x none (some (.int k)) = x.list.bind fun s => (tyi P t).bind fun i => i.el.bind fun e => (tyi P e).bind fun te => if te.sz = s.1 then (sb none (some (.int k)) s.2.length).map fun q => .d (.sl s.1 ((s.2.take q.2).drop q.1)) else none := by
    unfold evSlice
    split
    · simp [PV.list] at hx
    · rename_i s; exact absurd rfl (hs s)
    · rfl
  rw [this, hx]
  simp [h1, h2, h3, sb, PV.int?, hk]
theorem SlT.lo {P : Program} {t e sz by_ : Nat} (h : SlT P t e sz by_) (l : List PD) (x : PV) (hx : x.list = some (sz, l)) (hs : ∀ s, x ≠ .d (.str s)) (k : Nat) (hk : k ≤ l.length) : evSlice P t x (some (.int k)) none = some (.d (.sl sz (l.drop k))) := by
  obtain ⟨i, te, h1, h2, h3, rfl, rfl, h6, h7⟩ := h
  have : evSlice P t x (some (.int k)) none = x.list.bind fun s => (tyi P t).bind fun i => i.el.bind fun e => (tyi P e).bind fun te => if te.sz = s.1 then (sb (some (.int k)) none s.2.length).map fun q => .d (.sl s.1 ((s.2.take q.2).drop q.1)) else none := by
    unfold evSlice
    split
    · simp [PV.list] at hx
    · rename_i s; exact absurd rfl (hs s)
    · rfl
  rw [this, hx]
  simp [h1, h2, h3, sb, PV.int?, hk]
theorem SlT.full {P : Program} {t e sz by_ : Nat} (h : SlT P t e sz by_) (b : BN) (e' n : Nat) (k : Int) (hk : k = (n : Int)) : evSlice P t (.rsl b e' sz n) none (some (.d (.int .i64 k))) = some (.rsl b e' sz n) := by
  subst hk
  obtain ⟨i, te, h1, h2, h3, rfl, rfl, h6, h7⟩ := h
  simp [evSlice, evSliceR, h1, h2, h3, sb, PV.int?]
/-- What the walk may use of a slice's type. -/
theorem SlT.facts {P : Program} {t e sz by_ : Nat} (h : SlT P t e sz by_) :
  (∀ l m : List PD, (l.length + m.length) * (by_ + 1) ≤ 140737488355328 → evAppend P t (.own e sz l) (.d (.sl sz m)) = some (.own e sz (l ++ m))) ∧
  (∀ l m : List PD, (l.length + m.length) * (by_ + 1) ≤ 140737488355328 → evAppend P t (.own e sz l) (.own e sz m) = some (.own e sz (l ++ m))) ∧
  (∀ l m : List PD, (l.length + m.length) * (by_ + 1) ≤ 140737488355328 → evAppend P t (.own e sz l) (.nn sz m) = some (.own e sz (l ++ m))) ∧
  (∀ l : List PD, l.length * (by_ + 1) ≤ 140737488355328 → evAppend P t (.own e sz l) .nilS = some (.own e sz l)) ∧
  evBuildSlice P t 0 [] = some (.own e sz []) ∧
  (∀ (l : List PD) (k : Nat), k ≤ l.length → evSlice P t (.d (.sl sz l)) none (some (.d (.int .i64 k))) = some (.d (.sl sz (l.take k)))) ∧
  (∀ (l : List PD) (k : Nat), k ≤ l.length → evSlice P t (.d (.sl sz l)) (some (.d (.int .i64 k))) none = some (.d (.sl sz (l.drop k)))) ∧
  (∀ (l : List PD) (k : Nat), k + 1 ≤ l.length → evSlice P t (.d (.sl sz l)) (some (.d (.int .i64 ((k : Int) + 1)))) none = some (.d (.sl sz (l.drop (k + 1))))) ∧
  (∀ (b : BN) (e' n : Nat) (k : Int), k = (n : Int) → evSlice P t (.rsl b e' sz n) none (some (.d (.int .i64 k))) = some (.rsl b e' sz n)) :=
  ⟨fun l m hb => h.app l m _ rfl hb, fun l m hb => h.app l m _ rfl hb, fun l m hb => h.app l m _ rfl hb, fun l hb => h.appn l hb, h.build0, fun l k hk => h.hi l _ rfl (fun s e => by cases e) k hk, fun l k hk => h.lo l _ rfl (fun s e => by cases e) k hk, fun l k hk => h.lo l _ rfl (fun s e => by cases e) (k + 1) hk, fun b e' n k hk => h.full b e' n k hk⟩
end Go.Bee.Ty

/-
A function that ends with a call that writes into a slice of its own. No condition.
-/
namespace Go.Bee
open Go.Sort Go.Shelf Go.Proofs
set_option linter.unusedVariables false

theorem own_block {G : Gh} {w : World} {p : Pos} {e sz : Nat} {l : List PD} {v : Value} (h : OwnAt G w p e sz l v) (hl : l ≠ []) :
    ∃ g o c, v = .slice (some ⟨g, o, none⟩) l.length c ∧ l.length ≤ c ∧ RepRun G.im w g o (flat l) ∧ G.own g = some p ∧ ∃ cs e', w.heap[g]? = some (.cells cs e' (0, 0)) := by
  obtain ⟨hd, hw⟩ := h
  rcases hd.sl_shape with ⟨h1, -⟩ | ⟨g, o, c, rfl, h2, h3, h4⟩ | ⟨h1, -⟩
  · exact absurd h1 hl
  rotate_left
  · exact absurd h1 hl
  refine ⟨g, o, c, rfl, h2, h4, ?_⟩
  rcases hw with ⟨h5, h6⟩ | ⟨vs, h5, h6, h7⟩
  · exact h6 hl g rfl
  · refine ⟨(h7 g rfl).1, ?_⟩
    rcases h5.2 with hn | ⟨g', cap, cur, hv, hb, hgg, rest⟩
    · simp at hn
    · simp only [Value.slice.injEq, Option.some.injEq, Addr.mk.injEq] at hv
      rw [hv.1.1]
      exact ⟨cur, e, hgg⟩

/-- What g makes of a slice of strings, in its place. -/
structure Redo (P : Program) (g : Nat) (f : List (List UInt8) → List (List UInt8)) : Prop where
  fn : isFn P g = true
  nil : f [] = []
  empty : ∀ (w : World) (b : Option Addr) (c : Nat), Calls P g #[.slice b 0 c] w fun e w' => e = .returned (.slice b 0 c) ∧ w'.heap = w.heap ∧ w'.os = w.os ∧ w'.tape = w.tape ∧ w'.output = w.output
  full : ∀ (w : World) (blk off c : Nat) (zs : List (List UInt8)), zs ≠ [] → Holds encStr w blk off zs.toArray → blk < w.heap.size → zs.length ≤ c → zs.length ≤ 140737488355328 →
    Calls P g #[.slice (some ⟨blk, off, none⟩) zs.length c] w fun e w' => ∃ c', e = .returned (.slice (some ⟨blk, off, none⟩) (f zs).length c') ∧ (f zs).length ≤ c' ∧ (∀ (i : Nat) s, (f zs)[i]? = some s → w'.cell? ⟨blk, off + i, none⟩ = some (encStr s)) ∧
      (∀ k, k < w.heap.size → k ≠ blk → w'.heap[k]? = w.heap[k]?) ∧ w.heap.size ≤ w'.heap.size ∧ w'.os = w.os ∧ w'.tape = w.tape ∧ w'.output = w.output ∧ (f zs).length ≤ zs.length ∧ ∀ s ∈ f zs, s ∈ zs

theorem flat_str (zs : List (List UInt8)) : flat (zs.map .str) = zs.map .str := by
  induction zs with
  | nil => rfl
  | cons a l ih => rw [List.map_cons]; unfold flat at ih ⊢; rw [List.flatMap_cons, ih]; rfl

theorem bxOf_nil' (b : BN) : bxOf [] b = none := by cases b <;> simp [bxOf]
/-- All is forgotten but one slot. -/
def only (u : Nat) (x : PV) : St := ⟨fun t => if t = u then x else .junk, fun _ => none⟩

theorem redo_call {P : Program} {F : Fr} {G : Gh} {st : St} {a : Act} {w : World} (h : Rel P F G st a w) (hWr : ∀ g, ¬ F.Wr g) (hZ : ∀ g, ¬ F.Z g) (hS : ∀ g o, F.S0 g o → g < F.w0.heap.size) {g : Nat} {f : List (List UInt8) → List (List UInt8)} (hg : Redo P g f)
    {s v e : Nat} {zs : List (List UInt8)} (hs : st.tm s = .own e 1 (zs.map .str)) (hv : v < F.nt) {o : Oper} {ts : Array TypeId} (ho : o.op = .call ⟨.value (.func g), #[.tmp s], ts⟩) (hod : o.dst = some v)
    {K : Act → World → Prop} {Q : Exit → Act → World → Prop} (hK : ∀ a' w' G', Rel P F G' (only v (.d (.sl 1 ((f zs).map .str)))) a' w' → K a' w') : o.wp P a w K Q := by
  have hrs := h.tm s
  rw [hs] at hrs
  generalize hu : a.tmps.getD s undef = u at hrs
  have hown : OwnAt G w (.t s, 0, 0) e 1 (zs.map .str) u := hrs
  have hrunX : (execOp a.eval o).run P w = .ok (.enter g #[u]) w := by
    have := run_callFunc hg.fn #[u] w
    simp [execOp, ho, resolve, Deferred.ofValue, invoke, Act.eval, hu]
    simpa [Act.eval] using this
  -- what remains to be shown of the end
  have fin : ∀ (r : Value) (w' : World) (im' : Nat → Nat → Prop), RepD im' w' (.sl 1 ((f zs).map .str)) r → (∀ b o, F.S0 b o → im' b o) → (∀ b o, im' b o → F.S0 b o ∨ (F.w0.heap.size ≤ b ∧ b < w'.heap.size)) →
      w.heap.size ≤ w'.heap.size → (∀ k, k < F.w0.heap.size → w'.heap[k]? = w.heap[k]?) → w'.os = w.os → w'.tape = w.tape → w'.output = w.output → K (a.put o.dst r) w' := by
    intro r w' im' hr h1 h2 h3 h4 h5 h6 h7
    have hx := h.sn.ext
    let G' : Gh := { im := im', β := G.β, live := fun _ => False, own := fun _ => none, fz := fun g => g < F.w0.heap.size }
    refine hK _ w' G' ⟨fun t => ?_, ⟨fun b cells hc => (by cases hc), fun b => (by simp [only, G']), fun b b' hl => hl.elim, fun b o hb => ?_, fun b p hp => (by cases hp), fun b hl => hl.elim, fun b hl => hl.elim⟩,
      ⟨⟨h5.trans hx.os, h6.trans hx.tape, h7.trans hx.output, Nat.le_trans hx.size h3, fun b hb hn => (h4 b hb).trans (hx.old b hb hn), fun b o hb => ⟨h1 b o hb, ?_⟩, fun b o hb => ?_⟩, fun b p hp => (by cases hp), fun b hl => hl.elim, h.sn.βa, fun b hb => ⟨hb, hWr b⟩, fun b h1 _ => h1⟩, ?_, ?_, fun g hg => absurd hg (hZ g), h.tab.mono (fun g hg => h4 g (h.sn.fz g hg).1) (fun g hg _ => (h.sn.fz g hg).1)⟩
    · rw [hod]
      by_cases ht : t = v
      · subst ht
        have e1 : ((a.put (some t) r).tmps).getD t undef = r := by
          simp [Act.put, Array.getD_eq_getD_getElem?, h.nt, hv]
        rw [e1]
        show RepT P G' w' (.t t) (if t = t then _ else _) r
        rw [if_pos rfl]
        exact ⟨hr, rfl⟩
      · show RepT P G' w' (.t t) (if t = v then _ else .junk) _
        rw [if_neg ht]
        trivial
    · rcases h2 b o hb with h | h
      · exact Nat.lt_of_lt_of_le (hS b o h) (Nat.le_trans hx.size h3)
      · exact h.2
    · have hb' := hS b o hb
      have : w'.heap[b]? = F.w0.heap[b]? := (h4 b hb').trans (hx.old b hb' (hWr b))
      unfold World.cell?
      simp only [this]
    · rcases h2 b o hb with h | h
      · exact .inl h
      · exact .inr (.inl h.1)
    · rw [hod]; simp [Act.put, h.nt]
    · rw [hod]; exact h.defers
  unfold Oper.wp
  rw [hrunX]
  have hx := h.sn.ext
  by_cases hz : zs = []
  · subst hz
    have hsh : ∃ b c, u = .slice b 0 c ∧ (b = none → c = 0) := by
      rcases hown.1.sl_shape with ⟨-, h2⟩ | ⟨b, o, c, h2, -⟩ | ⟨-, a, c, h2⟩
      · exact ⟨none, 0, h2, fun _ => rfl⟩
      · exact ⟨_, c, h2, fun e => by cases e⟩
      · exact ⟨_, c, h2, fun e => by cases e⟩
    obtain ⟨b, c, rfl, hbc⟩ := hsh
    refine Calls.mono (hg.empty w b c) ?_
    rintro e' w' ⟨rfl, h1, h2, h3, h4⟩
    refine fin _ w' F.S0 ?_ (fun _ _ h => h) (fun _ _ h => .inl h) (by rw [h1]; exact Nat.le_refl _) (fun k _ => by rw [h1]) h2 h3 h4
    rw [hg.nil]
    rcases hown.1.sl_shape with ⟨-, h2⟩ | ⟨b', o', c', h2, h5, h6, h7⟩ | ⟨-, a', c', h2⟩
    · rw [h2]; exact .nil 1
    rotate_left
    · rw [h2]; exact .emp 1 a' c'
    · rw [h2]
      refine .sl 1 [] b' o' c' [] (by simp) (by simp) (by simp) (by simp [flat]) rfl (fun i v hv => by simp at hv) (fun i x v hx hv => by simp at hv)
  · obtain ⟨blk, off, c, rfl, h2, ⟨vs, k1, k2, k3, k4⟩, h4, cs, e', h5⟩ := own_block hown (by simpa using hz)
    rw [flat_str] at k1 k2 k4
    simp only [List.length_map] at h2 k1
    have hblk : blk < w.heap.size := h.hp.ownlt blk _ h4
    have hfresh : F.w0.heap.size ≤ blk := (h.sn.own blk _ h4).resolve_right (hWr blk)
    have hlen : zs.length ≤ 140737488355328 := by simpa using hown.1.len
    have hcell : ∀ (i : Nat) s, zs[i]? = some s → w.cell? ⟨blk, off + i, none⟩ = some (encStr s) ∧ s.length ≤ 140737488355328 := by
      intro i s hi
      have hlt : i < vs.length := by rw [k1]; exact (List.getElem?_eq_some_iff.1 hi).1
      obtain ⟨m1, m2⟩ := k3 i vs[i] (List.getElem?_eq_getElem hlt)
      have m3 := k4 i (.str s) vs[i] (by rw [List.getElem?_map, hi]; rfl) (List.getElem?_eq_getElem hlt)
      rw [m2]
      generalize vs[i] = y at m3
      cases m3 with
      | str _ hb => exact ⟨rfl, hb⟩
    have hH : Holds encStr w blk off zs.toArray := by
      intro j hj
      have hj' : j < zs.length := by simpa using hj
      have e1 : zs.toArray[j]! = zs[j] := by rw [getElem!_pos _ j (by simpa using hj')]; simp
      refine ⟨by rw [e1]; exact (hcell j zs[j] (List.getElem?_eq_getElem hj')).1, by simp [World.frozen?, h5]⟩
    have hc := hg.full w blk off c zs hz hH hblk h2 hlen
    simp only [List.length_map]
    refine Calls.mono hc ?_
    rintro e1 w' ⟨c', rfl, q1, q2, q3, q4, q5, q6, q7, q8, q9⟩
    refine fin _ w' (fun b o => F.S0 b o ∨ (b = blk ∧ off ≤ o ∧ o < off + (f zs).length)) ?_ (fun _ _ h => .inl h) (fun b o hb => hb.imp id (fun ⟨e, _⟩ => e ▸ ⟨hfresh, Nat.lt_of_lt_of_le hblk q4⟩)) q4 (fun k hk => q3 k (Nat.lt_of_lt_of_le hk hx.size) (by omega)) q5 q6 q7
    have e2 : (f zs).length = ((f zs).map PD.str).length := by simp
    rw [e2]
    refine .sl 1 ((f zs).map .str) blk off c' ((f zs).map encStr) (by simp; omega) (by simpa using q1) (fun x hx => by obtain ⟨s, -, rfl⟩ := List.mem_map.1 hx; rfl) (fun x hx => ?_) (by rw [flat_str]; simp) (fun i v hv => ?_) (fun i x v hx hv => ?_)
    · rw [flat_str] at hx; obtain ⟨s, -, rfl⟩ := List.mem_map.1 hx; rfl
    · rw [List.getElem?_map] at hv
      obtain ⟨s, hs', rfl⟩ := Option.map_eq_some_iff.1 hv
      have hlt := (List.getElem?_eq_some_iff.1 hs').1
      exact ⟨.inr ⟨rfl, by omega, by omega⟩, q2 i s hs'⟩
    · rw [flat_str, List.getElem?_map] at hx
      rw [List.getElem?_map] at hv
      obtain ⟨s, hs', rfl⟩ := Option.map_eq_some_iff.1 hv
      rw [hs'] at hx
      cases hx
      have hm := q9 s (List.mem_of_getElem? hs')
      obtain ⟨j, hj⟩ := List.getElem?_of_mem hm
      exact .str s (hcell j s hj).2

/-- A function's text, of which the run is known. -/
theorem body_calls {P : Program} {f : Nat} {fn : Func} {c : Code} (hf : P.funcs[f]? = some fn) (hb : fn.body = some c) {rs : List ResultVar} (hrs : fn.results = rs.toArray)
    {bi bo : List (List PV)} {args : List PV} {r : PV} (ha : args.length ≤ fn.ntmps) {Q : Ex → St → Prop} (hQn : ∀ s, Q .normal s → wk P (retK P rs r bo) s) (hQr : ∀ s, Q .ret s → wk P (retK P rs r bo) s) (hQe : ∀ i s, Q (.exit i) s → False)
    (G : Gh) (w : World) (vs : Array Value) (Wr : Nat → Prop) (hvs : vs.size = args.length) (hargs : ∀ (i : Nat) x u, args[i]? = some x → vs[i]? = some u → RepT P G w (.t i) x u) (hp : Hp P G w (bxOf bi))
    (hown : ∀ g p, G.own g = some p → Wr g) (hbox : ∀ b, G.live b → Wr (G.β b)) (hfz : ∀ g, G.fz g → g < w.heap.size ∧ ¬ Wr g) (hfm : ∀ g, g < w.heap.size → ¬ Wr g → G.fz g) (htb : TabOk P G.fz w)
    (hsem : ∀ F : Fr, F.nt = fn.ntmps → F.S0 = G.im → F.w0 = w → F.Wr = Wr → (∀ g, ¬ F.Z g) → ∀ a, Rel P F G (St.init args bi) a w → c.wp P (lift P F Q) a w) :
    Calls P f vs w fun e w' => ∃ v G', e = .returned v ∧ RepT P G' w' .res r v ∧ Hp P G' w' (bxOf bo) ∧ Ext G.im w G'.im w' Wr ∧ (∀ k, G'.β (.a k) = G.β (.a k)) ∧ (∀ g p, G'.own g = some p → w.heap.size ≤ g ∨ Wr g) := by
  have hrs' : fn.results.toList = rs := by rw [hrs]
  rw [← hrs'] at hQn hQr
  let F : Fr := ⟨fn.ntmps, G.im, w, Wr, fun k => G.β (.a k), fun _ => False⟩
  have hsz : (vs ++ Array.replicate (fn.ntmps - vs.size) undef).size = fn.ntmps := by simp; omega
  have hrel : Rel P F G (St.init args bi) { tmps := vs ++ Array.replicate (fn.ntmps - vs.size) undef, defers := [] } w := by
    refine ⟨fun t => ?_, hp, ⟨Ext.refl _ _ _, fun g p hg => .inr (hown g p hg), fun b hl => .inr (hbox b hl), fun k => rfl, hfz, hfm⟩, hsz, rfl, fun g hg => hg.elim, htb⟩
    by_cases ht : t < args.length
    · have h1 : args[t]? = some args[t] := List.getElem?_eq_getElem ht
      have h2 : vs[t]? = some vs[t] := Array.getElem?_eq_getElem (by omega)
      have h3 : (vs ++ Array.replicate (fn.ntmps - vs.size) undef).getD t undef = vs[t] := by
        rw [Array.getD_eq_getD_getElem?, Array.getElem?_append_left (by omega), h2]; rfl
      have h4 : (St.init args bi).tm t = args[t] := by simp [St.init, h1]
      show RepT P G w (.t t) ((St.init args bi).tm t) ((vs ++ Array.replicate (fn.ntmps - vs.size) undef).getD t undef)
      rw [h3, h4]
      exact hargs t _ _ h1 h2
    · have h4 : (St.init args bi).tm t = .und := by simp [St.init, List.getElem?_eq_none (Nat.le_of_not_lt ht)]
      show RepT P G w (.t t) ((St.init args bi).tm t) ((vs ++ Array.replicate (fn.ntmps - vs.size) undef).getD t undef)
      rw [h4]
      show (vs ++ Array.replicate (fn.ntmps - vs.size) undef).getD t undef = undef
      rw [Array.getD_eq_getD_getElem?, Array.getElem?_append_right (by omega)]
      by_cases h5 : t - vs.size < fn.ntmps - vs.size
      · simp [h5]
      · simp [h5]
  refine calls_of_wp hf hb ?_
  refine wp_mono (hsem F rfl rfl rfl rfl (fun _ h => h) _ hrel) fun e a' w' he => ?_
  have hend : ∀ G1 s, Rel P F G1 s a' w' → wk P (retK P fn.results.toList r bo) s → a'.defers = [] ∧ ∃ v, (results fn a'.tmps).run P w' = .ok v w' ∧
      ∃ v' G', Ending.returned v = .returned v' ∧ RepT P G' w' .res r v' ∧ Hp P G' w' (bxOf bo) ∧ Ext G.im w G'.im w' Wr ∧ (∀ k, G'.β (.a k) = G.β (.a k)) ∧ ∀ g p, G'.own g = some p → w.heap.size ≤ g ∨ Wr g := by
    rintro G0 s0 hR0 ⟨s, hw, hk⟩
    obtain ⟨G1, hR⟩ := hw F G0 a' w' hR0
    obtain ⟨v, G', h1, h2, h3, h4, h5, h6⟩ := ret_sound hR hk
    refine ⟨hR.defers, v, h1, v, G', rfl, h2, h3, by rw [h4]; exact hR.sn.ext, fun k => by rw [h5 k]; exact hR.sn.βa k, fun g p hg => ?_⟩
    obtain ⟨q, hq⟩ := h6 g p hg
    exact hR.sn.own g q hq
  cases e with
  | normal => obtain ⟨G1, s, hR, hk⟩ := he; exact hend G1 s hR (hQn s hk)
  | ret => obtain ⟨G1, s, hR, hk⟩ := he; exact hend G1 s hR (hQr s hk)
  | exit id => obtain ⟨G1, s, hR, hk⟩ := he; exact (hQe id s hk).elim
  | goto l => exact he.elim
  | panic c => exact he.elim
  | outgrown => exact he.elim

/-- An argument that is plain data. -/
def plainArg : PV → Bool
  | .d _ => true
  | .agg l => l.all fun | .d _ => true | _ => false
  | _ => false
theorem BRet.pure {P : Program} {f : Nat} {args : List PV} {r : PV} (hf : isFn P f = true) (hpl : args.all plainArg = true)
    (h : ∀ (G : Gh) (w : World) (vs : Array Value), vs.size = args.length → (∀ (i : Nat) x u, args[i]? = some x → vs[i]? = some u → RepT P G w (.t i) x u) → Hp P G w (bxOf []) → (∀ g, G.own g = none) → (∀ b, ¬ G.live b) → (∀ g, G.fz g ↔ g < w.heap.size) → TabOk P G.fz w →
      Calls P f vs w fun e w' => ∃ v G', e = .returned v ∧ RepT P G' w' .res r v ∧ Hp P G' w' (bxOf []) ∧ Ext G.im w G'.im w' (fun _ => False) ∧ (∀ k, G'.β (.a k) = G.β (.a k)) ∧ (∀ g p, G'.own g = some p → w.heap.size ≤ g ∨ False)) : BRet P f [] args r [] := by
  refine ⟨hf, rfl, fun G w vs Wr hvs hargs hp hown hbox hfz hfm htb => ?_⟩
  let G0 : Gh := { im := G.im, β := G.β, live := fun _ => False, own := fun _ => none, fz := fun g => g < w.heap.size }
  refine Calls.mono (h G0 w vs hvs (fun i x u hx hu => ?_) ⟨fun b cells hc => (by simp [bxOf_nil'] at hc), fun b => (by simp [bxOf_nil', G0]), fun b b' hl => hl.elim, hp.imlt, fun g p hg => (by cases hg), fun b hl => hl.elim, fun b hl => hl.elim⟩ (fun _ => rfl) (fun _ hl => hl) (fun _ => Iff.rfl) (htb.mono (fun _ _ => rfl) (fun g _ h => h))) ?_
  · have hr := hargs i x u hx hu
    have hpx := List.all_eq_true.1 hpl x (List.mem_of_getElem? hx)
    cases x with
    | d y => exact hr
    | agg l =>
      obtain ⟨cs, h1, h2, h3, h4⟩ := hr
      refine ⟨cs, h1, h2, h3, fun j y u hy hu => ?_⟩
      have h5 := h4 j y u hy hu
      have h6 := List.all_eq_true.1 hpx y (List.mem_of_getElem? hy)
      cases y <;> first | exact h5 | simp at h6
    | _ => simp [plainArg] at hpx
  · rintro e w' ⟨v, G', h1, h2, h3, h4, h5, h6⟩
    refine ⟨v, G', h1, h2, h3, ⟨h4.os, h4.tape, h4.output, h4.size, fun b hb _ => h4.old b hb id, h4.keep, fun b o hb => ?_⟩, h5, fun g p hg => (h6 g p hg).imp id False.elim, fun g hg => ?_⟩
    rotate_left
    · have hsame := h4.old g hg.lt id
      refine ⟨.of_heap hsame, by rw [hsame]; exact hg.1, ?_, fun o ho => ?_⟩
      · cases hcase : G'.own g with
        | none => rfl
        | some p =>
          have := hg.lt
          rcases h6 g p hcase with h | h
          · omega
          · exact h.elim
      · have := hg.lt
        rcases h4.new g o ho with h | h | h
        · exact hg.2.2.2.1 o h
        · omega
        · exact h
    rcases h4.new b o hb with h | h | h
    · exact .inl h
    · exact .inr (.inl h)
    · exact h.elim

/-! A text and what comes after it. -/
def plug : Nat → Code → Code → Code
  | n + 1, .seq a b, X => .seq a (plug n b X)
  | _, c, X => .seq c X
/-- The text without its n + 2nd part. -/
def cutN : Nat → Code → Code
  | 0, .seq a b => a
  | n + 1, .seq a b => .seq a (cutN n b)
  | _, c => c
theorem cutN_0 (a b : Code) : cutN 0 (.seq a b) = a := rfl
theorem cutN_s (n : Nat) (a b : Code) : cutN (n + 1) (.seq a b) = .seq a (cutN n b) := rfl
theorem plug_one {P : Program} {H : Nat → List Nat} {F : Fr} (hm : P.follows .mixedOrders = true) {X : Code} {Q : Ex → St → Prop} {Q' : Exit → Act → World → Prop} (hn : ∀ G s a w, Rel P F G s a w → Q .normal s → X.wp P Q' a w)
    (hr : ∀ G s a w, Rel P F G s a w → Q .ret s → Q' .ret a w) (hx : ∀ i s, Q (.exit i) s → False) (c : Code) (G : Gh) (st : St) (a : Act) (w : World) (hd : cOk P H F.nt c = true) (h : bwp P H c Q st) (hR : Rel P F G st a w) : (Code.seq c X).wp P Q' a w := by
  refine wp_seq ?_
  refine wp_mono (bwp_sound hm c _ G st a w hd h hR) fun e a' w' he => ?_
  cases e with
  | normal => obtain ⟨G', s', h', hq⟩ := he; exact hn G' s' a' w' h' hq
  | exit id => obtain ⟨G', s', h', hq⟩ := he; exact (hx id s' hq).elim
  | ret => obtain ⟨G', s', h', hq⟩ := he; exact hr G' s' a' w' h' hq
  | goto l => exact he.elim
  | panic c => exact he.elim
  | outgrown => exact he.elim
theorem plug_sound {P : Program} {H : Nat → List Nat} {F : Fr} (hm : P.follows .mixedOrders = true) {X : Code} {Q : Ex → St → Prop} {Q' : Exit → Act → World → Prop} (hn : ∀ G s a w, Rel P F G s a w → Q .normal s → X.wp P Q' a w)
    (hr : ∀ G s a w, Rel P F G s a w → Q .ret s → Q' .ret a w) (hx : ∀ i s, Q (.exit i) s → False) : ∀ (n : Nat) (c : Code) (G : Gh) (st : St) (a : Act) (w : World), cOk P H F.nt c = true → bwp P H c Q st → Rel P F G st a w → (plug n c X).wp P Q' a w := by
  intro n
  induction n with
  | zero => exact fun c G st a w hd h hR => plug_one hm hn hr hx c G st a w hd h hR
  | succ n ih =>
    intro c G st a w hd h hR
    cases c with
    | seq x y =>
      simp only [cOk, Bool.and_eq_true] at hd
      refine wp_seq ?_
      refine wp_mono (bwp_sound hm x _ G st a w hd.1 h hR) fun e a' w' he => ?_
      cases e with
      | normal => obtain ⟨G', s', h', hq⟩ := he; exact ih y G' s' a' w' hd.2 hq h'
      | exit id => obtain ⟨G', s', h', hq⟩ := he; exact (hx id s' hq).elim
      | ret => obtain ⟨G', s', h', hq⟩ := he; exact hr G' s' a' w' h' hq
      | goto l => exact he.elim
      | panic c => exact he.elim
      | outgrown => exact he.elim
    | _ => exact plug_one hm hn hr hx _ G st a w hd h hR

def tailQ (s e : Nat) (zs : List (List UInt8)) : Ex → St → Prop
  | .normal => fun st => st.tm s = .own e 1 (zs.map .str)
  | _ => fun _ => False
/-- A function that ends with such a call. -/
theorem BRet.tail {P : Program} (H : Nat → List Nat) (hm : P.follows .mixedOrders = true) {f : Nat} {fn : Func} (n : Nat) {A c : Code} (hf : P.funcs[f]? = some fn) {id s u v r g : Nat} {ts : Array TypeId} {ty0 ty1 ty2 : TypeId} {p0 p1 p2 : String} {a0 a1 a2 : Array Edge}
    (hb : fn.body = some c) (hcut : cutN n c = A) (hplug : c = plug n A (.seq (.region id #[⟨some u, .move (.tmp s), ty0, p0, a0, none⟩, ⟨some v, .call ⟨.value (.func g), #[.tmp u], ts⟩, ty1, p1, a1, none⟩, ⟨some r, .assign (.tmp v), ty2, p2, a2, none⟩] false) .ret))
    (hn : (fn.name != "runtime.NumGoroutine") = true) (hd : cOk P H fn.ntmps A = true) (hrs : fn.results = #[.tmp r]) {args : List PV} (ha : args.length ≤ fn.ntmps) (hpl : args.all plainArg = true) (hu : u < fn.ntmps) (hv : v < fn.ntmps) (hr : r < fn.ntmps)
    {f' : List (List UInt8) → List (List UInt8)} (hg : Redo P g f') {e : Nat} {zs : List (List UInt8)} (hA : bwp P H A (tailQ s e zs) (St.init args [])) : BRet P f [] args (.d (.sl 1 ((f' zs).map .str))) [] := by
  refine BRet.pure (by simp [isFn, hf, hb, hn]) hpl fun G w vs hvs hargs hp hown hlive hfz htb => ?_
  refine body_calls hf hb (rs := [.tmp r]) hrs ha (Q := endW P [.tmp r] (.d (.sl 1 ((f' zs).map .str))) []) (fun s hs => hs) (fun s hs => hs) (fun i s hs => hs) G w vs (fun _ => False) hvs hargs hp (fun g p hg => by rw [hown g] at hg; cases hg) (fun b hl => (hlive b hl)) (fun g hg => ⟨(hfz g).1 hg, fun h => h⟩) (fun g h1 _ => (hfz g).2 h1) htb ?_
  intro F hF1 hF2 hF3 hF4 hF5 a hR
  rw [hplug]
  refine plug_sound (Q := tailQ s e zs) hm (fun G1 s1 a1 w1 h1 hq => ?_) (fun G1 s1 a1 w1 h1 hq => hq.elim) (fun i s1 hq => hq) n A G _ a w (by rw [hF1]; exact hd) hA hR
  refine wp_seq ?_
  refine wp_region ?_
  have hlow : ∀ g o, F.S0 g o → g < F.w0.heap.size := by rw [hF2, hF3]; exact hp.imlt
  have hWr : ∀ g, ¬ F.Wr g := by rw [hF4]; exact fun _ h => h
  show wpOps P _ _ [0, 1, 2] a1 w1
  rw [wpOps_cons]
  unfold wpOp
  simp only [List.getElem?_toArray, List.getElem?_cons_zero, Region.wanted, if_true]
  have hq' : s1.tm s = .own e 1 (zs.map .str) := hq
  refine .inl (ev1_sound h1 (fl := ⟨true, true, true⟩) (v := .own e 1 (zs.map .str)) (B' := s1.bx) (fun d' hd' => by cases hd'; rw [hF1]; exact hu) (by simp [ev1, mvd, St.ev, hq', vz]) ?_)
  rintro a2 w2 ⟨G2, h2⟩
  rw [wpOps_cons]
  unfold wpOp
  simp only [List.getElem?_toArray, List.getElem?_cons_succ, List.getElem?_cons_zero, Region.wanted, if_true]
  refine .inl (redo_call h2 hWr hF5 hlow hg (s := u) (v := v) (e := e) (zs := zs) (by simp [St.after, St.upd]) (by rw [hF1]; exact hv) rfl rfl ?_)
  intro a3 w3 G3 h3
  rw [wpOps_cons]
  unfold wpOp
  simp only [List.getElem?_toArray, List.getElem?_cons_succ, List.getElem?_cons_zero, Region.wanted, if_true]
  refine .inl (ev1_sound h3 (fl := ⟨true, true, true⟩) (v := .d (.sl 1 ((f' zs).map .str))) (B' := fun _ => none) (fun d' hd' => by cases hd'; rw [hF1]; exact hr) (by simp [ev1, mvd, St.ev, only, vz]) ?_)
  rintro a4 w4 ⟨G4, h4⟩
  refine wp_ret ⟨G4, _, h4, _, Weak.refl _, ?_⟩
  rw [ret_1]
  refine ⟨?_, ?_, ?_⟩ <;> simp [St.after, St.upd, PV.gives2, PV.gives1, PV.pass1, only]

/-! Steps by hand. -/
theorem raw_call {P : Program} {a : Act} {w : World} {o : Oper} {f s : Nat} {u : Value} {ts : Array TypeId} {K : Act → World → Prop} {Q : Exit → Act → World → Prop} (hfn : isFn P f = true) (ho : o.op = .call ⟨.value (.func f), #[.tmp s], ts⟩) (hu : a.tmps.getD s undef = u)
    (hc : Calls P f #[u] w fun e w' => ∃ r, e = .returned r ∧ K (a.put o.dst r) w') : o.wp P a w K Q := by
  have hrunX : (execOp a.eval o).run P w = .ok (.enter f #[u]) w := by
    have := run_callFunc hfn #[u] w
    simp [execOp, ho, resolve, Deferred.ofValue, invoke, Act.eval, hu]
    simpa [Act.eval] using this
  unfold Oper.wp
  rw [hrunX]
  refine Calls.mono hc ?_
  rintro e w' ⟨r, rfl, h⟩
  exact h
theorem raw_move {P : Program} {a : Act} {w : World} {o : Oper} {x : Operand} {K : Act → World → Prop} {Q : Exit → Act → World → Prop} (ho : o.op = .move x) (h : K (a.put o.dst (a.eval x)) w) : o.wp P a w K Q :=
  wp_value (by simp [execOp, ho]) h
theorem raw_assign {P : Program} {a : Act} {w : World} {o : Oper} {x : Operand} {K : Act → World → Prop} {Q : Exit → Act → World → Prop} (ho : o.op = .assign x) (h : K (a.put o.dst (a.eval x)) w) : o.wp P a w K Q :=
  wp_value (by simp [execOp, ho]) h
theorem raw_at {P : Program} {ops : Array Oper} {i : Nat} {o : Oper} {l : List Nat} {a : Act} {w : World} {Q : Exit → Act → World → Prop} (ho : ops[i]? = some o) (hg : o.guard = none) (h : o.wp P a w (wpOps P ops Q l) Q) : wpOps P ops Q (i :: l) a w := by
  rw [wpOps_cons]
  unfold wpOp
  rw [ho]
  simp only [Region.wanted, hg, if_true]
  exact .inl h
end Go.Bee

/- Names, lists of names: what all chapters use. -/
namespace Go.Proofs
open Go.Shelf
def YtjjehnbebcfhpaaGreatDoorStr.lays138_ren : Go.Shelf.Ren := ⟨fun | 138 => 158 | 195 => 177 | 218 => 179 | 143 => 159 | 219 => 180 | 217 => 193 | 225 => 194 | 224 => 195 | 267 => 196 | 266 => 201 | 314 => 202 | n => n, fun | 9 => 9 | 3 => 3 | 4 => 4 | 5 => 5 | 0 => 0 | 46 => 151 | 146 => 195 | 51 => 165 | n => n, fun | 1 => 1 | n => n⟩
theorem YtjjehnbebcfhpaaGreatDoorStr.lays138 : Go.Proofs.Lays.n138 Tryz.prog YtjjehnbebcfhpaaGreatDoorStr.lays138_ren := {
  mixed := by kernel_rfl
  f138 := Tryz.func158.trans (congrArg some (by kernel_rfl))
  f143 := Tryz.func159.trans (congrArg some (by kernel_rfl))
  f195 := Tryz.func177.trans (congrArg some (by kernel_rfl))
  f217 := Tryz.func193.trans (congrArg some (by kernel_rfl))
  f218 := Tryz.func179.trans (congrArg some (by kernel_rfl))
  f219 := Tryz.func180.trans (congrArg some (by kernel_rfl))
  f224 := Tryz.func195.trans (congrArg some (by kernel_rfl))
  f225 := Tryz.func194.trans (congrArg some (by kernel_rfl))
  f266 := Tryz.func201.trans (congrArg some (by kernel_rfl))
  f267 := Tryz.func196.trans (congrArg some (by kernel_rfl))
  f314 := Tryz.func202.trans (congrArg some (by kernel_rfl))
  t0 := Tryz.underlying0
  a0 := Tryz.isAgg0
  z0 := Tryz.sizeOf0
  v0 := Tryz.zeroValue0
  t3 := Tryz.underlying3
  a3 := Tryz.isAgg3
  z3 := Tryz.sizeOf3
  v3 := Tryz.zeroValue3
  t4 := Tryz.underlying4
  a4 := Tryz.isAgg4
  z4 := Tryz.sizeOf4
  v4 := Tryz.zeroValue4
  t5 := Tryz.underlying5
  a5 := Tryz.isAgg5
  z5 := Tryz.sizeOf5
  v5 := Tryz.zeroValue5
  t9 := Tryz.underlying9
  a9 := Tryz.isAgg9
  z9 := Tryz.sizeOf9
  v9 := Tryz.zeroValue9
  t46 := Tryz.underlying151
  a46 := Tryz.isAgg151
  z46 := Tryz.sizeOf151
  v46 := Tryz.zeroValue151
  t51 := Tryz.underlying165
  a51 := Tryz.isAgg165
  z51 := Tryz.sizeOf165
  v51 := Tryz.zeroValue165
  t146 := Tryz.underlying195
  a146 := Tryz.isAgg195
  z146 := Tryz.sizeOf195
  v146 := Tryz.zeroValue195
  g1 := by kernel_rfl }
def YtjjehnbebcfhpaaGreatDoorStr.lays143_ren : Go.Shelf.Ren := ⟨fun | 143 => 159 | 219 => 180 | 217 => 193 | 225 => 194 | 224 => 195 | 267 => 196 | 266 => 201 | 314 => 202 | n => n, fun | 9 => 9 | 3 => 3 | 4 => 4 | 5 => 5 | 46 => 151 | 146 => 195 | 51 => 165 | n => n, fun | 1 => 1 | n => n⟩
theorem YtjjehnbebcfhpaaGreatDoorStr.lays143 : Go.Proofs.Lays.n143 Tryz.prog YtjjehnbebcfhpaaGreatDoorStr.lays143_ren := {
  mixed := by kernel_rfl
  f143 := Tryz.func159.trans (congrArg some (by kernel_rfl))
  f217 := Tryz.func193.trans (congrArg some (by kernel_rfl))
  f219 := Tryz.func180.trans (congrArg some (by kernel_rfl))
  f224 := Tryz.func195.trans (congrArg some (by kernel_rfl))
  f225 := Tryz.func194.trans (congrArg some (by kernel_rfl))
  f266 := Tryz.func201.trans (congrArg some (by kernel_rfl))
  f267 := Tryz.func196.trans (congrArg some (by kernel_rfl))
  f314 := Tryz.func202.trans (congrArg some (by kernel_rfl))
  t3 := Tryz.underlying3
  a3 := Tryz.isAgg3
  z3 := Tryz.sizeOf3
  v3 := Tryz.zeroValue3
  t4 := Tryz.underlying4
  a4 := Tryz.isAgg4
  z4 := Tryz.sizeOf4
  v4 := Tryz.zeroValue4
  t5 := Tryz.underlying5
  a5 := Tryz.isAgg5
  z5 := Tryz.sizeOf5
  v5 := Tryz.zeroValue5
  t9 := Tryz.underlying9
  a9 := Tryz.isAgg9
  z9 := Tryz.sizeOf9
  v9 := Tryz.zeroValue9
  t46 := Tryz.underlying151
  a46 := Tryz.isAgg151
  z46 := Tryz.sizeOf151
  v46 := Tryz.zeroValue151
  t51 := Tryz.underlying165
  a51 := Tryz.isAgg165
  z51 := Tryz.sizeOf165
  v51 := Tryz.zeroValue165
  t146 := Tryz.underlying195
  a146 := Tryz.isAgg195
  z146 := Tryz.sizeOf195
  v146 := Tryz.zeroValue195
  g1 := by kernel_rfl }
end Go.Proofs
namespace Go.Bee.C23
open Go Go.Bee Go.Proofs Go.Bee.Ty
theorem slStr : SlT Tryz.prog 22 9 1 16 := ⟨_, _, ty22, rfl, ty9, rfl, rfl, rfl, by decide⟩
theorem strT : StrT Tryz.prog 9 := ⟨_, ty9, rfl⟩
theorem one_str (s : List UInt8) : evBuildSlice Tryz.prog 22 1 [(0, .d (.str s))] = some (.own 9 1 [.str s]) := slStr.build1 _ _ rfl rfl (by decide)
end Go.Bee.C23
namespace Go.Bee.C23s
open Go.Bee.C23
theorem tys : type_of% (And.intro Go.Bee.Ty.tys (And.intro strT.facts (And.intro one_str slStr.facts))) := And.intro Go.Bee.Ty.tys (And.intro strT.facts (And.intro one_str slStr.facts))
end Go.Bee.C23s
namespace Go.Bee.C23s
open Go Go.Bee Go.Proofs Go.Bee.Ty Go.Bee.C23
set_option linter.unusedVariables false
set_option maxRecDepth 20000
attribute [local irreducible] Go.Bee.bwp
/-- The first place, from k on, whose item has p. -/
def idx {α : Type} (p : α → Bool) : List α → Nat → Int
  | [], _ => -1
  | a :: l, k => if p a = true then k else idx p l (k + 1)
theorem idx_step {α : Type} {p : α → Bool} {l : List α} {k : Nat} (hk : k < l.length) : idx p (l.drop k) k = if p l[k] = true then (k : Int) else idx p (l.drop (k + 1)) (k + 1) := by
  rw [List.drop_eq_getElem_cons hk]; rfl
theorem idx_any {α : Type} (p : α → Bool) : ∀ (l : List α) (k : Nat), decide (idx p l k ≥ 0) = l.any p
  | [], k => rfl
  | a :: l, k => by
    unfold idx
    by_cases h : p a = true
    · rw [if_pos h, List.any_cons, h]; simp
    · rw [if_neg h, List.any_cons, idx_any p l (k + 1)]; simp at h; simp [h]
theorem idx_find {α : Type} (p : α → Bool) : ∀ (l : List α) (k : Nat), (idx p l k = -1 ∧ l.find? p = none) ∨ ∃ i : Nat, idx p l k = ((k + i : Nat) : Int) ∧ i < l.length ∧ l[i]? = l.find? p
  | [], k => .inl ⟨rfl, rfl⟩
  | a :: l, k => by
    unfold idx
    by_cases h : p a = true
    · rw [if_pos h]
      exact .inr ⟨0, rfl, by simp, by simp [h]⟩
    · rw [if_neg h]
      rcases idx_find p l (k + 1) with ⟨e1, e2⟩ | ⟨i, e1, e2, e3⟩
      · exact .inl ⟨e1, by simp [h, e2]⟩
      · exact .inr ⟨i + 1, by rw [e1]; congr 1; omega, by simp; omega, by simp [h, e3]⟩
theorem indexStr_b (l : List (List UInt8)) (s : List UInt8) : BRet Tryz.prog 119 [] [.d (.sl 1 (l.map .str)), .str s] (.int (idx (fun x => s == x) l 0)) [] := by
  refine BRet.len 0 (by kernel_rfl) rfl fun hl => ?_
  refine bof Tryz.func119 ?_
  simp only [List.length_map] at hl
  generalize hr : idx (fun x => s == x) l 0 = r
  refine bgo ?_
  refine b_loop (fun n st => ∃ k : Nat, n = l.length - k ∧ k ≤ l.length ∧ st.tm 0 = .d (.sl 1 (l.map .str)) ∧ st.tm 1 = .str s ∧ st.tm 7 = .int l.length ∧ st.tm 8 = .int k ∧ idx (fun x => s == x) (l.drop k) k = r ∧ ∀ b, st.bx b = none) l.length ⟨0, rfl, Nat.zero_le _, rfl, rfl, rfl, rfl, hr, bxOf_nil⟩ ?_
  clear hr
  rintro n st ⟨k, rfl, hk, t0, t1, t7, t8, hj, hb⟩
  by_cases hlt : k < l.length
  · have hx : l[k]? = some l[k] := List.getElem?_eq_getElem hlt
    refine bgo ?_
    rw [idx_step hlt] at hj
    refine ⟨?_, ?_⟩ <;> intro h
    · rw [if_pos (by simpa using h)] at hj; rw [← hj]
    · rw [if_neg (by simpa using h)] at hj
      exact ⟨_, _, Weak.refl _, by omega, k + 1, rfl, hlt, t0, t1, t7, rfl, hj, hb⟩
  · have hk' : k = l.length := by omega
    subst hk'
    refine bgo ?_
    refine wk_rfl ?_
    refine bgo ?_
    rw [List.drop_length] at hj
    rw [← hj]; rfl
theorem containsStr_b (l : List (List UInt8)) (s : List UInt8) : BRet Tryz.prog 86 [] [.d (.sl 1 (l.map .str)), .str s] (.bool (l.contains s)) [] := by
  refine bof Tryz.func86 ?_
  refine bgo ?_
  refine b_call (indexStr_b l s) rfl rfl rfl rfl ?_
  refine bgo ?_
  rw [List.contains_eq_any_beq, ← idx_any _ l 0]
def inB (n a b : Int) : Bool := decide (n ≥ a) && decide (n ≤ b)
theorem within_b (n a b : Int) : BRet Tryz.prog 27 [] [.int n, .int a, .int b] (.bool (inB n a b)) [] := by
  refine bof Tryz.func27 ?_
  refine bgo ?_
  refine ⟨fun h => ?_, fun h => ?_⟩ <;> simp [inB] <;> omega
theorem l1In_b (n a b : Int) : BRet Tryz.prog 22 [] [.int n, .int a, .int b] (.bool (inB n a b)) [] := by
  refine bof Tryz.func22 ?_
  refine bgo ?_
  refine ⟨fun h => ?_, fun h => ?_⟩ <;> simp [inB] <;> omega
def sg (b : UInt8) : Bool := inB b.toNat 97 122 || inB b.toNat 48 57
theorem l5Sign_b (b : UInt8) : BRet Tryz.prog 125 [] [.d (.int .u8 b.toNat)] (.bool (sg b)) [] := by
  refine bof Tryz.func125 ?_
  refine bgo ?_
  by_cases h1 : (b.toNat : Int) ≥ 97 <;> by_cases h2 : (b.toNat : Int) ≤ 122 <;> by_cases h3 : (b.toNat : Int) ≥ 48 <;> by_cases h4 : (b.toNat : Int) ≤ 57 <;> simp_all [sg, inB] <;> omega
def words : List (List UInt8) := [[116, 114, 117, 101], [102, 114, 111, 109], [110, 111, 116], [97, 110, 100], [111, 114], [98, 111, 116, 104], [101, 105, 116, 104, 101, 114], [105, 116], [105, 110]]
def headOk : List UInt8 → Bool
  | [] => false
  | a :: _ => inB a.toNat 97 122
def vName (s : List UInt8) : Bool := inB s.length 1 8 && headOk s && s.all sg && !words.contains s
theorem l5Name_b (s : List UInt8) : BRet Tryz.prog 93 [] [.str s] (.bool (vName s)) [] := by
  refine BRet.slen 0 (by kernel_rfl) rfl fun hl => ?_
  refine bof Tryz.func93 ?_
  refine bgo ?_
  refine b_call (l1In_b _ _ _) rfl rfl rfl rfl ?_
  cases hw : inB s.length 1 8
  · refine bgo ?_
    simp [vName, hw]
  · obtain ⟨a, tl, rfl⟩ : ∃ a tl, s = a :: tl := by
      cases s with
      | nil => simp [inB] at hw
      | cons a tl => exact ⟨a, tl, rfl⟩
    have h0 : (a :: tl)[0]? = some a := rfl
    refine bgo ?_
    refine ⟨fun h1 => ⟨fun h2 => ?_, fun h2 => ?_⟩, fun h1 => ?_⟩
    · have : headOk (a :: tl) = false := by simp [headOk, inB]; omega
      simp [vName, this]
    · have hh : headOk (a :: tl) = true := by simp [headOk, inB]; omega
      clear h0 h1 h2
      generalize a :: tl = s at *
      refine b_loop (fun n st => ∃ k : Nat, n = s.length - k ∧ k ≤ s.length ∧ st.tm 0 = .str s ∧ st.tm 3 = .int k ∧ (s.take k).all sg = true ∧ ∀ b, st.bx b = none) s.length ⟨0, rfl, Nat.zero_le _, rfl, rfl, rfl, bxOf_nil⟩ ?_
      rintro n st ⟨k, rfl, hk, t0, t3, hj, hb⟩
      by_cases hlt : k < s.length
      · have hx : s[k]? = some s[k] := List.getElem?_eq_getElem hlt
        refine bgo ?_
        refine b_call (l5Sign_b s[k]) rfl rfl rfl rfl ?_
        cases hs : sg s[k]
        · refine bgo ?_
          have : s.all sg = false := by
            cases h : s.all sg
            · rfl
            · rw [List.all_eq_true.1 h _ (List.getElem_mem hlt)] at hs; cases hs
          simp [vName, this]
        · refine bgo ?_
          refine ⟨_, _, Weak.refl _, by omega, k + 1, rfl, hlt, t0, rfl, ?_, hb⟩
          rw [List.take_succ_eq_append_getElem hlt, List.all_append, hj]; simp [hs]
      · have hk' : k = s.length := by omega
        subst hk'
        rw [List.take_length] at hj
        have hv : vName s = !words.contains s := by simp [vName, hw, hh, hj]
        rw [hv]
        clear hv hj hw hh
        refine bgo ?_
        refine wk_rfl ?_
        refine bgo ?_
        refine ⟨fun _ => rfl, fun h1 => ⟨fun _ => rfl, fun h2 => ⟨fun _ => rfl, fun h3 => ⟨fun _ => rfl, fun h4 => ⟨fun _ => rfl, fun h5 => ⟨fun _ => rfl, fun h6 => ⟨fun _ => rfl, fun h7 => ⟨fun _ => rfl, fun h8 => ⟨fun _ => rfl, fun h9 => ?_⟩⟩⟩⟩⟩⟩⟩⟩⟩
        simp [words, h1, h2, h3, h4, h5, h6, h7, h8, h9]
    · have : headOk (a :: tl) = false := by simp [headOk, inB]; omega
      simp [vName, this]
theorem l5Has_b (l : List (List UInt8)) (s : List UInt8) : BRet Tryz.prog 75 [] [.d (.sl 1 (l.map .str)), .str s] (.bool (l.contains s)) [] := by
  refine BRet.len 0 (by kernel_rfl) rfl fun hl => ?_
  refine bof Tryz.func75 ?_
  simp only [List.length_map] at hl
  generalize hr : l.contains s = r
  refine bgo ?_
  refine b_loop (fun n st => ∃ k : Nat, n = l.length - k ∧ k ≤ l.length ∧ st.tm 0 = .d (.sl 1 (l.map .str)) ∧ st.tm 1 = .str s ∧ st.tm 5 = .int k ∧ (l.drop k).contains s = r ∧ ∀ b, st.bx b = none) l.length ⟨0, rfl, Nat.zero_le _, rfl, rfl, rfl, hr, bxOf_nil⟩ ?_
  clear hr
  rintro n st ⟨k, rfl, hk, t0, t1, t5, hj, hb⟩
  by_cases hlt : k < l.length
  · have hx : l[k]? = some l[k] := List.getElem?_eq_getElem hlt
    rw [List.drop_eq_getElem_cons hlt, List.contains_cons] at hj
    refine bgo ?_
    refine ⟨fun h => ?_, fun h => ⟨_, _, Weak.refl _, by omega, k + 1, rfl, hlt, t0, t1, rfl, ?_, hb⟩⟩
    · rw [← hj, h]; simp
    · rw [← hj]
      have : (s == l[k]) = false := by simpa using fun e => h e.symm
      rw [this]; rfl
  · have hk' : k = l.length := by omega
    subst hk'
    refine bgo ?_
    refine wk_rfl ?_
    refine bgo ?_
    rw [List.drop_length] at hj
    rw [← hj]; rfl
/-- A function of two texts that leaves memory as it is. -/
theorem BRet.ss {f : Nat} {a b : List UInt8} {n : Int} (hf : isFn Tryz.prog f = true) (h : ∀ w, Calls Tryz.prog f #[.string ⟨a.toArray⟩, .string ⟨b.toArray⟩] w fun e w' => e = .returned (.int .i64 n) ∧ w' = w) : BRet Tryz.prog f [] [.str a, .str b] (.int n) [] := by
  refine BRet.pure hf rfl fun G w vs hvs hargs hp ho hl hz _ => ?_
  have hv2 : vs.size = 2 := hvs
  have h0 := hargs 0 _ vs[0] rfl (Array.getElem?_eq_getElem (by omega))
  have h1 := hargs 1 _ vs[1] rfl (Array.getElem?_eq_getElem (by omega))
  have hv : vs = #[.string ⟨a.toArray⟩, .string ⟨b.toArray⟩] := by
    apply Array.ext
    · simpa using hvs
    · intro i hi hj
      have : i = 0 ∨ i = 1 := by simp at hj; omega
      rcases this with rfl | rfl
      · obtain ⟨h0, -⟩ := h0; generalize vs[0] = v at h0; cases h0; rfl
      · obtain ⟨h1, -⟩ := h1; generalize vs[1] = v at h1; cases h1; rfl
  rw [hv]
  refine (h w).mono ?_
  rintro e w' ⟨rfl, rfl⟩
  exact ⟨_, G, rfl, ⟨.int _ _, rfl⟩, hp, Ext.refl _ _ _, fun _ => rfl, fun g p hg => by rw [ho g] at hg; cases hg⟩
theorem count1_b (s : List UInt8) (c : UInt8) : BRet Tryz.prog 158 [] [.str s, .str [c]] (.int (Lib.countByte s c)) [] :=
  BRet.ss (by kernel_rfl) fun w => Any.strings_Count_one YtjjehnbebcfhpaaGreatDoorStr.lays138 ⟨s.toArray⟩ c w
theorem index1_b (s : List UInt8) (c : UInt8) : BRet Tryz.prog 159 [] [.str s, .str [c]] (.int (Lib.indexByte s c)) [] :=
  BRet.ss (by kernel_rfl) fun w => Any.strings_Index_one YtjjehnbebcfhpaaGreatDoorStr.lays143 ⟨s.toArray⟩ c w
/-- A text cut at each c. -/
def splitC (c : UInt8) : List UInt8 → List (List UInt8)
  | [] => [[]]
  | a :: l => if a = c then [] :: splitC c l else match splitC c l with | h :: t => (a :: h) :: t | [] => [[a]]
theorem splitC_ne (c : UInt8) : ∀ s, splitC c s ≠ []
  | [] => by simp [splitC]
  | a :: l => by
    unfold splitC
    split
    · simp
    · split <;> simp
theorem splitC_c (c a : UInt8) (l : List UInt8) : splitC c (a :: l) = if a = c then [] :: splitC c l else match splitC c l with | h :: t => (a :: h) :: t | [] => [[a]] := rfl
theorem splitC_idx (c : UInt8) : ∀ s, (Lib.indexByte s c = -1 ∧ splitC c s = [s]) ∨ ∃ m : Nat, Lib.indexByte s c = m ∧ m < s.length ∧ splitC c s = s.take m :: splitC c (s.drop (m + 1))
  | [] => .inl ⟨rfl, rfl⟩
  | a :: l => by
    rw [splitC_c]
    unfold Lib.indexByte
    by_cases h : a = c
    · subst h
      exact .inr ⟨0, by simp, by simp, by simp⟩
    · rw [if_neg (by simpa using h), if_neg h]
      rcases splitC_idx c l with ⟨h1, h2⟩ | ⟨m, h1, h2, h3⟩
      · exact .inl ⟨by rw [h1]; rfl, by rw [h2]⟩
      · refine .inr ⟨m + 1, ?_, by simp; omega, by rw [h3]; rfl⟩
        have : ((m : Int) == -1) = false := by simp
        rw [h1, this]; rfl
theorem splitC_len (c : UInt8) : ∀ s, (splitC c s).length = Lib.countByte s c + 1
  | [] => rfl
  | a :: l => by
    have ih := splitC_len c l
    have hne := splitC_ne c l
    rw [splitC_c]
    by_cases h : a = c
    · subst h; simp [Lib.countByte] at ih ⊢; omega
    · rw [if_neg h]
      have h2 : Lib.countByte (a :: l) c = Lib.countByte l c := by simp [Lib.countByte, h]
      rw [h2, ← ih]
      generalize splitC c l = q at *
      cases q
      · exact absurd rfl hne
      · rfl
theorem count_le (s : List UInt8) (c : UInt8) : Lib.countByte s c ≤ s.length := List.count_le_length
def str0 : List PV := [.d (.str [])]
theorem genSplit_b (s : List UInt8) (c : UInt8) (hl : s.length ≤ 1048576) : BRet Tryz.prog 148 [] [.str s, .str [c], .int 0, .int (-1)] (.own 9 1 ((splitC c s).map .str)) [] := by
  refine bofW Tryz.func148 ?_
  refine bgo ?_
  refine b_call (count1_b s c) rfl rfl rfl rfl ?_
  have hc := count_le s c
  have hn := splitC_len c s
  have hps : ∃ ps, splitC c s = ps := ⟨_, rfl⟩
  obtain ⟨ps, hps⟩ := hps
  rw [hps] at hn
  generalize Lib.countByte s c = n at *
  have hmin : min ((n : Int) + 1) ((s.length : Int) + 1) = ((n + 1 : Nat) : Int) := by omega
  have hl2 : (n : Int) + 1 ≤ (s.length : Int) + 1 := by omega
  refine bgo ?_
  refine ⟨by omega, by omega, ?_⟩
  have hok := fun n k L => filling_ok (l := ps.map .str) (zero := str0) (fun _ => rfl) n k L
  refine b_lp (ι := Nat × List UInt8) (fun i => [(0, .str i.2), (1, .str [c]), (2, .int 0), (3, .int n), (9, .rsl (.t 31) 9 1 (n + 1)), (10, .int i.1)]) (fun i => [(.t 31, filling (ps.map .str) str0 (n + 1) i.1)])
    (fun i => i.1 ≤ n ∧ ps.drop i.1 = splitC c i.2 ∧ i.2.length ≤ 1048576) (fun i => n - i.1) (0, s) ⟨hsT, ⟨_, rfl, HasC.of rfl (hok _ _ _)⟩, trivial⟩ ⟨Nat.zero_le _, hps.symm, hl⟩ ?_
  rintro ⟨k, r⟩ ⟨hk, hd, hr⟩ I nx
  dsimp only at hk hd hr ⊢
  have hkp : k < ps.length := by omega
  have hk1 : k < n + 1 := by omega
  have hfl := filling_len (l := ps.map .str) (zero := str0) (n := n + 1) (k := k) (sz := 1) rfl (fun x hx => by obtain ⟨y, _, rfl⟩ := List.mem_map.1 hx; rfl) (by simpa using hn) (by omega)
  have hfs := filling_step (l := ps.map .str) (zero := str0) (n := n + 1) (k := k) (sz := 1) rfl (fun x hx => by obtain ⟨y, _, rfl⟩ := List.mem_map.1 hx; rfl) (by simpa using hn) (by simpa using hkp)
  have hfb : (filling (ps.map .str) str0 (n + 1) (k + 1)).map PV.bC = filling (ps.map .str) str0 (n + 1) (k + 1) := filling_bC rfl
  rw [List.drop_eq_getElem_cons hkp] at hd
  by_cases hlt : k < n
  · rcases splitC_idx c r with ⟨h1, h2⟩ | ⟨m, h1, h2, h3⟩
    · rw [h2] at hd
      have := congrArg List.length (List.cons.inj hd).2
      simp at this; omega
    · rw [h3] at hd
      obtain ⟨hd1, hd2⟩ := List.cons.inj hd
      have hm1 : m + 1 ≤ r.length := h2
      have hm0 : m ≤ r.length := by omega
      clear hd h3 hps hmin hl2
      refine bgo ?_
      refine b_call (index1_b r c) rfl rfl rfl rfl ?_
      rw [h1]
      refine bgo ?_
      refine ⟨by omega, nx.go (k + 1, r.drop (m + 1)) ⟨hlt, hd2, by simp; omega⟩ (by dsimp only; omega) ⟨hsT, ⟨_, rfl, HasC.of ?_ (hok _ _ _)⟩, trivial⟩⟩
      rw [← hfs]
      simp [hd1, PD.cells]
  · have hkn : k = n := by omega
    subst hkn
    have hd0 : ps[k] = r := by
      rcases splitC_idx c r with ⟨h1, h2⟩ | ⟨m, h1, h2, h3⟩
      · rw [h2] at hd; exact (List.cons.inj hd).1
      · rw [h3] at hd
        have h4 := congrArg List.length (List.cons.inj hd).2
        have := splitC_ne c (r.drop (m + 1))
        rw [List.length_drop, hn, Nat.sub_self] at h4
        exact absurd (List.length_eq_zero_iff.1 h4.symm) this
    clear hd hps
    refine bgo ?_
    refine wk_rfl ?_
    refine bgo ?_
    refine ⟨by omega, ?_⟩
    have hcl : List.take (k * 1) (filling (ps.map .str) str0 (k + 1) k) ++ [PV.str r] ++ List.drop (k * 1 + 1) (filling (ps.map .str) str0 (k + 1) k) = (flat (ps.map .str)).map .d := by
      have := filling_n (ps.map .str) str0
      simp only [List.length_map, hn] at this
      rw [← this, ← hfs]
      simp [hd0, PD.cells]
    refine wk_fz 8 (.t 31) 9 1 (k + 1) (ps.map .str) [] [] ⟨hsT, ⟨_, rfl, HasC.of hcl ?_⟩, trivial⟩ (by simpa using hn) (fun x hx => by obtain ⟨y, _, rfl⟩ := List.mem_map.1 hx; rfl) ?_
    · simp [okC]
    refine bgo ?_
    trivial
theorem split_b (s : List UInt8) (c : UInt8) (hl : s.length ≤ 1048576) : BRet Tryz.prog 131 [] [.str s, .str [c]] (.own 9 1 ((splitC c s).map .str)) [] := by
  refine bof Tryz.func131 ?_
  refine bgo ?_
  refine b_call (genSplit_b s c hl) rfl rfl rfl rfl ?_
  refine bgo ?_
  trivial
def wordsT : List UInt8 := [116, 114, 117, 101, 32, 102, 114, 111, 109, 32, 110, 111, 116, 32, 97, 110, 100, 32, 111, 114, 32, 98, 111, 116, 104, 32, 101, 105, 116, 104, 101, 114, 32, 105, 116, 32, 105, 110]
theorem words_eq : splitC 32 wordsT = words := by decide
theorem all_take {s : List UInt8} {k : Nat} (hlt : k < s.length) (hj : (s.take k).all sg = true) (h : sg s[k] = true) : (s.take (k + 1)).all sg = true := by
  rw [List.take_succ_eq_append_getElem hlt, List.all_append, hj]; simp [h]
theorem sg_bad {s : List UInt8} {k : Nat} (hlt : k < s.length) (h : sg s[k] = false) : vName s = false := by
  have : s.all sg = false := by
    cases e : s.all sg
    · rfl
    · rw [List.all_eq_true.1 e _ (List.getElem_mem hlt)] at h; cases h
  simp [vName, this]
theorem IsValidName_b (s : List UInt8) : BRet Tryz.prog 99 [] [.str s] (.bool (vName s)) [] := by
  refine BRet.slen 0 (by kernel_rfl) rfl fun hl => ?_
  refine bof Tryz.func99 ?_
  refine bgo ?_
  refine b_call (within_b _ _ _) rfl rfl rfl rfl ?_
  cases hw : inB s.length 1 8
  · have hv : vName s = false := by simp [vName, hw]
    rw [hv]
    refine bgo ?_
    trivial
  · obtain ⟨a, tl, rfl⟩ : ∃ a tl, s = a :: tl := by
      cases s with
      | nil => simp [inB] at hw
      | cons a tl => exact ⟨a, tl, rfl⟩
    have h0 : (a :: tl)[0]? = some a := rfl
    have hbad : headOk (a :: tl) = false → vName (a :: tl) = false := fun h => by simp [vName, h]
    have hgood : headOk (a :: tl) = true → (a :: tl).all sg = true → vName (a :: tl) = !words.contains (a :: tl) := fun h h2 => by unfold vName; rw [hw, h, h2]; rfl
    have hhd : headOk (a :: tl) = (decide ((a.toNat : Int) ≥ 97) && decide ((a.toNat : Int) ≤ 122)) := rfl
    generalize headOk (a :: tl) = hh at *
    generalize a :: tl = s at *
    by_cases h1 : (a.toNat : Int) < 97
    · rw [hbad (by rw [hhd]; simp; omega)]
      refine bgo ?_
      trivial
    by_cases h2 : (a.toNat : Int) > 122
    · rw [hbad (by rw [hhd]; simp; omega)]
      refine bgo ?_
      trivial
    have hv := hgood (by rw [hhd]; simp; omega)
    have hbad2 : ∀ k (hlt : k < s.length), sg s[k] = false → vName s = false := fun k hlt h => sg_bad hlt h
    clear hgood hbad hhd
    refine bgo ?_
    generalize vName s = r at *
    refine b_lp (ι := Nat) (fun k => [(0, .str s), (20, .int s.length), (21, .int k)]) (fun _ => []) (fun k => k ≤ s.length ∧ (s.take k).all sg = true) (fun k => s.length - k) 0 hs ⟨Nat.zero_le _, rfl⟩ ?_
    clear h0 h1 h2 hw
    rintro k ⟨hk, hj⟩ I nx
    by_cases hlt : k < s.length
    · have hx : s[k]? = some s[k] := List.getElem?_eq_getElem hlt
      cases hs0 : sg s[k]
      · rw [hbad2 k hlt hs0] at *
        have e : ¬ ((97 : Int) ≤ s[k].toNat ∧ (s[k].toNat : Int) ≤ 122) ∧ ¬ ((48 : Int) ≤ s[k].toNat ∧ (s[k].toNat : Int) ≤ 57) := by
          simp [sg, inB] at hs0; omega
        clear hbad2 hv hj
        refine bgo ?_
        repeat' first | intro _ | apply And.intro
        all_goals (exfalso; omega)
      · have e : ((97 : Int) ≤ s[k].toNat ∧ (s[k].toNat : Int) ≤ 122) ∨ ((48 : Int) ≤ s[k].toNat ∧ (s[k].toNat : Int) ≤ 57) := by
          simp [sg, inB] at hs0; omega
        have hj2 := all_take hlt hj hs0
        clear hbad2 hv hj
        refine bgo ?_
        repeat' first | intro _ | apply And.intro
        all_goals first | (exfalso; omega) | exact nx.go (k + 1) ⟨hlt, hj2⟩ (by omega) hs
    · have hk' : k = s.length := by omega
      subst hk'
      rw [List.take_length] at hj
      have hv2 := hv hj
      clear hbad2 hj hv
      subst hv2
      refine bgo ?_
      refine wk_rfl ?_
      refine bgo ?_
      refine b_call (split_b wordsT 32 (by decide)) rfl rfl rfl rfl ?_
      refine bgo ?_
      refine b_call (containsStr_b _ _) rfl rfl rfl rfl ?_
      rw [words_eq]
      refine bgo ?_
      trivial
end Go.Bee.C23s

/-
Days, their dates and their texts, as numbers. No condition.
-/
namespace Go.Bee.Da
open Go
set_option linter.unusedVariables false
def mlen (y m : Int) : Int := if m = 2 then (if y.tmod 4 = 0 then 29 else 28) else if m = 4 ∨ m = 6 ∨ m = 9 ∨ m = 11 then 30 else 31
def ylen (y : Int) : Int := 337 + mlen y 2
def ycum (k : Int) : Int := 365 * k + (k + 3).tdiv 4
def mcum (y : Int) : Nat → Int
  | 0 => 0
  | n + 1 => mcum y n + mlen y ((n : Int) + 1)
theorem mlen_in (y m : Int) : 28 ≤ mlen y m ∧ mlen y m ≤ 31 := by
  unfold mlen
  split
  · split <;> omega
  · split <;> omega
theorem mlen2 (y : Int) (h : 0 ≤ y) : mlen y 2 = if y % 4 = 0 then 29 else 28 := by
  unfold mlen
  rw [if_pos rfl, Int.tmod_eq_emod_of_nonneg h]
theorem ylen_in (y : Int) : 365 ≤ ylen y ∧ ylen y ≤ 366 := by
  unfold ylen mlen
  rw [if_pos rfl]
  split <;> omega
theorem ycum_eq (k : Nat) : ycum k = 365 * k + ((k + 3) / 4 : Int) := by
  unfold ycum
  rw [Int.tdiv_eq_ediv_of_nonneg (by omega)]
theorem ycum_succ (k : Nat) : ycum ((k : Int) + 1) = ycum k + ylen (2000 + k) := by
  have h := ycum_eq (k + 1)
  rw [show (((k + 1 : Nat)) : Int) = (k : Int) + 1 by omega] at h
  rw [h, ycum_eq, ylen, mlen2 _ (by omega)]
  split <;> omega
theorem ycum_lt {k : Nat} {r day : Int} (h : day = ycum k + r) (hr : 0 ≤ r) (hd : day ≤ 36524) : k ≤ 99 := by
  rw [ycum_eq] at h
  omega
theorem mcum_ylen (y : Int) : mcum y 12 = ylen y := by
  have e : mlen y 1 = 31 ∧ mlen y 3 = 31 ∧ mlen y 4 = 30 ∧ mlen y 5 = 31 ∧ mlen y 6 = 30 ∧ mlen y 7 = 31 ∧ mlen y 8 = 31 ∧ mlen y 9 = 30 ∧ mlen y 10 = 31 ∧ mlen y 11 = 30 ∧ mlen y 12 = 31 := by simp [mlen]
  show 0 + mlen y 1 + mlen y 2 + mlen y 3 + mlen y 4 + mlen y 5 + mlen y 6 + mlen y 7 + mlen y 8 + mlen y 9 + mlen y 10 + mlen y 11 + mlen y 12 = 337 + mlen y 2
  omega
/-- The years that have gone by, and the days that are left. -/
def yF : Nat → Nat → Int → Nat × Int
  | 0, k, r => (k, r)
  | n + 1, k, r => if r ≥ ylen (2000 + k) then yF n (k + 1) (r - ylen (2000 + k)) else (k, r)
def mF (y : Int) : Nat → Nat → Int → Nat × Int
  | 0, m, r => (m, r)
  | n + 1, m, r => if r ≥ mlen y m then mF y n (m + 1) (r - mlen y m) else (m, r)
theorem yF_in (day : Int) (hd : day ≤ 36524) : ∀ (n k : Nat) (r : Int), day = ycum k + r → 0 ≤ r → k + n = 100 → (yF n k r).1 ≤ 99 ∧ day = ycum (yF n k r).1 + (yF n k r).2 ∧ 0 ≤ (yF n k r).2 ∧ (yF n k r).2 < ylen (2000 + (yF n k r).1)
  | 0, k, r, h, h0, hk => by have := ycum_lt h h0 hd; omega
  | n + 1, k, r, h, h0, hk => by
    unfold yF
    split
    · rename_i hr
      exact yF_in day hd n (k + 1) _ (by rw [show (((k + 1 : Nat)) : Int) = (k : Int) + 1 by omega, ycum_succ]; omega) (by omega) (by omega)
    · rename_i hr
      exact ⟨by omega, h, h0, by dsimp only; omega⟩
theorem mF_in (y : Int) (t : Int) (ht : t < ylen y) : ∀ (n m : Nat) (r : Int), t = mcum y m + r → 0 ≤ r → m + n = 12 → (mF y n (m + 1) r).1 ≤ 12 ∧ 1 ≤ (mF y n (m + 1) r).1 ∧ 0 ≤ (mF y n (m + 1) r).2 ∧ (mF y n (m + 1) r).2 ≤ 30
  | 0, m, r, h, h0, hm => by
    obtain rfl : m = 12 := by omega
    rw [mcum_ylen] at h
    omega
  | n + 1, m, r, h, h0, hm => by
    unfold mF
    split
    · rename_i hr
      exact mF_in y t ht n (m + 1) _ (by simp only [mcum]; rw [show (((m + 1 : Nat)) : Int) = (m : Int) + 1 by omega]; omega) (by omega) (by omega)
    · rename_i hr
      have := mlen_in y ((m + 1 : Nat) : Int)
      exact ⟨by omega, by omega, h0, by dsimp only; omega⟩
def yrF (day : Int) : Nat × Int := yF 100 0 day
def moF (day : Int) : Nat × Int := mF (2000 + (yrF day).1) 12 1 (yrF day).2
structure Dt where (y : Int) (m : Int) (d : Int) deriving DecidableEq
def dateF (day : Int) : Dt := ⟨2000 + (yrF day).1, (moF day).1, (moF day).2 + 1⟩
theorem dateF_in {day : Int} (h0 : 0 ≤ day) (h1 : day ≤ 36524) : 2000 ≤ (dateF day).y ∧ (dateF day).y ≤ 2099 ∧ 1 ≤ (dateF day).m ∧ (dateF day).m ≤ 12 ∧ 1 ≤ (dateF day).d ∧ (dateF day).d ≤ 31 := by
  obtain ⟨a, b, c, d⟩ := yF_in day h1 100 0 day (by rw [ycum_eq 0]; omega) h0 rfl
  have h2 : (moF day).1 ≤ 12 ∧ 1 ≤ (moF day).1 ∧ 0 ≤ (moF day).2 ∧ (moF day).2 ≤ 30 := mF_in (2000 + (yrF day).1) (yrF day).2 d 12 0 (yrF day).2 (by rw [mcum]; omega) c rfl
  have h3 : (yrF day).1 ≤ 99 := a
  unfold dateF
  dsimp only
  omega
/-! Numerals. -/
abbrev Tx := List UInt8
def num (n : Int) : Tx := Lib.decDigits n.toNat
def two (n : Int) : Tx := if n < 10 then 48 :: num n else num n
def padN : Nat → Tx → Tx
  | 0, t => t
  | n + 1, t => if t.length < n + 1 then 48 :: padN n t else t
theorem num_len1 {n : Int} (h0 : 0 ≤ n) (h1 : n < 10) : (num n).length = 1 := by
  unfold num; rw [Lib.decDigits_length, Lib.nDigits, dif_pos (by omega)]
theorem num_len2 {n : Int} (h0 : 10 ≤ n) (h1 : n < 100) : (num n).length = 2 := by
  unfold num; rw [Lib.decDigits_length, Lib.nDigits, dif_neg (by omega), Lib.nDigits, dif_pos (by omega)]
theorem num_len4 {n : Int} (h0 : 1000 ≤ n) (h1 : n < 10000) : (num n).length = 4 := by
  unfold num; rw [Lib.decDigits_length, Lib.nDigits, dif_neg (by omega), Lib.nDigits, dif_neg (by omega), Lib.nDigits, dif_neg (by omega), Lib.nDigits, dif_pos (by omega)]
def dateT (day : Int) : Tx := num (dateF day).y ++ [45] ++ two (dateF day).m ++ [45] ++ two (dateF day).d
def absI (x : Int) : Int := if x < 0 then -x else x
def amtT (x : Int) : Tx := (if x < 0 then [45] else []) ++ num (absI x / 100) ++ [46] ++ two (absI x % 100)
end Go.Bee.Da

/- Numerals, dates, amounts. -/
namespace Go.Proofs
open Go.Shelf
def YtjjehnbebcfhpaaGreatDoorStr.lays171_ren : Go.Shelf.Ren := ⟨fun | 171 => 105 | 243 => 138 | 246 => 153 | 283 => 171 | 284 => 172 | 285 => 173 | 286 => 174 | 129 => 170 | 317 => 187 | 318 => 188 | 319 => 189 | 320 => 190 | 337 => 198 | 338 => 199 | n => n, fun | 3 => 3 | 9 => 9 | 2 => 2 | 4 => 4 | 171 => 168 | 0 => 0 | 53 => 167 | 37 => 170 | 5 => 5 | 173 => 171 | 212 => 186 | 51 => 165 | 20 => 20 | 213 => 187 | 46 => 151 | 232 => 197 | 233 => 198 | n => n, fun | 17 => 0 | 18 => 4 | 19 => 5 | n => n⟩
theorem YtjjehnbebcfhpaaGreatDoorStr.lays171 : Go.Proofs.LaysM.n171 Tryz.prog YtjjehnbebcfhpaaGreatDoorStr.lays171_ren := {
  mixed := by kernel_rfl
  f129 := Tryz.func170.trans (congrArg some (by kernel_rfl))
  f171 := Tryz.func105.trans (congrArg some (by kernel_rfl))
  f243 := Tryz.func138.trans (congrArg some (by kernel_rfl))
  f246 := Tryz.func153.trans (congrArg some (by kernel_rfl))
  f283 := Tryz.func171.trans (congrArg some (by kernel_rfl))
  f284 := Tryz.func172.trans (congrArg some (by kernel_rfl))
  f285 := Tryz.func173.trans (congrArg some (by kernel_rfl))
  f286 := Tryz.func174.trans (congrArg some (by kernel_rfl))
  f317 := Tryz.func187.trans (congrArg some (by kernel_rfl))
  f318 := Tryz.func188.trans (congrArg some (by kernel_rfl))
  f319 := Tryz.func189.trans (congrArg some (by kernel_rfl))
  f320 := Tryz.func190.trans (congrArg some (by kernel_rfl))
  f337 := Tryz.func198.trans (congrArg some (by kernel_rfl))
  f338 := Tryz.func199.trans (congrArg some (by kernel_rfl))
  t0 := Tryz.underlying0
  a0 := Tryz.isAgg0
  z0 := Tryz.sizeOf0
  v0 := Tryz.zeroValue0
  t2 := Tryz.underlying2
  a2 := Tryz.isAgg2
  z2 := Tryz.sizeOf2
  v2 := Tryz.zeroValue2
  t3 := Tryz.underlying3
  a3 := Tryz.isAgg3
  z3 := Tryz.sizeOf3
  v3 := Tryz.zeroValue3
  t4 := Tryz.underlying4
  a4 := Tryz.isAgg4
  z4 := Tryz.sizeOf4
  v4 := Tryz.zeroValue4
  t5 := Tryz.underlying5
  a5 := Tryz.isAgg5
  z5 := Tryz.sizeOf5
  v5 := Tryz.zeroValue5
  t9 := Tryz.underlying9
  a9 := Tryz.isAgg9
  z9 := Tryz.sizeOf9
  v9 := Tryz.zeroValue9
  t20 := Tryz.underlying20
  a20 := Tryz.isAgg20
  z20 := Tryz.sizeOf20
  v20 := Tryz.zeroValue20
  t37 := Tryz.underlying170
  a37 := Tryz.isAgg170
  z37 := Tryz.sizeOf170
  v37 := Tryz.zeroValue170
  t46 := Tryz.underlying151
  a46 := Tryz.isAgg151
  z46 := Tryz.sizeOf151
  v46 := Tryz.zeroValue151
  t51 := Tryz.underlying165
  a51 := Tryz.isAgg165
  z51 := Tryz.sizeOf165
  v51 := Tryz.zeroValue165
  t53 := Tryz.underlying167
  a53 := Tryz.isAgg167
  z53 := Tryz.sizeOf167
  v53 := Tryz.zeroValue167
  t171 := Tryz.underlying168
  a171 := Tryz.isAgg168
  z171 := Tryz.sizeOf168
  v171 := Tryz.zeroValue168
  t173 := Tryz.underlying171
  a173 := Tryz.isAgg171
  z173 := Tryz.sizeOf171
  v173 := Tryz.zeroValue171
  t212 := Tryz.underlying186
  a212 := Tryz.isAgg186
  z212 := Tryz.sizeOf186
  v212 := Tryz.zeroValue186
  t213 := Tryz.underlying187
  a213 := Tryz.isAgg187
  z213 := Tryz.sizeOf187
  t232 := Tryz.underlying197
  a232 := Tryz.isAgg197
  z232 := Tryz.sizeOf197
  v232 := Tryz.zeroValue197
  t233 := Tryz.underlying198
  a233 := Tryz.isAgg198
  z233 := Tryz.sizeOf198
  v233 := Tryz.zeroValue198
  g17 := by kernel_rfl
  g18 := by kernel_rfl
  g19 := by kernel_rfl
  i0 := by kernel_rfl
  i2 := by kernel_rfl
  i3 := by kernel_rfl
  i4 := by kernel_rfl
  i5 := by kernel_rfl
  i9 := by kernel_rfl
  i20 := by kernel_rfl
  i37 := by kernel_rfl
  i46 := by kernel_rfl
  i51 := by kernel_rfl
  i53 := by kernel_rfl
  i171 := by kernel_rfl
  i173 := by kernel_rfl
  i212 := by kernel_rfl
  i232 := by kernel_rfl
  i233 := by kernel_rfl
  m17 := by kernel_rfl
  m18 := by kernel_rfl
  m19 := by kernel_rfl }
end Go.Proofs
namespace Go.Bee.C24
open Go Go.Bee Go.Proofs Go.Bee.Ty
theorem bDt2 : ∀ (a b : Int), evBuild Tryz.prog 135 [(0, .d (.int .i64 a)), (1, .d (.int .i64 b))] = some (.agg [.d (.int .i64 a), .d (.int .i64 b), .d (.int .i64 0)]) := fun a b => by kernel_rfl
theorem bDt3 : ∀ (a b c : Int), evBuild Tryz.prog 135 [(0, .d (.int .i64 a)), (1, .d (.int .i64 b)), (2, .d (.int .i64 c))] = some (.agg [.d (.int .i64 a), .d (.int .i64 b), .d (.int .i64 c)]) := fun a b c => by kernel_rfl
theorem tys : type_of% (And.intro Go.Bee.C23s.tys (And.intro bDt2 bDt3)) := And.intro Go.Bee.C23s.tys (And.intro bDt2 bDt3)
end Go.Bee.C24
namespace Go.Bee.C24
open Go Go.Bee Go.Proofs Go.Bee.Ty Go.Bee.C23 Go.Bee.C23s Go.Bee.Da
set_option linter.unusedVariables false
set_option maxRecDepth 20000
attribute [local irreducible] Go.Bee.bwp
theorem itoa_b (n : Int) (h0 : -9223372036854775808 ≤ n) (h1 : n ≤ 9223372036854775807) : BRet Tryz.prog 105 [] [.int n] (.str (Lib.itoa n)) [] := by
  refine BRet.pure (by kernel_rfl) rfl fun G w vs hvs hargs hp ho hl hz htb => ?_
  have hv0 := hargs 0 _ (vs[0]'(by simp at hvs; omega)) rfl (Array.getElem?_eq_getElem _)
  have hv : vs = #[.int .i64 n] := by
    apply Array.ext (by simpa using hvs)
    intro i hi hj
    obtain rfl : i = 0 := by simp at hj; omega
    obtain ⟨h, -⟩ := hv0; generalize vs[0] = v at h; cases h; rfl
  rw [hv]
  have htab := (htb _ (List.mem_cons_self ..) 0 (by kernel_rfl)).2
  have hlen := Lib.itoa_length_le n h0 h1
  refine (Any.strconv_Itoa YtjjehnbebcfhpaaGreatDoorStr.lays171 n h0 h1 w htab).mono ?_
  rintro e w' ⟨rfl, k, os, rfl⟩
  have hsz : w.heap.size ≤ (Sort.grow (w.drewN k) os).heap.size := by simp [Sort.grow, World.drewN]
  have hold : ∀ g, g < w.heap.size → (Sort.grow (w.drewN k) os).heap[g]? = w.heap[g]? := fun g hg => by
    simp only [Sort.grow, World.drewN]
    rw [Array.getElem?_append_left hg]
  refine ⟨_, G, rfl, ⟨.str _ (by omega), rfl⟩, ⟨fun b cells hc => (by simp [bxOf_nil'] at hc), hp.live, hp.inj, fun g o hg => Nat.lt_of_lt_of_le (hp.imlt g o hg) hsz, fun g p hg => (by rw [ho g] at hg; cases hg), hp.boxim, hp.boxown⟩,
    ⟨rfl, rfl, rfl, hsz, fun b hb _ => hold b hb, fun b o hb => ⟨hb, cell_of_heap (hold b (hp.imlt b o hb)) o⟩, fun b o hb => .inl hb⟩, fun _ => rfl, fun g p hg => (by rw [ho g] at hg; cases hg)⟩
theorem itoaN_b (n : Int) (h0 : 0 ≤ n) (h1 : n ≤ 9223372036854775807) : BRet Tryz.prog 105 [] [.int n] (.str (num n)) [] := by
  have := itoa_b n (by omega) h1
  rwa [show Lib.itoa n = num n by unfold Lib.itoa num; rw [if_neg (by omega)]] at this
/-- Filled up with noughts. -/
def padT (m : Nat) (t : Tx) : Tx := List.replicate (m - t.length) 48 ++ t
theorem padded_b (n : Int) (h0 : 0 ≤ n) (h1 : n ≤ 9223372036854775807) (m : Nat) (hm : m ≤ 100) (hl : (num n).length ≤ 100) : BRet Tryz.prog 107 [] [.int n, .int m] (.str (padT m (num n))) [] := by
  refine bof Tryz.func107 ?_
  have hi := itoaN_b n h0 h1
  unfold padT
  generalize num n = t at *
  obtain ⟨q, hq⟩ : ∃ q : Nat → Tx, q = fun i => List.replicate i 48 ++ t := ⟨_, rfl⟩
  have hq0 : Go.RowKit.Hid (t = q 0) := by rw [hq]; exact rfl
  have hq1 : Go.RowKit.Hid (∀ i, 48 :: q i = q (i + 1)) := fun i => by rw [hq]; exact rfl
  have hql : Go.RowKit.Hid (∀ i, (q i).length = i + t.length) := fun i => by rw [hq]; simp
  rw [show List.replicate (m - t.length) 48 ++ t = q (m - t.length) by rw [hq]]
  clear hq
  refine bgo ?_
  refine b_call hi rfl rfl rfl rfl ?_
  clear hi
  generalize hL : t.length = L at *
  refine bgo ?_
  refine b_lp (ι := Nat × Tx) (fun i => [(1, .int m), (5, .str i.2)]) (fun _ => []) (fun i => i.1 ≤ m - L ∧ i.2 = q i.1) (fun i => m - L - i.1) (0, t) hs ⟨Nat.zero_le _, hq0.out⟩ ?_
  clear hq0
  rintro ⟨i, u⟩ ⟨hi, hu⟩ I nx
  dsimp only at hi hu ⊢
  subst hu
  have hli := hql.out i
  have hc := hq1.out i
  clear hql hq1
  generalize hqu : q i = u at *
  by_cases hlt : (u.length : Int) < m
  · have hub : u.length ≤ 1000 := by omega
    have hlt2 : i + L < m := by omega
    have hub2 : 1 + (i + L) ≤ 140737488355328 := by omega
    refine bgo ?_
    exact nx.go (i + 1, q (i + 1)) ⟨by omega, rfl⟩ (by dsimp only; omega) hs
  · have hi2 : i = m - L := by omega
    subst hi2
    have hlt2 : ¬ (m - L + L < m) := by omega
    refine bgo ?_
    refine wk_rfl ?_
    refine bgo ?_
    trivial
def dgs : Tx := [48, 49, 50, 51, 52, 53, 54, 55, 56, 57]
theorem dgs_at : ∀ m : Nat, m < 10 → (dgs.take (m + 1)).drop m = Lib.decDigits m := fun m h => by
  rw [Lib.decDigits_one h]
  match m, h with
  | 0, _ => rfl
  | 1, _ => rfl
  | 2, _ => rfl
  | 3, _ => rfl
  | 4, _ => rfl
  | 5, _ => rfl
  | 6, _ => rfl
  | 7, _ => rfl
  | 8, _ => rfl
  | 9, _ => rfl
theorem digs_len (m : Nat) (h : m ≤ 9223372036854775807) : (Lib.decDigits m).length ≤ 21 := by
  have := Lib.itoa_length_le (m : Int) (by omega) (by omega)
  rwa [show Lib.itoa (m : Int) = Lib.decDigits m by unfold Lib.itoa; rw [if_neg (by omega)]; simp] at this
theorem l1NumN_b (m : Nat) : m ≤ 9223372036854775806 → BRet Tryz.prog 54 [] [.int (m : Int)] (.str (Lib.decDigits m)) [] := by
  induction m using Nat.strongRecOn with
  | _ m ih =>
    intro hm
    refine bof Tryz.func54 ?_
    have hn : ¬ (m : Int) < 0 := by omega
    have hz : ¬ ((10 : Int) = 0) := by decide
    by_cases h10 : (m : Int) < 10
    · have hd := dgs_at m (by omega)
      have ht : ((m : Int) + 1).toNat = m + 1 := by omega
      have ht2 : ((m : Int)).toNat = m := by omega
      rw [← hd]
      clear hd
      refine bgo ?_
      trivial
    · have hq : (m : Int).tdiv 10 = ((m / 10 : Nat) : Int) := by rw [Int.tdiv_eq_ediv_of_nonneg (by omega)]; omega
      have hr : (m : Int).tmod 10 = ((m % 10 : Nat) : Int) := by rw [Int.tmod_eq_emod_of_nonneg (by omega)]; omega
      have hc := ih (m / 10) (by omega) (by omega)
      have hd := dgs_at (m % 10) (by omega)
      have hlq := digs_len (m / 10) (by omega)
      rw [Lib.decDigits, dif_neg (by omega), ← Lib.decDigits_one (by omega), ← hd]
      have hxl : ((dgs.take (m % 10 + 1)).drop (m % 10)).length ≤ 10 := by rw [List.length_drop, List.length_take]; simp [dgs]; omega
      obtain ⟨x, hx⟩ : ∃ x, List.drop (m % 10) (48 :: List.take (m % 10) ([49, 50, 51, 52, 53, 54, 55, 56, 57] : List UInt8)) = x := ⟨_, rfl⟩
      rw [show (dgs.take (m % 10 + 1)).drop (m % 10) = x from hx] at hxl ⊢
      have hr10 : m % 10 < 10 := by omega
      generalize m % 10 = r at *
      generalize Lib.decDigits (m / 10) = t at *
      have ht : ((r : Int) + 1).toNat = r + 1 := by omega
      have ht2 : ((r : Int)).toNat = r := by omega
      have htx : t.length + x.length ≤ 140737488355328 := by omega
      clear ih hd
      refine bgo ?_
      refine b_call hc rfl rfl rfl rfl ?_
      refine bgo ?_
      trivial
theorem l1Num_b (n : Int) (h0 : 0 ≤ n) (h1 : n ≤ 9223372036854775806) : BRet Tryz.prog 54 [] [.int n] (.str (num n)) [] := by
  have := l1NumN_b n.toNat (by omega)
  rwa [show ((n.toNat : Nat) : Int) = n by omega] at this
theorem daysIn_b (y m : Int) : BRet Tryz.prog 152 [] [.int y, .int m] (.int (mlen y m)) [] := by
  refine bof Tryz.func152 ?_
  have hz : ¬ ((4 : Int) = 0) := by decide
  by_cases h2 : m = 2
  · subst h2
    by_cases h4 : y.tmod 4 = 0
    · rw [show mlen y 2 = 29 by unfold mlen; rw [if_pos rfl, if_pos h4]]
      refine bgo ?_
      first
        | trivial
        | simp
    · rw [show mlen y 2 = 28 by unfold mlen; rw [if_pos rfl, if_neg h4]]
      refine bgo ?_
      first
        | trivial
        | simp
  · by_cases h4 : m = 4
    · subst h4
      rw [show mlen y 4 = 30 by simp [mlen]]
      refine bgo ?_
      first
        | trivial
        | simp
    by_cases h6 : m = 6
    · subst h6
      rw [show mlen y 6 = 30 by simp [mlen]]
      refine bgo ?_
      first
        | trivial
        | simp
    by_cases h9 : m = 9
    · subst h9
      rw [show mlen y 9 = 30 by simp [mlen]]
      refine bgo ?_
      first
        | trivial
        | simp
    by_cases h11 : m = 11
    · subst h11
      rw [show mlen y 11 = 30 by simp [mlen]]
      refine bgo ?_
      first
        | trivial
        | simp
    rw [show mlen y m = 31 by simp [mlen, h2, h4, h6, h9, h11]]
    refine bgo ?_
    first
      | trivial
      | simp
theorem l3Length_b (y m : Int) : BRet Tryz.prog 156 [] [.int y, .int m] (.int (mlen y m)) [] := by
  refine bof Tryz.func156 ?_
  have hz : ¬ ((4 : Int) = 0) := by decide
  by_cases h2 : m = 2
  · subst h2
    by_cases h4 : y.tmod 4 = 0
    · rw [show mlen y 2 = 29 by unfold mlen; rw [if_pos rfl, if_pos h4]]
      refine bgo ?_
      first
        | trivial
        | simp
    · rw [show mlen y 2 = 28 by unfold mlen; rw [if_pos rfl, if_neg h4]]
      refine bgo ?_
      first
        | trivial
        | simp
  · by_cases h4 : m = 4
    · subst h4
      rw [show mlen y 4 = 30 by simp [mlen]]
      refine bgo ?_
      first
        | trivial
        | simp
    by_cases h6 : m = 6
    · subst h6
      rw [show mlen y 6 = 30 by simp [mlen]]
      refine bgo ?_
      first
        | trivial
        | simp
    by_cases h9 : m = 9
    · subst h9
      rw [show mlen y 9 = 30 by simp [mlen]]
      refine bgo ?_
      first
        | trivial
        | simp
    by_cases h11 : m = 11
    · subst h11
      rw [show mlen y 11 = 30 by simp [mlen]]
      refine bgo ?_
      first
        | trivial
        | simp
    rw [show mlen y m = 31 by simp [mlen, h2, h4, h6, h9, h11]]
    refine bgo ?_
    first
      | trivial
      | simp
theorem daysOf_b (y : Int) : BRet Tryz.prog 151 [] [.int y] (.int (ylen y)) [] := by
  refine bof Tryz.func151 ?_
  have h := mlen_in y 2
  unfold ylen
  refine bgo ?_
  refine b_call (daysIn_b y 2) rfl rfl rfl rfl ?_
  generalize mlen y 2 = q at *
  refine bgo ?_
  trivial
theorem mcum_in (y : Int) : ∀ n : Nat, 0 ≤ mcum y n ∧ mcum y n ≤ 31 * n
  | 0 => ⟨Int.le_refl _, Int.le_refl _⟩
  | n + 1 => by
    have := mcum_in y n
    have := mlen_in y ((n : Int) + 1)
    simp only [mcum]
    omega
theorem ycum_in (k : Nat) : 0 ≤ ycum k ∧ ycum k ≤ 367 * k + 3 := by rw [ycum_eq]; omega
theorem l3Day_b (y m d : Int) (k j : Nat) (hy : y = 2000 + k) (hm : m = j + 1) (hk : k ≤ 200) (hj : j ≤ 20) (hd : 0 ≤ d ∧ d ≤ 100) : BRet Tryz.prog 147 [] [.agg [.int y, .int m, .int d]] (.int (ycum k + mcum y j + d - 1)) [] := by
  refine bof Tryz.func147 ?_
  have hyk : y - 2000 = k := by omega
  have hy2 : 2000 ≤ y ∧ y ≤ 2200 := by omega
  have hm2 : 1 ≤ m ∧ m ≤ 21 := by omega
  have hy' : Go.RowKit.Hid (y = 2000 + k) := hy
  have hm' : Go.RowKit.Hid (m = j + 1) := hm
  clear hy hm
  have hyc : 365 * (k : Int) + ((k : Int) + 3).tdiv 4 = ycum k := rfl
  have hyb := ycum_in k
  have hz : ¬ ((4 : Int) = 0) := by decide
  have hd4 : 0 ≤ ((k : Int) + 3).tdiv 4 ∧ ((k : Int) + 3).tdiv 4 ≤ 1000 := by rw [Int.tdiv_eq_ediv_of_nonneg (by omega)]; omega
  generalize hdv : ((k : Int) + 3).tdiv 4 = dv at *
  generalize ycum k = yc at *
  refine bgo ?_
  refine b_lp (ι := Nat × Int × Int) (fun i => [(1, .ptr (.t 1) 0), (4, .int i.2.2), (5, .int i.2.1)]) (fun _ => [(.t 1, [.int y, .int m, .int d])]) (fun i => i.1 ≤ j ∧ i.2.1 = i.1 + 1 ∧ i.2.2 = yc + mcum y i.1) (fun i => j - i.1) (0, 1, yc) hs ⟨Nat.zero_le _, rfl, by simp [mcum]⟩ ?_
  rintro ⟨i, mi, t⟩ ⟨hi, hmi, ht⟩ I nx
  dsimp only at hi hmi ht ⊢
  have hmm := hm'.out
  by_cases hlt : mi < m
  · have hml := mlen_in y mi
    have hmc := mcum_in y i
    have hn : t + mlen y mi = yc + mcum y (i + 1) := by rw [ht, mcum, hmi]; omega
    have hcl := l3Length_b y mi
    generalize mlen y mi = q at *
    generalize mcum y i = mc at *
    have hij : i + 1 ≤ j := by omega
    have hmi2 : mi + 1 = ((i + 1 : Nat) : Int) + 1 := by omega
    have htb : 0 ≤ t ∧ t ≤ 1000000 := by omega
    have hmi3 : 0 ≤ mi ∧ mi ≤ 100 := by omega
    have hmi4 : Go.RowKit.Hid (mi + 1 = ((i + 1 : Nat) : Int) + 1) := hmi2
    clear hmi2 hmi hmm ht
    have hn' : Go.RowKit.Hid (t + q = yc + mcum y (i + 1)) := hn
    clear hn
    refine bgo ?_
    refine b_call hcl rfl rfl rfl rfl ?_
    refine bgo ?_
    exact nx.go (i + 1, mi + 1, t + q) ⟨hij, hmi4.out, hn'.out⟩ (by dsimp only; omega) hs
  · have hij : i = j := by omega
    subst hij
    have hmc := mcum_in y i
    generalize mcum y i = mc at *
    subst ht
    clear hmm hmi
    refine bgo ?_
    refine wk_rfl ?_
    refine bgo ?_
    trivial
end Go.Bee.C24

/- Dates and amounts as texts: the code and the model. -/
namespace Go.Bee.C24c
open Go Go.Bee Go.Proofs Go.Bee.Ty
theorem lapp : (∀ a b : List UInt8, (a ++ b).length = a.length + b.length) ∧ (∀ (x : UInt8) (a : List UInt8), (x :: a).length = a.length + 1) ∧ ([] : List UInt8).length = 0 := ⟨fun _ _ => List.length_append, fun _ _ => rfl, rfl⟩
theorem tys : type_of% (And.intro Go.Bee.C24.tys lapp) := And.intro Go.Bee.C24.tys lapp
end Go.Bee.C24c
namespace Go.Bee.C24c
open Go Go.Bee Go.Proofs Go.Bee.Ty Go.Bee.C23 Go.Bee.C23s Go.Bee.Da Go.Bee.C24
set_option linter.unusedVariables false
set_option maxRecDepth 20000
attribute [local irreducible] Go.Bee.bwp
theorem mF_more {y t r : Int} {j : Nat} (h : t = mcum y j + r) (hr : 0 ≤ r) (ht : t < ylen y) (hj : j ≤ 12) : j ≤ 11 := by
  rcases Nat.lt_or_ge j 12 with h1 | h1
  · omega
  · obtain rfl : j = 12 := by omega
    rw [mcum_ylen] at h; omega
theorem yF_step (k : Nat) (r : Int) (hk : k ≤ 99) : yF (100 - k) k r = if r ≥ ylen (2000 + k) then yF (100 - (k + 1)) (k + 1) (r - ylen (2000 + k)) else (k, r) := by
  rw [show 100 - k = (100 - (k + 1)) + 1 by omega]; rfl
theorem mF_step (y : Int) (j : Nat) (r : Int) (hj : j ≤ 11) : mF y (12 - j) (j + 1) r = if r ≥ mlen y ((j : Int) + 1) then mF y (12 - (j + 1)) (j + 2) (r - mlen y ((j : Int) + 1)) else (j + 1, r) := by
  rw [show 12 - j = (12 - (j + 1)) + 1 by omega]; rfl
theorem dateOf_b (day : Int) (h0 : 0 ≤ day) (h1 : day ≤ 36524) : BRet Tryz.prog 137 [] [.int day] (.agg [.int (dateF day).y, .int (dateF day).m, .int (dateF day).d]) [] := by
  have hin := yF_in day h1 100 0 day (by rw [ycum_eq 0]; omega) h0 rfl
  have hdy : (dateF day).y = 2000 + (yrF day).1 := rfl
  have hdm : (dateF day).m = (moF day).1 := rfl
  have hdd : (dateF day).d = (moF day).2 + 1 := rfl
  generalize dateF day = D at *
  obtain ⟨dy, dm, dd⟩ := D
  dsimp only at hdy hdm hdd ⊢
  have hmo : moF day = mF (2000 + (yrF day).1) 12 1 (yrF day).2 := rfl
  have hyr : yF 100 0 day = yrF day := rfl
  rw [hyr] at hin
  generalize moF day = mo at *
  generalize yrF day = yr at *
  obtain ⟨yk, rest⟩ := yr
  dsimp only at hin hdy hmo
  have hy' : Go.RowKit.Hid (dy = 2000 + yk) := hdy
  have hm' : Go.RowKit.Hid (dm = mo.1 ∧ dd = mo.2 + 1) := ⟨hdm, hdd⟩
  have hmo' : Go.RowKit.Hid (mo = mF (2000 + yk) 12 1 rest) := hmo
  clear hdy hdm hdd hmo hin
  refine bof Tryz.func137 ?_
  refine bgo ?_
  refine b_lp (ι := Nat × Int × Int) (fun i => [(0, .int i.2.2), (2, .ptr (.t 2) 0), (3, .ptr (.t 3) 0)]) (fun i => [(.t 2, [.int 0, .int 0, .int 0]), (.t 3, [.int i.2.1, .int 1, .int 0])])
    (fun i => i.2.1 = 2000 + i.1 ∧ day = ycum i.1 + i.2.2 ∧ 0 ≤ i.2.2 ∧ yF (100 - i.1) i.1 i.2.2 = (yk, rest)) (fun i => 100 - i.1) (0, 2000, day) hs ⟨by simp, by rw [ycum_eq 0]; simp, h0, hyr⟩ ?_
  clear hyr
  rintro ⟨k, y, r⟩ ⟨hy, hd, hr0, hF⟩ I nx
  dsimp only at hy hd hr0 hF ⊢
  have hk := ycum_lt hd hr0 h1
  rw [yF_step k r hk, ← hy] at hF
  have hyl := ylen_in y
  have hys := ycum_succ k
  rw [← hy] at hys
  have hyb : 2000 ≤ y ∧ y ≤ 2099 := by omega
  have hrb : r ≤ 36524 := by have := ycum_in k; omega
  have hy2 : Go.RowKit.Hid (y = 2000 + k) := hy
  have hcl := daysOf_b y
  by_cases hge : r ≥ ylen y
  · rw [if_pos hge] at hF
    have hd2 : Go.RowKit.Hid (day = ycum ((k + 1 : Nat) : Int) + (r - ylen y)) := by rw [show (((k + 1 : Nat)) : Int) = (k : Int) + 1 by omega, hys]; exact (by omega : day = ycum k + ylen y + (r - ylen y))
    have hF2 : Go.RowKit.Hid (yF (100 - (k + 1)) (k + 1) (r - ylen y) = (yk, rest)) := hF
    clear hF hys hd hy
    generalize ylen y = q at *
    refine bgo ?_
    refine b_call hcl rfl rfl rfl rfl ?_
    refine bgo ?_
    refine b_call hcl rfl rfl rfl rfl ?_
    refine bgo ?_
    refine nx.go (k + 1, y + 1, r - q) ⟨?_, hd2.out, by dsimp only; omega, hF2.out⟩ (by dsimp only; omega) hs
    have := hy2.out
    dsimp only; omega
  · rw [if_neg hge] at hF
    obtain ⟨rfl, rfl⟩ := Prod.mk.inj hF
    obtain rfl : dy = y := by have := hy'.out; have := hy2.out; omega
    have hsl : r < ylen dy := by omega
    have hmo2 : mF dy (12 - 0) (0 + 1) r = mo := by rw [hmo'.out, ← hy2.out]
    clear hF hys hd hy hmo'
    generalize hq : ylen dy = q at *
    refine bgo ?_
    refine b_call hcl rfl rfl rfl rfl ?_
    refine bgo ?_
    refine wk_mk [(0, .int r), (2, .ptr (.t 2) 0), (3, .ptr (.t 3) 0)] [(.t 2, [.int 0, .int 0, .int 0]), (.t 3, [.int dy, .int 1, .int 0])] hs ?_
    refine bgo ?_
    refine b_lp (ι := Nat × Int × Int) (fun i => [(0, .int i.2.2), (2, .ptr (.t 2) 0), (3, .ptr (.t 3) 0)]) (fun i => [(.t 2, [.int 0, .int 0, .int 0]), (.t 3, [.int dy, .int i.2.1, .int 0])])
      (fun i => i.2.1 = i.1 + 1 ∧ r = mcum dy i.1 + i.2.2 ∧ 0 ≤ i.2.2 ∧ i.1 ≤ 12 ∧ mF dy (12 - i.1) (i.1 + 1) i.2.2 = mo) (fun i => 12 - i.1) (0, 1, r) hs ⟨rfl, by simp [mcum], hr0, by omega, hmo2⟩ ?_
    clear hmo2
    rintro ⟨j, m, s⟩ ⟨hm, hs0, hs1, hj, hM⟩ I2 nx2
    dsimp only at hm hs0 hs1 hj hM ⊢
    have hj2 := mF_more hs0 hs1 (by rw [hq]; exact hsl) hj
    rw [mF_step dy j s hj2, ← hm] at hM
    have hml := mlen_in dy m
    have hmb : 1 ≤ m ∧ m ≤ 12 := by omega
    have hsb : s ≤ 36524 := by have := mcum_in dy j; omega
    have hcm := daysIn_b dy m
    have hm2 : Go.RowKit.Hid (m = j + 1) := hm
    by_cases hge2 : s ≥ mlen dy m
    · rw [if_pos hge2] at hM
      have hs2 : Go.RowKit.Hid (r = mcum dy (j + 1) + (s - mlen dy m)) := by rw [mcum, ← hm]; exact (by omega : r = mcum dy j + mlen dy m + (s - mlen dy m))
      have hM2 : Go.RowKit.Hid (mF dy (12 - (j + 1)) (j + 1 + 1) (s - mlen dy m) = mo) := hM
      clear hM hs0 hm
      generalize mlen dy m = q2 at *
      refine bgo ?_
      refine b_call hcm rfl rfl rfl rfl ?_
      refine bgo ?_
      refine b_call hcm rfl rfl rfl rfl ?_
      refine bgo ?_
      refine nx2.go (j + 1, m + 1, s - q2) ⟨?_, hs2.out, by dsimp only; omega, by dsimp only; omega, hM2.out⟩ (by dsimp only; omega) hs
      have := hm2.out
      dsimp only; omega
    · rw [if_neg hge2] at hM
      obtain ⟨e1, e2⟩ := hm'.out
      have e3 : dm = m := by rw [e1, ← hM]; have := hm2.out; dsimp only; omega
      have e4 : dd = s + 1 := by rw [e2, ← hM]
      subst e3; subst e4
      clear hM hs0 hm hm' hm2 e1 e2
      generalize mlen dy dm = q2 at *
      refine bgo ?_
      refine b_call hcm rfl rfl rfl rfl ?_
      refine bgo ?_
      refine wk_mk [(0, .int s), (2, .ptr (.t 2) 0), (3, .ptr (.t 3) 0)] [(.t 2, [.int 0, .int 0, .int 0]), (.t 3, [.int dy, .int dm, .int 0])] hs ?_
      refine bgo ?_
      trivial
theorem l3Date_b (day : Int) (h0 : 0 ≤ day) (h1 : day ≤ 36524) : BRet Tryz.prog 128 [] [.int day] (.agg [.int (dateF day).y, .int (dateF day).m, .int (dateF day).d]) [] := by
  have hin := yF_in day h1 100 0 day (by rw [ycum_eq 0]; omega) h0 rfl
  have hdy : (dateF day).y = 2000 + (yrF day).1 := rfl
  have hdm : (dateF day).m = (moF day).1 := rfl
  have hdd : (dateF day).d = (moF day).2 + 1 := rfl
  generalize dateF day = D at *
  obtain ⟨dy, dm, dd⟩ := D
  dsimp only at hdy hdm hdd ⊢
  have hmo : moF day = mF (2000 + (yrF day).1) 12 1 (yrF day).2 := rfl
  have hyr : yF 100 0 day = yrF day := rfl
  rw [hyr] at hin
  generalize moF day = mo at *
  generalize yrF day = yr at *
  obtain ⟨yk, rest⟩ := yr
  dsimp only at hin hdy hmo
  have hy' : Go.RowKit.Hid (dy = 2000 + yk) := hdy
  have hm' : Go.RowKit.Hid (dm = mo.1 ∧ dd = mo.2 + 1) := ⟨hdm, hdd⟩
  have hmo' : Go.RowKit.Hid (mo = mF (2000 + yk) 12 1 rest) := hmo
  clear hdy hdm hdd hmo hin
  refine bof Tryz.func128 ?_
  refine bgo ?_
  refine b_lp (ι := Nat × Int × Int) (fun i => [(0, .int day), (2, .ptr (.t 2) 0), (3, .ptr (.t 3) 0)]) (fun i => [(.t 2, [.int 0, .int 0, .int 0]), (.t 3, [.int i.2.1, .int 1, .int 1])])
    (fun i => i.2.1 = 2000 + i.1 ∧ day = ycum i.1 + i.2.2 ∧ 0 ≤ i.2.2 ∧ yF (100 - i.1) i.1 i.2.2 = (yk, rest)) (fun i => 100 - i.1) (0, 2000, day) hs ⟨by simp, by rw [ycum_eq 0]; simp, h0, hyr⟩ ?_
  clear hyr
  rintro ⟨k, y, r⟩ ⟨hy, hd, hr0, hF⟩ I nx
  dsimp only at hy hd hr0 hF ⊢
  have hk := ycum_lt hd hr0 h1
  rw [yF_step k r hk, ← hy] at hF
  have hyl := ylen_in y
  have hys := ycum_succ k
  rw [← hy] at hys
  have hyb : 2000 ≤ y ∧ y ≤ 2099 := by omega
  have hrb : r ≤ 36524 := by have := ycum_in k; omega
  have hy2 : Go.RowKit.Hid (y = 2000 + k) := hy
  have hcl := l3Day_b (y + 1) 1 1 (k + 1) 0 (by omega) rfl (by omega) (by omega) (by omega)
  obtain ⟨V, hV⟩ : ∃ V, V = ycum k + ylen y := ⟨_, rfl⟩
  rw [show ycum ((k + 1 : Nat) : Int) + mcum (y + 1) 0 + 1 - 1 = V by rw [show (((k + 1 : Nat)) : Int) = (k : Int) + 1 by omega, hys, hV, mcum]; omega] at hcl
  by_cases hge : r ≥ ylen y
  · rw [if_pos hge] at hF
    have hd2 : Go.RowKit.Hid (day = ycum ((k + 1 : Nat) : Int) + (r - ylen y)) := by rw [show (((k + 1 : Nat)) : Int) = (k : Int) + 1 by omega, hys]; exact (by omega : day = ycum k + ylen y + (r - ylen y))
    have hF2 : Go.RowKit.Hid (yF (100 - (k + 1)) (k + 1) (r - ylen y) = (yk, rest)) := hF
    have hk2 := ycum_lt (k := k + 1) hd2.out (by omega) h1
    have hy99 : y < 2099 := by omega
    have hle : V ≤ day := by omega
    clear hF hys hd hy hV
    generalize ylen y = q at *
    refine bgo ?_
    refine b_call hcl rfl rfl rfl rfl ?_
    refine bgo ?_
    refine nx.go (k + 1, y + 1, r - q) ⟨?_, hd2.out, by dsimp only; omega, hF2.out⟩ (by dsimp only; omega) hs
    have := hy2.out
    dsimp only; omega
  · rw [if_neg hge] at hF
    obtain ⟨rfl, rfl⟩ := Prod.mk.inj hF
    obtain rfl : dy = y := by have := hy'.out; have := hy2.out; omega
    have hsl : r < ylen dy := by omega
    have hmo2 : mF dy (12 - 0) (0 + 1) r = mo := by rw [hmo'.out, ← hy2.out]
    have hle : ¬ V ≤ day := by omega
    have hd2 : Go.RowKit.Hid (day = ycum k + r) := hd
    have hkk : k ≤ 200 := by omega
    clear hF hys hd hy hmo' hV
    generalize hq : ylen dy = q at *
    rcases (by omega : dy < 2099 ∨ dy ≥ 2099) with hy99 | hy99
    all_goals first
      | (have hy98 : ¬ dy < 2099 := by omega
         refine bgo ?_)
      | (refine bgo ?_
         refine b_call hcl rfl rfl rfl rfl ?_
         refine bgo ?_)
    all_goals
      refine wk_mk [(0, .int day), (2, .ptr (.t 2) 0), (3, .ptr (.t 3) 0)] [(.t 2, [.int 0, .int 0, .int 0]), (.t 3, [.int dy, .int 1, .int 1])] hs ?_
      clear hcl hle
      refine bgo ?_
      refine b_lp (ι := Nat × Int × Int) (fun i => [(0, .int day), (2, .ptr (.t 2) 0), (3, .ptr (.t 3) 0)]) (fun i => [(.t 2, [.int 0, .int 0, .int 0]), (.t 3, [.int dy, .int i.2.1, .int 1])])
        (fun i => i.2.1 = i.1 + 1 ∧ r = mcum dy i.1 + i.2.2 ∧ 0 ≤ i.2.2 ∧ i.1 ≤ 12 ∧ mF dy (12 - i.1) (i.1 + 1) i.2.2 = mo) (fun i => 12 - i.1) (0, 1, r) hs ⟨rfl, by simp [mcum], hr0, by omega, hmo2⟩ ?_
      clear hmo2
      rintro ⟨j, m, s⟩ ⟨hm, hs0, hs1, hj, hM⟩ I2 nx2
      dsimp only at hm hs0 hs1 hj hM ⊢
      have hj2 := mF_more hs0 hs1 (by rw [hq]; exact hsl) hj
      rw [mF_step dy j s hj2, ← hm] at hM
      have hml := mlen_in dy m
      have hmb : 1 ≤ m ∧ m ≤ 12 := by omega
      have hmcb := mcum_in dy j
      have hsb : s ≤ 36524 := by omega
      have hm2 : Go.RowKit.Hid (m = j + 1) := hm
      have hcm := l3Day_b dy (m + 1) 1 k (j + 1) hy2.out (by omega) hkk (by omega) (by omega)
      have hce := l3Day_b dy m 1 k j hy2.out hm hkk (by omega) (by omega)
      have hd3 := hd2.out
      have hyc := ycum_in k
      obtain ⟨V2, hV2⟩ : ∃ V2, V2 = ycum k + mcum dy j + mlen dy m := ⟨_, rfl⟩
      obtain ⟨V3, hV3⟩ : ∃ V3, V3 = ycum k + mcum dy j := ⟨_, rfl⟩
      rw [show ycum k + mcum dy (j + 1) + 1 - 1 = V2 by rw [hV2, mcum, ← hm]; omega] at hcm
      rw [show ycum k + mcum dy j + 1 - 1 = V3 by rw [hV3]; omega] at hce
      by_cases hge2 : s ≥ mlen dy m
      · rw [if_pos hge2] at hM
        have hs2 : Go.RowKit.Hid (r = mcum dy (j + 1) + (s - mlen dy m)) := by rw [mcum, ← hm]; exact (by omega : r = mcum dy j + mlen dy m + (s - mlen dy m))
        have hM2 : Go.RowKit.Hid (mF dy (12 - (j + 1)) (j + 1 + 1) (s - mlen dy m) = mo) := hM
        have hj3 := mF_more (j := j + 1) hs2.out (by omega) (by rw [hq]; exact hsl) (by omega)
        have hm12 : m < 12 := by omega
        have hle2 : V2 ≤ day := by omega
        clear hM hs0 hm hV2 hV3 hd3 hce
        generalize mlen dy m = q2 at *
        refine bgo ?_
        refine b_call hcm rfl rfl rfl rfl ?_
        refine bgo ?_
        refine nx2.go (j + 1, m + 1, s - q2) ⟨?_, hs2.out, by dsimp only; omega, by dsimp only; omega, hM2.out⟩ (by dsimp only; omega) hs
        have := hm2.out
        dsimp only; omega
      · rw [if_neg hge2] at hM
        obtain ⟨e1, e2⟩ := hm'.out
        have e3 : dm = m := by rw [e1, ← hM]; have := hm2.out; dsimp only; omega
        have e4 : dd = s + 1 := by rw [e2, ← hM]
        have hle2 : ¬ V2 ≤ day := by omega
        have hds : day - V3 = s := by omega
        have hVb : 0 ≤ V3 ∧ V3 ≤ 40000 := by omega
        subst e3; subst e4
        clear hM hs0 hm hm' hm2 e1 e2 hV2 hV3 hd3
        generalize mlen dy dm = q2 at *
        rcases (by omega : dm < 12 ∨ dm ≥ 12) with hm12 | hm12
        all_goals first
          | (have hm11 : ¬ dm < 12 := by omega
             refine bgo ?_)
          | (refine bgo ?_
             refine b_call hcm rfl rfl rfl rfl ?_
             refine bgo ?_)
        all_goals
          refine wk_mk [(0, .int day), (2, .ptr (.t 2) 0), (3, .ptr (.t 3) 0)] [(.t 2, [.int 0, .int 0, .int 0]), (.t 3, [.int dy, .int dm, .int 1])] hs ?_
          clear hcm hle2
          refine bgo ?_
          refine b_call hce rfl rfl rfl rfl ?_
          refine bgo ?_
          trivial
theorem size_b (x : Int) (h : -1000000000000 ≤ x ∧ x ≤ 1000000000000) : BRet Tryz.prog 106 [] [.int x] (.int (absI x)) [] := by
  refine bof Tryz.func106 ?_
  have hm : max x (0 - x) = absI x := by unfold absI; split <;> omega
  refine bgo ?_
  first
    | trivial
    | exact congrArg PV.int hm
theorem padT_long {m : Nat} {t : Tx} (h : m ≤ t.length) : padT m t = t := by unfold padT; rw [show m - t.length = 0 by omega]; rfl
theorem padT_two {n : Int} (h0 : 0 ≤ n) (h1 : n < 100) : padT 2 (num n) = two n := by
  unfold two
  split
  · rename_i h
    unfold padT; rw [num_len1 h0 h]; rfl
  · exact padT_long (by rw [num_len2 (by omega) h1]; exact Nat.le_refl _)
theorem two_len {n : Int} (h0 : 0 ≤ n) (h1 : n < 100) : (two n).length = 2 := by
  unfold two
  split
  · rename_i h
    rw [List.length_cons, num_len1 h0 h]
  · exact num_len2 (by omega) h1
theorem paddedTwo_b (n : Int) (h0 : 0 ≤ n) (h1 : n < 100) : BRet Tryz.prog 107 [] [.int n, .int 2] (.str (two n)) [] := by
  have hl : (num n).length ≤ 100 := by
    rcases (by omega : n < 10 ∨ n ≥ 10) with h | h
    · rw [num_len1 h0 h]; omega
    · rw [num_len2 h h1]; omega
  have := padded_b n h0 (by omega) 2 (by omega) hl
  rwa [padT_two h0 h1] at this
theorem dateText_b (day : Int) (h0 : 0 ≤ day) (h1 : day ≤ 36524) : BRet Tryz.prog 104 [] [.int day] (.str (dateT day)) [] := by
  obtain ⟨a1, a2, a3, a4, a5, a6⟩ := dateF_in h0 h1
  have hd := dateOf_b day h0 h1
  unfold dateT
  generalize dateF day = D at *
  obtain ⟨y, m, d⟩ := D
  dsimp only at a1 a2 a3 a4 a5 a6 hd ⊢
  have hyl : (num y).length = 4 := num_len4 (by omega) (by omega)
  have hy := padded_b y (by omega) (by omega) 4 (by omega) (by omega)
  rw [padT_long (by omega)] at hy
  have hm := paddedTwo_b m (by omega) (by omega)
  have hdd := paddedTwo_b d (by omega) (by omega)
  have hml := two_len (n := m) (by omega) (by omega)
  have hdl := two_len (n := d) (by omega) (by omega)
  generalize num y = ty at *
  generalize two m = tm at *
  generalize two d = td at *
  refine bof Tryz.func104 ?_
  refine bgo ?_
  refine b_call hd rfl rfl rfl rfl ?_
  refine bgo ?_
  refine b_call hy rfl rfl rfl rfl ?_
  refine bgo ?_
  refine b_call hm rfl rfl rfl rfl ?_
  refine bgo ?_
  refine b_call hdd rfl rfl rfl rfl ?_
  refine bgo ?_
  trivial
theorem l3Two_b (n : Int) (h0 : 0 ≤ n) (h1 : n < 100) : BRet Tryz.prog 129 [] [.int n] (.str (two n)) [] := by
  have hn := l1Num_b n h0 (by omega)
  have hl : (num n).length ≤ 100 := by
    rcases (by omega : n < 10 ∨ n ≥ 10) with h | h
    · rw [num_len1 h0 h]; omega
    · rw [num_len2 h h1]; omega
  unfold two
  generalize num n = t at *
  have hbd : 1 + t.length ≤ 140737488355328 := by omega
  refine bof Tryz.func129 ?_
  by_cases h : n < 10
  · rw [if_pos h]
    refine bgo ?_
    refine b_call hn rfl rfl rfl rfl ?_
    refine bgo ?_
    trivial
  · rw [if_neg h]
    refine bgo ?_
    refine b_call hn rfl rfl rfl rfl ?_
    refine bgo ?_
    trivial
theorem l3Text_b (day : Int) (h0 : 0 ≤ day) (h1 : day ≤ 36524) : BRet Tryz.prog 97 [] [.int day] (.str (dateT day)) [] := by
  obtain ⟨a1, a2, a3, a4, a5, a6⟩ := dateF_in h0 h1
  have hd := l3Date_b day h0 h1
  unfold dateT
  generalize dateF day = D at *
  obtain ⟨y, m, d⟩ := D
  dsimp only at a1 a2 a3 a4 a5 a6 hd ⊢
  have hyl : (num y).length = 4 := num_len4 (by omega) (by omega)
  have hy := l1Num_b y (by omega) (by omega)
  have hm := l3Two_b m (by omega) (by omega)
  have hdd := l3Two_b d (by omega) (by omega)
  have hml := two_len (n := m) (by omega) (by omega)
  have hdl := two_len (n := d) (by omega) (by omega)
  generalize num y = ty at *
  generalize two m = tm at *
  generalize two d = td at *
  refine bof Tryz.func97 ?_
  refine bgo ?_
  refine b_call hd rfl rfl rfl rfl ?_
  refine bgo ?_
  refine b_call hy rfl rfl rfl rfl ?_
  refine bgo ?_
  refine b_call hm rfl rfl rfl rfl ?_
  refine bgo ?_
  refine b_call hdd rfl rfl rfl rfl ?_
  refine bgo ?_
  trivial
end Go.Bee.C24c

/- Amounts as texts; parties; events. -/
namespace Go.Bee.C24d
open Go Go.Bee Go.Proofs Go.Bee.Ty
theorem bCtr : ∀ l : List PD, evBuild Tryz.prog 31 [(0, .d (.sl 1 l))] = some (.agg [.d (.sl 1 l), .nilS]) := fun l => by kernel_rfl
theorem tys : type_of% (And.intro Go.Bee.C24c.tys bCtr) := And.intro Go.Bee.C24c.tys bCtr
end Go.Bee.C24d
namespace Go.Bee.C24d
open Go Go.Bee Go.Proofs Go.Bee.Ty Go.Bee.C23 Go.Bee.C23s Go.Bee.Da Go.Bee.C24 Go.Bee.C24c
set_option linter.unusedVariables false
set_option maxRecDepth 20000
attribute [local irreducible] Go.Bee.bwp
def amtN (x : Int) : Tx := num (x / 100) ++ [46] ++ two (x % 100)
theorem num_le {n : Int} (h0 : 0 ≤ n) (h1 : n ≤ 9223372036854775807) : (num n).length ≤ 21 := digs_len n.toNat (by omega)
theorem amtN_len {x : Int} (h0 : 0 ≤ x) (h1 : x ≤ 1000000000) : (amtN x).length ≤ 30 := by
  have h2 := num_le (n := x / 100) (by omega) (by omega)
  have h3 := two_len (n := x % 100) (by omega) (by omega)
  simp only [amtN, List.length_append, List.length_cons, List.length_nil]; omega
theorem dateT_len {d : Int} (h0 : 0 ≤ d) (h1 : d ≤ 36524) : (dateT d).length = 10 := by
  obtain ⟨a1, a2, a3, a4, a5, a6⟩ := dateF_in h0 h1
  have h2 := num_len4 (n := (dateF d).y) (by omega) (by omega)
  have h3 := two_len (n := (dateF d).m) (by omega) (by omega)
  have h4 := two_len (n := (dateF d).d) (by omega) (by omega)
  simp only [dateT, List.length_append, List.length_cons, List.length_nil]; omega
theorem amountText_b (x : Int) (h0 : 0 ≤ x) (h1 : x ≤ 1000000000) : BRet Tryz.prog 60 [] [.int x] (.str (amtN x)) [] := by
  have hsz := size_b x (by omega)
  have ha : absI x = x := by unfold absI; rw [if_neg (by omega)]
  rw [ha] at hsz
  have hi := itoaN_b (x / 100) (by omega) (by omega)
  have hp := paddedTwo_b (x % 100) (by omega) (by omega)
  have h2 := num_le (n := x / 100) (by omega) (by omega)
  have h3 := two_len (n := x % 100) (by omega) (by omega)
  have hq : x.tdiv 100 = x / 100 := Int.tdiv_eq_ediv_of_nonneg h0
  have hr : x.tmod 100 = x % 100 := Int.tmod_eq_emod_of_nonneg h0
  have hz : ¬ ((100 : Int) = 0) := by decide
  have hn : ¬ x < 0 := by omega
  unfold amtN
  generalize num (x / 100) = t at *
  generalize two (x % 100) = u at *
  have hb0 : t.length ≤ 140737488355328 := by omega
  have hb1 : t.length + 1 ≤ 140737488355328 := by omega
  have hb2 : t.length + 1 + 2 ≤ 140737488355328 := by omega
  have hqb : 0 ≤ x / 100 ∧ x / 100 ≤ 10000000 := by omega
  have hrb : 0 ≤ x % 100 ∧ x % 100 < 100 := by omega
  generalize x / 100 = q at *
  generalize x % 100 = r at *
  refine bof Tryz.func60 ?_
  refine bgo ?_
  refine b_call hsz rfl rfl rfl rfl ?_
  refine bgo ?_
  refine b_call hi rfl rfl rfl rfl ?_
  refine bgo ?_
  refine b_call hsz rfl rfl rfl rfl ?_
  refine bgo ?_
  refine b_call hp rfl rfl rfl rfl ?_
  refine bgo ?_
  trivial
theorem l2Format_b (x : Int) (h0 : 0 ≤ x) (h1 : x ≤ 1000000000) : BRet Tryz.prog 53 [] [.int x] (.str (amtN x)) [] := by
  have hi := l1Num_b (x / 100) (by omega) (by omega)
  have hp := l1Num_b (x % 100) (by omega) (by omega)
  have h2 := num_le (n := x / 100) (by omega) (by omega)
  have h3 := num_le (n := x % 100) (by omega) (by omega)
  have hq : x.tdiv 100 = x / 100 := Int.tdiv_eq_ediv_of_nonneg h0
  have hr : x.tmod 100 = x % 100 := Int.tmod_eq_emod_of_nonneg h0
  have hz : ¬ ((100 : Int) = 0) := by decide
  have hn : ¬ x < 0 := by omega
  unfold amtN two
  have hqb : 0 ≤ x / 100 ∧ x / 100 ≤ 10000000 := by omega
  have hrb : 0 ≤ x % 100 ∧ x % 100 < 100 := by omega
  generalize num (x / 100) = t at *
  generalize num (x % 100) = u at *
  have hb0 : t.length ≤ 140737488355328 := by omega
  have hb1 : t.length + 1 ≤ 140737488355328 := by omega
  have hb3 : t.length + 1 + 1 ≤ 140737488355328 := by omega
  have hb2 : t.length + 1 + u.length ≤ 140737488355328 := by omega
  have hb4 : t.length + 1 + 1 + u.length ≤ 140737488355328 := by omega
  generalize x / 100 = q at *
  generalize x % 100 = r at *
  refine bof Tryz.func53 ?_
  by_cases h : r < 10
  · rw [if_pos h]
    rw [show t ++ [46] ++ 48 :: u = t ++ [46] ++ [48] ++ u by simp]
    refine bgo ?_
    refine b_call hi rfl rfl rfl rfl ?_
    refine bgo ?_
    refine b_call hp rfl rfl rfl rfl ?_
    refine bgo ?_
    trivial
  · rw [if_neg h]
    refine bgo ?_
    refine b_call hi rfl rfl rfl rfl ?_
    refine bgo ?_
    refine b_call hp rfl rfl rfl rfl ?_
    refine bgo ?_
    trivial
theorem isDay_b (d : Int) : BRet Tryz.prog 82 [] [.int d] (.bool (inB d 0 36524)) [] := by
  refine bof Tryz.func82 ?_
  refine bgo ?_
  refine b_call (within_b _ _ _) rfl rfl rfl rfl ?_
  refine bgo ?_
  trivial
theorem l3Good_b (d : Int) : BRet Tryz.prog 73 [] [.int d] (.bool (inB d 0 36524)) [] := by
  refine bof Tryz.func73 ?_
  refine bgo ?_
  refine b_call (l1In_b _ _ _) rfl rfl rfl rfl ?_
  refine bgo ?_
  trivial
/-! Parties. -/
def txs (l : List Tx) : List PD := l.map .str
def parAt (l : List Tx) (k : Nat) : Bool := vName (l.getD k []) && !(l.take k).contains (l.getD k [])
def parOk (l : List Tx) : Bool := (List.range l.length).all (parAt l) && inB l.length 2 4
theorem parOk_bad {l : List Tx} {k : Nat} (hk : k < l.length) (h : parAt l k = false) : parOk l = false := by
  have : (List.range l.length).all (parAt l) = false := by
    cases hx : (List.range l.length).all (parAt l)
    · rfl
    · rw [List.all_eq_true.1 hx k (List.mem_range.2 hk)] at h; cases h
  unfold parOk; rw [this]; rfl
theorem par_step {l : List Tx} {k : Nat} (h : (List.range k).all (parAt l) = true) (hk : parAt l k = true) : (List.range (k + 1)).all (parAt l) = true := by
  rw [List.range_succ, List.all_append, h]; simp [hk]
theorem parOk_name {l : List Tx} (h : parOk l = true) {k : Nat} (hk : k < l.length) : vName (l.getD k []) = true := by
  unfold parOk at h
  simp only [Bool.and_eq_true] at h
  have := List.all_eq_true.1 h.1 k (List.mem_range.2 hk)
  unfold parAt at this
  simp only [Bool.and_eq_true] at this
  exact this.1
theorem vName_len {s : Tx} (h : vName s = true) : 1 ≤ s.length ∧ s.length ≤ 8 := by
  unfold vName inB at h
  simp only [Bool.and_eq_true, decide_eq_true_eq] at h
  omega
theorem areParties_b (l : List Tx) : BRet Tryz.prog 56 [] [.d (.sl 1 (l.map .str))] (.bool (parOk l)) [] := by
  refine BRet.len 0 (by kernel_rfl) rfl fun hl => ?_
  simp only [List.length_map] at hl
  refine bof Tryz.func56 ?_
  generalize hr : parOk l = r
  refine bgo ?_
  refine b_lp (ι := Nat × Unit) (fun i => [(0, .d (.sl 1 (l.map .str))), (5, .d (.sl 1 (l.map .str))), (6, .int l.length), (7, .int i.1)]) (fun _ => []) (fun i => i.1 ≤ l.length ∧ (List.range i.1).all (parAt l) = true) (fun i => l.length - i.1) (0, ()) hs ⟨Nat.zero_le _, rfl⟩ ?_
  rintro ⟨k, u⟩ ⟨hk, hj⟩ I nx
  dsimp only at hk hj ⊢
  by_cases hlt : k < l.length
  · have hx : l[k]? = some l[k] := List.getElem?_eq_getElem hlt
    have hd : l.getD k [] = l[k] := by simp [hlt]
    have hb : (k : Int) + 1 ≤ 1099511627776000 := by omega
    have hp : parAt l k = (vName l[k] && !(l.take k).contains l[k]) := by unfold parAt; rw [hd]
    have hkl : (k : Int) ≤ l.length := by omega
    have hnx := fun h => par_step (l := l) (k := k) hj h
    have hbd := fun h => parOk_bad (l := l) (k := k) hlt h
    have hnm := IsValidName_b l[k]
    have hco := containsStr_b (l.take k) l[k]
    rw [List.map_take] at hco
    clear hj hd
    rw [hr] at hbd
    clear hr
    rw [hp] at hnx hbd
    clear hp
    generalize l[k] = x at *
    refine bgo ?_
    refine b_call hnm rfl rfl rfl rfl ?_
    cases hv : vName x
    · rw [hv] at hbd
      have := hbd rfl
      subst this
      refine bgo ?_
      trivial
    · rw [hv] at hbd hnx
      refine bgo ?_
      refine b_call hco rfl rfl rfl rfl ?_
      cases hc : (l.take k).contains x
      · rw [hc] at hnx
        refine bgo ?_
        exact nx.go (k + 1, ()) ⟨hlt, hnx rfl⟩ (by dsimp only; omega) hs
      · rw [hc] at hbd
        have := hbd rfl
        subst this
        refine bgo ?_
        trivial
  · obtain rfl : k = l.length := by omega
    have he : r = inB l.length 2 4 := by rw [← hr]; unfold parOk; rw [hj]; rfl
    clear hr hj
    subst he
    refine bgo ?_
    refine wk_rfl ?_
    refine bgo ?_
    refine b_call (within_b _ _ _) rfl rfl rfl rfl ?_
    refine bgo ?_
    trivial
theorem l6Parties_b (l : List Tx) : BRet Tryz.prog 48 [] [.agg [.d (.sl 1 (l.map .str)), .nilS]] (.bool (parOk l)) [] := by
  refine BRet.alen 0 0 (by kernel_rfl) rfl rfl fun hl => ?_
  simp only [List.length_map] at hl
  refine bof Tryz.func48 ?_
  generalize hr : parOk l = r
  refine bgo ?_
  refine b_lp (ι := Nat × Unit) (fun i => [(1, .ptr (.t 1) 0), (3, .int i.1)]) (fun _ => [(.t 1, [.d (.sl 1 (l.map .str)), .nilS])]) (fun i => i.1 ≤ l.length ∧ (List.range i.1).all (parAt l) = true) (fun i => l.length - i.1) (0, ()) hs ⟨Nat.zero_le _, rfl⟩ ?_
  rintro ⟨k, u⟩ ⟨hk, hj⟩ I nx
  dsimp only at hk hj ⊢
  by_cases hlt : k < l.length
  · have hx : l[k]? = some l[k] := List.getElem?_eq_getElem hlt
    have hd : l.getD k [] = l[k] := by simp [hlt]
    have hb : (k : Int) + 1 ≤ 1099511627776000 := by omega
    have hp : parAt l k = (vName l[k] && !(l.take k).contains l[k]) := by unfold parAt; rw [hd]
    have hkl : (k : Int) ≤ l.length := by omega
    have hnx := fun h => par_step (l := l) (k := k) hj h
    have hbd := fun h => parOk_bad (l := l) (k := k) hlt h
    have hnm := l5Name_b l[k]
    have hco := l5Has_b (l.take k) l[k]
    rw [List.map_take] at hco
    clear hj hd
    rw [hr] at hbd
    clear hr
    rw [hp] at hnx hbd
    clear hp
    generalize l[k] = x at *
    refine bgo ?_
    refine b_call hnm rfl rfl rfl rfl ?_
    cases hv : vName x
    · rw [hv] at hbd
      have := hbd rfl
      subst this
      refine bgo ?_
      trivial
    · rw [hv] at hbd hnx
      refine bgo ?_
      refine b_call hco rfl rfl rfl rfl ?_
      cases hc : (l.take k).contains x
      · rw [hc] at hnx
        refine bgo ?_
        exact nx.go (k + 1, ()) ⟨hlt, hnx rfl⟩ (by dsimp only; omega) hs
      · rw [hc] at hbd
        have := hbd rfl
        subst this
        refine bgo ?_
        trivial
  · obtain rfl : k = l.length := by omega
    have he : r = inB l.length 2 4 := by rw [← hr]; unfold parOk; rw [hj]; rfl
    clear hr hj
    subst he
    refine bgo ?_
    refine wk_rfl ?_
    refine bgo ?_
    refine b_call (l1In_b _ _ _) rfl rfl rfl rfl ?_
    refine bgo ?_
    trivial
/-! Events. -/
def evOk (d p : Int) (a : Tx) (am n : Int) : Bool := inB d 0 36524 && inB p 0 (n - 1) && vName a && inB am 0 1000000
def evB (d : Int) (p a : Tx) : Tx := [79, 110, 32] ++ dateT d ++ [44, 32] ++ p ++ [32, 100, 105, 100, 32] ++ a
def evT (d : Int) (p a : Tx) (am : Int) : Tx := (if am > 0 then evB d p a ++ ([32, 97, 110, 100, 32, 112, 97, 105, 100, 32] ++ amtN am) else evB d p a) ++ [46]
theorem ifK {c : Prop} [Decidable c] {x : PV} {K : PV → Prop} (h : c) (k : optK (some x) K) : optK (if c then some x else none) K := by rw [if_pos h]; exact k
end Go.Bee.C24d

/-
What reads as data is data of the logic; a call that gives true out of it is what a row asks. No condition.
-/
namespace Go.Bee
open Go.ChangeShapes Go.WideShapes Go.ChangeAt Go.RowKit
set_option linter.unusedVariables false

def Old (w : World) : Nat → Nat → Prop := fun g _ => g < w.heap.size
def Cells (w : World) (ps : List PD) (cs : List Value) : Prop := ps.length = cs.length ∧ (∀ x ∈ ps, x.scalar = true) ∧ ∀ (i : Nat) x v, ps[i]? = some x → cs[i]? = some v → RepD (Old w) w x v
theorem Cells.append {w : World} {ps ps' : List PD} {cs cs' : List Value} (h : Cells w ps cs) (k : Cells w ps' cs') : Cells w (ps ++ ps') (cs ++ cs') := by
  obtain ⟨h1, h2, h3⟩ := h
  obtain ⟨k1, k2, k3⟩ := k
  refine ⟨by simp [h1, k1], fun x hx => (List.mem_append.1 hx).elim (h2 x) (k2 x), fun i x v hx hv => ?_⟩
  by_cases hi : i < ps.length
  · rw [List.getElem?_append_left hi] at hx
    rw [List.getElem?_append_left (by omega)] at hv
    exact h3 i x v hx hv
  · rw [List.getElem?_append_right (by omega)] at hx hv
    rw [h1] at hx
    exact k3 _ x v hx hv
/-- All that reads as data of type t is e of something, of which B is true. -/
def OpnN {α : Type} (P : Program) (t : TypeId) (e : α → PD) (B : α → Prop) (fuel : Nat) : Prop :=
  ∀ (H : Type) (enc : TypeId × Value → H) (w : World) (spare : Nat → Bool) (held : Bool) (cs : List Value) (x : DataW H × List MemPlace),
    DataW.trod enc P w 0 spare held fuel t cs = some x → (∀ n ∈ x.1.weights P t, n ≤ reachBytes) → ∃ a, B a ∧ Cells w (e a).cells cs
def Opn {α : Type} (P : Program) (t : TypeId) (e : α → PD) (B : α → Prop) : Prop := ∀ fuel, OpnN P t e B fuel
theorem cells_one {w : World} {x : PD} {v : Value} (hs : x.scalar = true) (h : RepD (Old w) w x v) : Cells w x.cells [v] := by
  have hc : x.cells = [x] := by cases x <;> first | rfl | simp [PD.scalar] at hs
  rw [hc]
  refine ⟨rfl, by simpa using hs, fun i y u hy hu => ?_⟩
  cases i with
  | zero => simp at hy hu; subst hy; subst hu; exact h
  | succ i => simp at hy
theorem opn_int {P : Program} {t : TypeId} {k : IntKind} (ht : P.underlying t = some (.int k)) : Opn P t (fun n : Int => .int k n) (fun n => (Lit.int k n).wf = true) := by
  intro fuel H enc w spare held cs x h _
  obtain ⟨n, rfl, _, hw⟩ := DataW.trod_int ht h
  exact ⟨n, hw, cells_one rfl (.int k n)⟩
theorem opn_bool {P : Program} {t : TypeId} (ht : P.underlying t = some .bool) : Opn P t PD.bool (fun _ => True) := by
  intro fuel H enc w spare held cs x h _
  obtain ⟨n, rfl, _⟩ := DataW.trod_bool ht h
  exact ⟨n, trivial, cells_one rfl (.bool n)⟩
theorem opn_str {P : Program} {t : TypeId} (ht : P.underlying t = some .string) : Opn P t PD.str (fun _ => True) := by
  intro fuel H enc w spare held cs x h hb
  obtain ⟨s, rfl, rfl, _⟩ := DataW.trod_string ht h
  have := hb s.data.toList.length (by simp [DataW.weights])
  refine ⟨s.data.toList, trivial, cells_one rfl ?_⟩
  have hr := RepD.str (S := Old w) (w := w) s.data.toList (by unfold reachBytes at this; omega)
  simpa using hr
theorem choose_list {α : Type} (n : Nat) (R : Nat → α → Prop) (h : ∀ i, i < n → ∃ y, R i y) : ∃ ys : List α, ys.length = n ∧ ∀ i y, ys[i]? = some y → R i y := by
  induction n with
  | zero => exact ⟨[], rfl, fun i y hy => by simp at hy⟩
  | succ n ih =>
    obtain ⟨ys, hl, hr⟩ := ih (fun i hi => h i (by omega))
    obtain ⟨y, hy⟩ := h n (by omega)
    refine ⟨ys ++ [y], by simp [hl], fun i z hz => ?_⟩
    by_cases hi : i < ys.length
    · rw [List.getElem?_append_left hi] at hz
      exact hr i z hz
    · rw [List.getElem?_append_right (by omega)] at hz
      have : i = ys.length := by
        have := (List.getElem?_eq_some_iff.1 hz).1
        simp at this
        omega
      subst this
      simp at hz
      subst hz
      rw [hl]
      exact hy
theorem mem_weightsAll {H : Type} (P : Program) (e : TypeId) {n : Nat} : ∀ (l : List (DataW H)) (d : DataW H), d ∈ l → n ∈ d.weights P e → n ∈ DataW.weightsAll P e l
  | [], d, hd, _ => by simp at hd
  | a :: l, d, hd, hn => by
    rw [DataW.weightsAll, List.mem_append]
    rcases List.mem_cons.1 hd with rfl | hd
    · exact .inl hn
    · exact .inr (mem_weightsAll P e l d hd hn)
theorem cell_lt {w : World} {a : Addr} {v : Value} (h : w.cell? a = some v) : a.block < w.heap.size ∧ a.spot = none := by
  unfold World.cell? at h
  split at h
  · rename_i c _ _ hc
    split at h
    · cases h
    · rename_i hs
      exact ⟨(Array.getElem?_eq_some_iff.1 hc).1, by simpa using hs⟩
  · cases h
theorem run_of_each {w : World} {sz g : Nat} {α : Type} {e : α → PD} : ∀ (ys : List α) (o : Nat), (∀ (i : Nat) y, ys[i]? = some y → ∃ cs : List Value, cs.length = sz ∧ (∀ (j : Nat) u, cs[j]? = some u → w.cell? ⟨g, o + i * sz + j, none⟩ = some u) ∧ Cells w (e y).cells cs) →
    ∃ vs : List Value, vs.length = ys.length * sz ∧ Cells w (flat (ys.map e)) vs ∧ ∀ (i : Nat) v, vs[i]? = some v → w.cell? ⟨g, o + i, none⟩ = some v
  | [], o, _ => ⟨[], by simp, ⟨by simp [flat], by simp [flat], by simp [flat]⟩, by simp⟩
  | y :: ys, o, h => by
    obtain ⟨cs, h1, h2, h3⟩ := h 0 y rfl
    obtain ⟨vs, k1, k2, k3⟩ := run_of_each (w := w) (sz := sz) (g := g) (e := e) ys (o + sz) (fun i z hz => by
      obtain ⟨cs', q1, q2, q3⟩ := h (i + 1) z (by simpa using hz)
      refine ⟨cs', q1, fun j u hu => ?_, q3⟩
      rw [← q2 j u hu]
      congr 2
      rw [Nat.add_mul]; omega)
    refine ⟨cs ++ vs, by simp [h1, k1, Nat.add_mul]; omega, ?_, fun i v hv => ?_⟩
    · rw [List.map_cons, flat_cons]; exact h3.append k2
    · by_cases hi : i < cs.length
      · rw [List.getElem?_append_left hi] at hv
        have := h2 i v hv
        simpa using this
      · rw [List.getElem?_append_right (by omega)] at hv
        rw [← k3 _ v hv]
        congr 2
        omega
theorem opn_slice {P : Program} {t e : TypeId} {α : Type} {d : α → PD} {B : α → Prop} {sz fuel : Nat} (ht : P.underlying t = some (.slice e)) (hC : P.cellsOf e = sz) (hz : 0 < sz) (hby : 0 < P.bytesOf e)
    (h : ∀ n, n < fuel → OpnN P e d B n) : OpnN P t (fun l : List α => .sl sz (l.map d)) (fun l => ∀ a ∈ l, B a) fuel := by
  intro H enc w spare held cs x hx hw
  rcases DataW.trod_slice ht hx with ⟨rfl, _⟩ | ⟨a, len, cap, elems, rest, n, rfl, rfl, rfl, _, hl, hm, hlen, hel, _, _⟩
  · exact ⟨[], by simp, cells_one rfl (.nil sz)⟩
  · have hw2 : ∀ y ∈ elems, ∀ k ∈ y.1.weights P e, k ≤ reachBytes := fun y hy k hk => hw k (by
      rw [DataW.weights, ht]
      refine List.mem_cons_of_mem _ (List.mem_append_left _ (mem_weightsAll P e _ y.1 (List.mem_map_of_mem hy) hk)))
    obtain ⟨ys, hyl, hy⟩ := choose_list (α := α) len (fun i y => ∃ cs', w.cells? 0 (a.add (i * sz)) sz = some cs' ∧ B y ∧ Cells w (d y).cells cs') (fun i hi => by
      have h1 := hel i hi
      rw [List.getElem?_eq_getElem (by omega), Option.bind_eq_some_iff] at h1
      obtain ⟨cs', hc, hd⟩ := h1
      obtain ⟨y, hB, hk⟩ := h n (by omega) H enc w spare held cs' _ hd (hw2 _ (List.getElem_mem _))
      rw [hC] at hc
      exact ⟨y, cs', hc, hB, hk⟩)
    refine ⟨ys, fun y hm => ?_, cells_one rfl ?_⟩
    · obtain ⟨i, hi⟩ := List.getElem?_of_mem hm
      exact (hy i y hi).choose_spec.2.1
    · by_cases h0 : ys = []
      · subst h0
        simp only [List.length_nil] at hyl
        subst hyl
        exact .emp sz a cap
      · have hpos : 0 < ys.length := List.length_pos_iff.2 h0
        obtain ⟨cs0, hc0, -, hk0⟩ := hy 0 ys[0] (List.getElem?_eq_getElem hpos)
        obtain ⟨_, hcl0, hat0⟩ := World.cells?_some hc0
        have hcell := hat0 0 hz
        rw [List.getElem?_eq_getElem (by omega)] at hcell
        have hsp := (cell_lt hcell).2
        have hbl := (cell_lt hcell).1
        obtain ⟨g, o, sp⟩ := a
        have hsp' : sp = none := by simpa [Addr.add] using hsp
        subst hsp'
        obtain ⟨vs, k1, k2, k3⟩ := run_of_each (w := w) (sz := sz) (g := g) (e := d) ys o (fun i y hyi => by
          obtain ⟨cs', hc, hB, hk⟩ := hy i y hyi
          obtain ⟨_, hcl, hat⟩ := World.cells?_some hc
          refine ⟨cs', hcl, fun j u hu => ?_, hk⟩
          have hj : j < sz := by rw [← hcl]; exact (List.getElem?_eq_some_iff.1 hu).1
          have := hat j hj
          rw [hu, Addr.add_lit, Addr.add_lit] at this
          exact this)
        have hll : ys.length = (ys.map d).length := by simp
        have hmax : ys.length ≤ 140737488355328 := by
          have h1 : (elems.length + rest.length) * P.bytesOf e ≤ reachBytes := hw _ (by simp [DataW.weights, ht])
          have h2 : ys.length ≤ (elems.length + rest.length) * P.bytesOf e := Nat.le_trans (by omega) (Nat.le_mul_of_pos_right _ hby)
          unfold reachBytes at h1; omega
        rw [← hyl, hll]
        refine .sl sz (ys.map d) g o cap vs (by rw [← hll]; exact hmax) (by rw [← hll]; omega) (fun x hx => ?_) k2.2.1 k2.1.symm (fun i v hv => ⟨(cell_lt (k3 i v hv)).1, k3 i v hv⟩) k2.2.2
        obtain ⟨y, hym, rfl⟩ := List.mem_map.1 hx
        obtain ⟨i, hi⟩ := List.getElem?_of_mem hym
        obtain ⟨cs', hc, _, hk⟩ := hy i y hi
        obtain ⟨_, hcl, _⟩ := World.cells?_some hc
        rw [hk.1, hcl]
/-! Structs: field by field. -/
def OpnF {α : Type} (P : Program) (fs : List Field) (off : Nat) (e : α → List PD) (B : α → Prop) (n : Nat) : Prop :=
  ∀ (H : Type) (enc : TypeId × Value → H) (w : World) (spare : Nat → Bool) (held : Bool) (cs : List Value) (xs : List (DataW H × List MemPlace)), xs.length = fs.length →
    (∀ (i : Nat) (f : Field), fs[i]? = some f → DataW.trod enc P w 0 spare held n f.type ((cs.drop f.offset).take (P.cellsOf f.type)) = xs[i]?) →
    (∀ k ∈ DataW.weightsEach P (fs.map (·.type)) (xs.map (·.1)), k ≤ reachBytes) → ∃ y, B y ∧ Cells w (e y) (cs.drop off)
theorem opnF_nil {P : Program} {n off : Nat} : OpnF P [] off (fun _ : Unit => []) (fun _ => True) n → True := fun _ => trivial
theorem opnF_one {P : Program} {α : Type} {e : α → PD} {B : α → Prop} {n sz : Nat} {f : Field} {off : Nat} (ho : f.offset = off) (hC : P.cellsOf f.type = sz) (h : OpnN P f.type e B n) :
    ∀ (H : Type) (enc : TypeId × Value → H) (w : World) (spare : Nat → Bool) (held : Bool) (cs : List Value) (xs : List (DataW H × List MemPlace)), xs.length = [f].length → cs.length = off + sz →
    (∀ (i : Nat) (g : Field), [f][i]? = some g → DataW.trod enc P w 0 spare held n g.type ((cs.drop g.offset).take (P.cellsOf g.type)) = xs[i]?) →
    (∀ k ∈ DataW.weightsEach P ([f].map (·.type)) (xs.map (·.1)), k ≤ reachBytes) → ∃ y, B y ∧ Cells w (e y).cells (cs.drop off) := by
  intro H enc w spare held cs xs hl hcl hx hw
  match xs, hl with
  | [x], _ =>
    have h1 := hx 0 f rfl
    obtain ⟨y, hB, hk⟩ := h H enc w spare held _ x h1 (fun k hk => hw k (by simp [DataW.weightsEach, hk]))
    rw [ho, hC, List.take_of_length_le (by simp; omega)] at hk
    exact ⟨y, hB, hk⟩
/-- A struct's fields from off on read as e of something. -/
def OpnS {α : Type} (P : Program) (fs : List Field) (off len : Nat) (e : α → List PD) (B : α → Prop) (n : Nat) : Prop :=
  ∀ (H : Type) (enc : TypeId × Value → H) (w : World) (spare : Nat → Bool) (held : Bool) (cs : List Value) (xs : List (DataW H × List MemPlace)), xs.length = fs.length → cs.length = len →
    (∀ (i : Nat) (f : Field), fs[i]? = some f → DataW.trod enc P w 0 spare held n f.type ((cs.drop f.offset).take (P.cellsOf f.type)) = xs[i]?) →
    (∀ k ∈ DataW.weightsEach P (fs.map (·.type)) (xs.map (·.1)), k ≤ reachBytes) → ∃ y, B y ∧ Cells w (e y) (cs.drop off)
theorem opnS_one {P : Program} {α : Type} {e : α → PD} {B : α → Prop} {n off len : Nat} {f : Field} (ho : f.offset = off) (hC : off + P.cellsOf f.type = len) (h : OpnN P f.type e B n) : OpnS P [f] off len (fun y => (e y).cells) B n := by
  intro H enc w spare held cs xs hl hcl hx hw
  match xs, hl with
  | [x], _ =>
    have h1 := hx 0 f rfl
    obtain ⟨y, hB, hk⟩ := h H enc w spare held _ x h1 (fun k hk => hw k (by simp [DataW.weightsEach, hk]))
    rw [ho, List.take_of_length_le (by simp; omega)] at hk
    exact ⟨y, hB, hk⟩
theorem opnS_cons {P : Program} {α β : Type} {e : α → PD} {e2 : β → List PD} {B : α → Prop} {B2 : β → Prop} {n off off2 len : Nat} {f : Field} {fs : List Field} (ho : f.offset = off) (ho2 : off + P.cellsOf f.type = off2) (h : OpnN P f.type e B n) (h2 : OpnS P fs off2 len e2 B2 n) :
    OpnS P (f :: fs) off len (fun y : α × β => (e y.1).cells ++ e2 y.2) (fun y => B y.1 ∧ B2 y.2) n := by
  intro H enc w spare held cs xs hl hcl hx hw
  match xs, hl with
  | x :: xs, hl =>
    have h1 := hx 0 f rfl
    obtain ⟨y, hB, hk⟩ := h H enc w spare held _ x h1 (fun k hk => hw k (by simp [DataW.weightsEach, hk]))
    obtain ⟨y2, hB2, hk2⟩ := h2 H enc w spare held cs xs (by simpa using hl) hcl (fun i g hg => hx (i + 1) g (by simpa using hg)) (fun k hk => hw k (by simp [DataW.weightsEach, hk]))
    refine ⟨(y, y2), ⟨hB, hB2⟩, ?_⟩
    have e1 : cs.drop off = (cs.drop off).take (P.cellsOf f.type) ++ cs.drop off2 := by
      rw [← ho2, ← List.drop_drop, List.take_append_drop]
    rw [e1]
    rw [ho] at hk
    exact hk.append hk2
theorem opn_struct {P : Program} {t : TypeId} {α β : Type} {fs : Array Field} {d : α → List PD} {e : β → PD} {B : α → Prop} {n len : Nat} (f : α → β) (ht : P.underlying t = some (.struct fs)) (hC : P.cellsOf t = len) (he : ∀ y, (e (f y)).cells = d y)
    (h : ∀ m, m < n → OpnS P fs.toList 0 len d B m) : OpnN P t e (fun b => ∃ a, f a = b ∧ B a) n := by
  intro H enc w spare held cs x hx hw
  obtain ⟨xs, m, rfl, rfl, hl, hxl, hf⟩ := DataW.trod_struct ht hx
  obtain ⟨y, hB, hk⟩ := h m (by omega) H enc w spare held cs xs (by simpa using hxl) (by rw [hl, hC]) (fun i f hi => hf i f (by simpa using hi)) (fun k hk => hw k (by rw [DataW.weights, ht]; exact hk))
  refine ⟨f y, ⟨y, rfl, hB⟩, ?_⟩
  rw [he]
  simpa using hk
theorem OpnN.imp {α : Type} {P : Program} {t : TypeId} {e : α → PD} {B B' : α → Prop} {n : Nat} (h : OpnN P t e B n) (hb : ∀ a, B a → B' a) : OpnN P t e B' n := by
  intro H enc w spare held cs x hx hw
  obtain ⟨a, hB, hk⟩ := h H enc w spare held cs x hx hw
  exact ⟨a, hb a hB, hk⟩

theorem weights_of_each {H : Type} {P : Program} {ts : List TypeId} {ds : List (DataW H)} {j : Nat} {t : TypeId} {d : DataW H} (h : (DataW.weightsEach P ts ds).all (· ≤ reachBytes) = true) (ht : ts[j]? = some t) (hd : ds[j]? = some d) : ∀ n ∈ d.weights P t, n ≤ reachBytes := by
  intro n hn
  have := List.all_eq_true.1 h _ (DataW.weights_mem_each ht hd n hn)
  simpa using this
/-- A law's argument, by its reading. -/
theorem arg_opn {H : Type} {enc : TypeId × Value → H} {P : Program} {t : TypeId} {α : Type} {e : α → PD} {B : α → Prop} {W : World} {spare : Nat → Bool} {held : Bool} {v : Value} {x : DataW H} {p : List MemPlace} {ts : List TypeId} {ds : List (DataW H)} {j : Nat} (h : Opn P t e B)
    (hsz : (DataW.weightsEach P ts ds).all (· ≤ reachBytes) = true) (ht : ts[j]? = some t) (hd : ds[j]? = some x) (hv : DataW.Trod enc P W 0 spare held t v x p) : ∃ y, B y ∧ Cells W (e y).cells v.cells.toList := by
  obtain ⟨fuel, hf⟩ := hv
  exact h fuel H enc W spare held _ _ hf (weights_of_each hsz ht hd)
/-- The ghost at a call's start: all that lies there stays as it is. -/
def G0 (W : World) : Gh := { im := Old W, β := fun _ => 0, live := fun _ => False, own := fun _ => none, fz := fun g => g < W.heap.size }
theorem G0_hp (P : Program) (W : World) : Hp P (G0 W) W (bxOf []) :=
  ⟨fun b cells hc => (by cases b <;> simp [bxOf] at hc), fun b => (by cases b <;> simp [bxOf, G0]), fun b b' hl => False.elim hl, fun g o h => h, fun g p hg => (by cases hg), fun b hl => False.elim hl, fun b hl => False.elim hl⟩
theorem rep_agg {P : Program} {W : World} {i : Nat} {ps : List PD} {cs : Array Value} (h : Cells W ps cs.toList) : RepT P (G0 W) W (.t i) (.agg (ps.map .d)) (.agg cs) := by
  obtain ⟨h1, h2, h3⟩ := h
  refine ⟨cs, rfl, by simp [h1], fun u hu => ?_, fun j x u hx hu => ?_⟩
  · obtain ⟨j, hj, rfl⟩ := Array.mem_iff_getElem.1 hu
    have hj2 : j < ps.length := by rw [h1]; simpa using hj
    exact (h3 j ps[j] cs[j] (List.getElem?_eq_getElem hj2) (by simp [hj])).oneCell (h2 _ (List.getElem_mem hj2))
  · rw [List.getElem?_map] at hx
    obtain ⟨y, hy, rfl⟩ := Option.map_eq_some_iff.1 hx
    exact ⟨h3 j y u hy (by simpa using hu), h2 y (List.mem_of_getElem? hy)⟩
theorem rep_one {P : Program} {W : World} {i : Nat} {x : PD} {v : Value} (hs : x.scalar = true) (hv : v.cells = #[v]) (h : Cells W x.cells v.cells.toList) : RepT P (G0 W) W (.t i) (.d x) v := by
  have hc : x.cells = [x] := by cases x <;> first | rfl | simp [PD.scalar] at hs
  rw [hc, hv] at h
  exact ⟨h.2.2 0 x v rfl rfl, hs⟩
/-- A call that is told to give true, made from outside. -/
theorem call_true {P : Program} {f : Nat} {args : List PV} {vs : Array Value} {W : World} (h : BRet P f [] args (.bool true) []) (hl : vs.size = args.length) (ha : ∀ (i : Nat) x u, args[i]? = some x → vs[i]? = some u → RepT P (G0 W) W (.t i) x u) (htb : TabOk P (fun g => g < W.heap.size) W) :
    Calls P f vs W fun e W' => e = .returned (.bool true) ∧ Below W.heap.size W W' := by
  refine Calls.mono (h.2.2 (G0 W) W vs (fun _ => False) hl ha (G0_hp P W) (fun g p hg => by cases hg) (fun b hl => False.elim hl) (fun g hg => ⟨hg, id⟩) (fun g h1 _ => h1) htb) ?_
  rintro e W' ⟨v, G', rfl, hv, -, hx, -⟩
  obtain ⟨hv, -⟩ := hv
  cases hv
  exact ⟨rfl, hx.os, hx.tape, hx.output, hx.size, fun k hk => hx.old k hk id⟩
end Go.Bee

/- Events and lists of texts: sizes, copies, the law. -/
namespace Go.Bee
theorem RepD.strs {S : Nat → Nat → Prop} {w : World} {sz : Nat} {l : List PD} {v : Value} (h : RepD S w (.sl sz l) v) : ∀ s, PD.str s ∈ flat l → s.length ≤ 140737488355328 := by
  intro s hs
  cases h with
  | nil _ => cases hs
  | emp _ _ _ => cases hs
  | sl _ _ g o c vs hb hc hu hs' hl hv hr =>
    obtain ⟨i, hi, he⟩ := List.mem_iff_getElem.1 hs
    exact (hr i _ vs[i] ((List.getElem?_eq_getElem hi).trans (congrArg some he)) (List.getElem?_eq_getElem (by omega))).slen
theorem BRet.strs {P : Program} {f : Nat} {args : List PV} {r : PV} (i : Nat) {sz : Nat} {l : List PD} (hf : isFn P f = true) (ha : args[i]? = some (.d (.sl sz l))) (h : (∀ s, PD.str s ∈ flat l → s.length ≤ 140737488355328) → BRet P f [] args r []) : BRet P f [] args r [] :=
  BRet.know hf rfl (fun G w vs hvs hargs => by
    have hi : i < vs.size := by rw [hvs]; exact (List.getElem?_eq_some_iff.1 ha).1
    exact (hargs i _ vs[i] ha (Array.getElem?_eq_getElem hi)).1.strs) h
end Go.Bee
namespace Go.Bee.C24d
open Go Go.Bee Go.Proofs Go.Bee.Ty Go.Bee.C23 Go.Bee.C23s Go.Bee.Da Go.Bee.C24 Go.Bee.C24c
set_option linter.unusedVariables false
set_option maxRecDepth 20000
attribute [local irreducible] Go.Bee.bwp
def szTx (s : Tx) (x : Int) : Int := if x - s.length < 0 then -1 else x - s.length
theorem szTx_nice : Nice szTx := fun t x hx => by unfold szTx; split <;> omega
theorem flat_txs (l : List Tx) : flat (l.map PD.str) = l.map .str := by
  induction l with
  | nil => rfl
  | cons a l ih => simp only [flat, List.map_cons, List.flatMap_cons] at ih ⊢; rw [ih]; rfl
theorem szStringS_b (l : List Tx) (x : Int) (h0 : 0 ≤ x) (hx : x ≤ 1048576) : BRet Tryz.prog 19 [] [.d (.sl 1 (l.map .str)), .int x] (.int (szL szTx l x)) [] := by
  refine BRet.len 0 (by kernel_rfl) rfl fun hl => ?_
  refine BRet.strs 0 (by kernel_rfl) rfl fun hls => ?_
  have hl2 : ∀ s ∈ l, s.length ≤ 140737488355328 := fun s h => hls s (by rw [flat_txs]; exact List.mem_map_of_mem h)
  clear hls
  simp only [List.length_map] at hl
  refine bof Tryz.func19 ?_
  have hlen : ∀ m : List PD, m = l.map .str → m.length = l.length := fun m h => by rw [h]; simp
  generalize hr : szL szTx l x = r
  unfold szL at hr
  by_cases hneg : x - (l.length : Int) < 0
  · rw [if_pos hneg] at hr
    subst hr
    refine bgo ?_
    trivial
  · rw [if_neg hneg] at hr
    refine bgo ?_
    refine b_lp (ι := Nat × Int) (fun i => [(0, .d (.sl 1 (l.map .str))), (1, .int i.2), (5, .int i.1)]) (fun _ => []) (fun i => i.1 ≤ l.length ∧ 0 ≤ i.2 ∧ i.2 ≤ x ∧ szF szTx (l.drop i.1) i.2 = r) (fun i => l.length - i.1) (0, x - l.length) hs ⟨Nat.zero_le _, by dsimp only; omega, by dsimp only; omega, hr⟩ ?_
    clear hr
    rintro ⟨k, y⟩ ⟨hk, hy0, hyx, hj⟩ I nx
    dsimp only at hk hy0 hyx hj ⊢
    by_cases hlt : k < l.length
    · have hx : l[k]? = some l[k] := List.getElem?_eq_getElem hlt
      have hsl := hl2 l[k] (List.getElem_mem hlt)
      rw [szF_step hlt] at hj
      unfold szTx at hj
      have hb : (k : Int) + 1 ≤ 1099511627776000 := by omega
      generalize hgs : l[k] = s at *
      clear hl2
      by_cases hb2 : y - (s.length : Int) < 0
      · rw [if_pos hb2, if_pos (by decide)] at hj
        subst hj
        refine bgo ?_
        trivial
      · rw [if_neg hb2, if_neg hb2] at hj
        refine bgo ?_
        exact nx.go (k + 1, y - s.length) ⟨hlt, by dsimp only; omega, by dsimp only; omega, hj⟩ (by dsimp only; omega) hs
    · have hk' : k = l.length := by omega
      subst hk'
      rw [List.drop_length] at hj
      have hj2 : y = r := hj
      subst hj2
      clear hj hl2
      refine bgo ?_
      refine wk_rfl ?_
      refine bgo ?_
      trivial
theorem toStringS_b (l : List Tx) (hl : l.length ≤ 1048576) : BRet Tryz.prog 24 [] [.d (.sl 1 (l.map .str))] (.own 9 1 (l.map .str)) [] := by
  refine bof Tryz.func24 ?_
  refine bgo ?_
  refine ⟨by omega, by omega, ?_⟩
  refine b_loop (fun n st => ∃ k : Nat, n = l.length - k ∧ k ≤ l.length ∧ st.tm 0 = .d (.sl 1 (l.map .str)) ∧ st.tm 3 = .rsl (.t 7) 9 1 l.length ∧ st.tm 4 = .int k ∧ st.bx (.t 7) = some (filling (l.map .str) str0 l.length k) ∧ ∀ b, b ≠ .t 7 → st.bx b = none) l.length
    ⟨0, rfl, Nat.zero_le _, rfl, rfl, rfl, by rw [filling_0]; rfl, fun b hb => by simp [bx_put, bx_strip1, bx_sbx, bx_init, bxOf_nil, hb]⟩ ?_
  rintro n st ⟨k, rfl, hk, t0, t3, t4, t7, hb⟩
  by_cases hlt : k < l.length
  · have hx : l[k]? = some l[k] := List.getElem?_eq_getElem hlt
    have hfl := filling_len (l := l.map PD.str) (zero := str0) (n := l.length) (k := k) (sz := 1) rfl (fun x hx => by obtain ⟨y, _, rfl⟩ := List.mem_map.1 hx; rfl) (by simp) hk
    have hfs := filling_step (l := l.map PD.str) (zero := str0) (n := l.length) (k := k) (sz := 1) rfl (fun x hx => by obtain ⟨y, _, rfl⟩ := List.mem_map.1 hx; rfl) (by simp) (by simpa using hlt)
    rw [Nat.mul_one] at hfs hfl
    have hfb : (List.take k (filling (l.map PD.str) str0 l.length k) ++ [PV.str l[k]] ++ List.drop (k + 1) (filling (l.map PD.str) str0 l.length k)).map PV.bC = filling (l.map .str) str0 l.length (k + 1) := by
      rw [List.map_append, List.map_append, List.map_take, List.map_drop, filling_bC rfl, ← hfs, List.getElem_map]; rfl
    refine bgo ?_
    refine ⟨by omega, _, _, Weak.bC (.t 7), by omega, k + 1, rfl, hlt, t0, t3, rfl, ?_, fun b hne => ?_⟩
    · refine Eq.trans ?_ (congrArg some hfb)
      simp [bx_put, bx_strip1, bx_sbx]
    have := hb b hne
    simp [bx_put, bx_strip1, bx_sbx, hne, this]
  · have hk' : k = l.length := by omega
    subst hk'
    refine bgo ?_
    refine made (t := 3) (l := l.map .str) t3 (t7.trans ?_) (by simp) (fun x hx => by obtain ⟨y, _, rfl⟩ := List.mem_map.1 hx; rfl) hb fun s s3 hb => ?_
    · have := filling_n (l.map PD.str) str0
      rw [List.length_map] at this
      rw [this]
    refine bgo ?_
    trivial
theorem eqStringS_s (l : List Tx) : BRet Tryz.prog 29 [] [.d (.sl 1 (l.map .str)), .d (.sl 1 (l.map .str))] (.bool true) [] := by
  refine BRet.len 0 (by kernel_rfl) rfl fun hl => ?_
  refine bof Tryz.func29 ?_
  have hll : (l.map PD.str).length = l.length := by simp
  have hli : ∀ i (h : i < l.length), (l.map PD.str)[i]? = some (.str l[i]) := fun i h => by simp [h]
  generalize l.map PD.str = q at *
  refine bgo ?_
  refine b_lp (ι := Nat × Unit) (fun i => [(0, .d (.sl 1 q)), (1, .d (.sl 1 q)), (5, .int i.1)]) (fun _ => []) (fun i => i.1 ≤ l.length) (fun i => l.length - i.1) (0, ()) hs (Nat.zero_le _) ?_
  rintro ⟨i, u⟩ hi I nx
  dsimp only at hi ⊢
  by_cases hlt : i < l.length
  · have hx := hli i hlt
    generalize l[i] = x at *
    have hib : (i : Int) + 1 ≤ 1099511627776000 := by omega
    have hlt2 : i < q.length := by omega
    clear hli
    refine bgo ?_
    exact nx.go (i + 1, ()) hlt (by dsimp only; omega) hs
  · have hlt2 : ¬ i < q.length := by omega
    refine bgo ?_
    refine wk_rfl ?_
    refine bgo ?_
    trivial
theorem opnTxs (n : Nat) : OpnN Tryz.prog 22 (fun l : List Tx => .sl 1 (l.map .str)) (fun _ => True) n :=
  (opn_slice (sz := 1) Tryz.underlying22 (by kernel_rfl) (by decide) (of_decide_eq_true (by kernel_rfl)) (fun m _ => opn_str Tryz.underlying9 m)).imp fun _ _ => trivial
end Go.Bee.C24d

/- Conditions: data, sizes, forms, English; no program in sight. -/
namespace Go.Bee.Cn
open Go Go.Bee Go.Bee.Ty Go.Bee.C23s Go.Bee.Da
set_option linter.unusedVariables false
inductive Cd where
  | mk (op : Int) (nm : List UInt8) (dy : Int) (ps : List Cd)
def Cd.op : Cd → Int | .mk o _ _ _ => o
def Cd.nm : Cd → List UInt8 | .mk _ n _ _ => n
def Cd.dy : Cd → Int | .mk _ _ d _ => d
def Cd.ps : Cd → List Cd | .mk _ _ _ l => l
mutual
def Cd.e : Cd → PD
  | .mk o n d ps => .agg [.int .i64 o, .str n, .int .i64 d, .sl 4 (Cd.es ps)]
def Cd.es : List Cd → List PD
  | [] => []
  | c :: l => Cd.e c :: Cd.es l
end
theorem es_map : ∀ l : List Cd, Cd.es l = l.map Cd.e
  | [] => by rw [Cd.es]; rfl
  | c :: l => by rw [Cd.es, es_map l]; rfl
theorem Cd.e_eq (c : Cd) : c.e = .agg [.int .i64 c.op, .str c.nm, .int .i64 c.dy, .sl 4 (c.ps.map Cd.e)] := by
  cases c; rw [Cd.e, es_map]; rfl
mutual
def Cd.size : Cd → Nat
  | .mk _ _ _ ps => 1 + Cd.sizes ps
def Cd.sizes : List Cd → Nat
  | [] => 0
  | c :: l => Cd.size c + Cd.sizes l
end
theorem size_eq (c : Cd) : c.size = 1 + Cd.sizes c.ps := by cases c; rw [Cd.size]; rfl
theorem sizes_nil : Cd.sizes [] = 0 := by rw [Cd.sizes]
theorem sizes_cons (c : Cd) (l : List Cd) : Cd.sizes (c :: l) = c.size + Cd.sizes l := by rw [Cd.sizes]
theorem size_mem : ∀ {l : List Cd} {x : Cd}, x ∈ l → x.size ≤ Cd.sizes l
  | c :: l, x, h => by
    rw [sizes_cons]
    rcases List.mem_cons.1 h with rfl | h
    · omega
    · have := size_mem h; omega
theorem sizes_len : ∀ l : List Cd, l.length ≤ Cd.sizes l
  | [] => by simp
  | c :: l => by
    have h1 := sizes_len l
    have h2 := size_eq c
    rw [sizes_cons, List.length_cons]; omega
theorem sizes_drop : ∀ (l : List Cd) (k : Nat) (h : k < l.length), Cd.sizes (l.drop k) = l[k].size + Cd.sizes (l.drop (k + 1)) := fun l k h => by
  rw [List.drop_eq_getElem_cons h, sizes_cons]
theorem size_part {c x : Cd} (h : x ∈ c.ps) : x.size < c.size := by
  have := size_mem h
  have := size_eq c
  omega
theorem Cd.ind {P : Cd → Prop} (h : ∀ c, (∀ x ∈ c.ps, P x) → P c) : ∀ c, P c := by
  suffices hs : ∀ n c, Cd.size c ≤ n → P c from fun c => hs c.size c (Nat.le_refl _)
  intro n
  induction n with
  | zero => intro c hc; have := size_eq c; omega
  | succ n ih => exact fun c hc => h c fun x hx => ih x (by have := size_part hx; omega)
/-! What the laws let in. -/
mutual
def szC : Cd → Int → Int
  | .mk _ n _ ps, x => if x - n.length < 0 then -1 else if x - n.length - ps.length < 0 then -1 else szCf ps (x - n.length - ps.length)
def szCf : List Cd → Int → Int
  | [], x => x
  | c :: l, x => if szC c x < 0 then -1 else szCf l (szC c x)
end
theorem szCf_eq : ∀ (l : List Cd) (x : Int), szCf l x = szF szC l x
  | [], x => by rw [szCf]; rfl
  | c :: l, x => by rw [szCf, szF, szCf_eq l]
theorem szC_eq (c : Cd) (x : Int) : szC c x = if x - c.nm.length < 0 then -1 else szL szC c.ps (x - c.nm.length) := by
  cases c; rw [szC, szCf_eq]; rfl
theorem szF_niceM {α : Type} {f : α → Int → Int} : ∀ (l : List α), (∀ a ∈ l, ∀ x, 0 ≤ x → f a x = -1 ∨ (0 ≤ f a x ∧ f a x ≤ x)) → ∀ x : Int, 0 ≤ x → szF f l x = -1 ∨ (0 ≤ szF f l x ∧ szF f l x ≤ x)
  | [], _, x, hx => .inr ⟨hx, Int.le_refl _⟩
  | a :: l, h, x, hx => by
    unfold szF
    split
    · exact .inl rfl
    · rcases h a (List.mem_cons_self ..) x hx with e | ⟨e1, e2⟩
      · omega
      · rcases szF_niceM l (fun b hb => h b (List.mem_cons_of_mem _ hb)) (f a x) e1 with e | ⟨e3, e4⟩
        · exact .inl e
        · exact .inr ⟨e3, by omega⟩
theorem szC_nice : Nice szC := fun c => by
  refine Cd.ind (P := fun c => ∀ x, 0 ≤ x → szC c x = -1 ∨ (0 ≤ szC c x ∧ szC c x ≤ x)) (fun c ih x hx => ?_) c
  rw [szC_eq]
  split
  · exact .inl rfl
  · unfold szL
    split
    · exact .inl rfl
    · rcases szF_niceM c.ps ih (x - c.nm.length - c.ps.length) (by omega) with e | ⟨e1, e2⟩
      · exact .inl e
      · exact .inr ⟨e1, by omega⟩
theorem szF_size : ∀ (l : List Cd), (∀ a ∈ l, ∀ x : Int, 0 ≤ x → 0 ≤ szC a x → (a.size : Int) ≤ 1 + x - szC a x) → ∀ x : Int, 0 ≤ x → 0 ≤ szF szC l x → (Cd.sizes l : Int) ≤ l.length + x - szF szC l x
  | [], _, x, hx, _ => by
    rw [sizes_nil]
    show (0 : Int) ≤ ((0 : Nat) : Int) + x - x
    omega
  | a :: l, h, x, hx, hn => by
    rw [sizes_cons]
    unfold szF at hn ⊢
    split at hn
    · omega
    · rename_i hb
      rw [if_neg hb]
      have h1 := h a (List.mem_cons_self ..) x hx (by omega)
      have h2 := szF_size l (fun b hb => h b (List.mem_cons_of_mem _ hb)) (szC a x) (by omega) hn
      rw [List.length_cons]
      omega
theorem szC_size (c : Cd) : ∀ x : Int, 0 ≤ x → 0 ≤ szC c x → (c.size : Int) ≤ 1 + x - szC c x := by
  refine Cd.ind (P := fun c => ∀ x : Int, 0 ≤ x → 0 ≤ szC c x → (c.size : Int) ≤ 1 + x - szC c x) (fun c ih x hx hn => ?_) c
  rw [szC_eq] at hn ⊢
  split at hn
  · omega
  · rename_i hb
    rw [if_neg hb]
    unfold szL at hn ⊢
    split at hn
    · omega
    · rename_i hb2
      rw [if_neg hb2]
      have h2 := szF_size c.ps ih (x - c.nm.length - c.ps.length) (by omega) hn
      rw [size_eq]
      omega
/-! The forms. -/
def pkN (o : Int) : Nat := if o = 4 then 1 else if o = 5 ∨ o = 6 then 2 else 0
def formS (o : Int) (n : List UInt8) (d : Int) (k : Nat) : Bool :=
  inB o 1 6 && decide (k = pkN o) && (if o = 2 then vName n else n.isEmpty) && (if o = 3 then inB d 0 36524 else decide (d = 0))
mutual
def forms : Cd → Bool
  | .mk o n d ps => formS o n d ps.length && formsL ps
def formsL : List Cd → Bool
  | [] => true
  | c :: l => forms c && formsL l
end
theorem formsL_eq : ∀ l : List Cd, formsL l = l.all forms
  | [] => by rw [formsL]; rfl
  | c :: l => by rw [formsL, formsL_eq l]; rfl
theorem forms_eq (c : Cd) : forms c = (formS c.op c.nm c.dy c.ps.length && c.ps.all forms) := by
  cases c; rw [forms, formsL_eq]; rfl
mutual
def cnt : Cd → Int → Int
  | .mk o n d ps, so => if 15 < so + 1 then -1 else if formS o n d ps.length = true then cntL ps (so + 1) else -1
def cntL : List Cd → Int → Int
  | [], x => x
  | c :: l, x => if cnt c x < 0 then -1 else cntL l (cnt c x)
end
theorem cntL_eq : ∀ (l : List Cd) (x : Int), cntL l x = szF cnt l x
  | [], x => by rw [cntL]; rfl
  | c :: l, x => by rw [cntL, szF, cntL_eq l]
theorem cnt_eq (c : Cd) (so : Int) : cnt c so = if 15 < so + 1 then -1 else if formS c.op c.nm c.dy c.ps.length = true then szF cnt c.ps (so + 1) else -1 := by
  cases c; rw [cnt, cntL_eq]; rfl
theorem szF_cnt : ∀ (l : List Cd), (∀ a ∈ l, ∀ x : Int, 0 ≤ x → x ≤ 15 → cnt a x = if forms a = true ∧ x + a.size ≤ 15 then x + a.size else -1) → ∀ x : Int, 0 ≤ x → x ≤ 15 →
    szF cnt l x = if l.all forms = true ∧ x + Cd.sizes l ≤ 15 then x + Cd.sizes l else -1
  | [], _, x, h0, h1 => by
    rw [sizes_nil, if_pos ⟨rfl, by omega⟩]
    show x = x + ((0 : Nat) : Int)
    omega
  | a :: l, h, x, h0, h1 => by
    have h2 := h a (List.mem_cons_self ..) x h0 h1
    rw [sizes_cons]
    unfold szF
    by_cases hf : forms a = true ∧ x + a.size ≤ 15
    · rw [if_pos hf] at h2
      have h3 := szF_cnt l (fun b hb => h b (List.mem_cons_of_mem _ hb)) (x + a.size) (by omega) hf.2
      rw [h2, if_neg (by omega), h3, List.all_cons, hf.1, Bool.true_and]
      by_cases hl : l.all forms = true ∧ x + a.size + Cd.sizes l ≤ 15
      · rw [if_pos hl, if_pos ⟨hl.1, by omega⟩]; omega
      · rw [if_neg hl, if_neg fun hh => hl ⟨hh.1, by omega⟩]
    · rw [if_neg hf] at h2
      rw [h2, if_pos (by decide), if_neg]
      rintro ⟨h3, h4⟩
      rw [List.all_cons, Bool.and_eq_true] at h3
      exact hf ⟨h3.1, by omega⟩
theorem cnt_val (c : Cd) : ∀ so : Int, 0 ≤ so → so ≤ 15 → cnt c so = if forms c = true ∧ so + c.size ≤ 15 then so + c.size else -1 := by
  refine Cd.ind (P := fun c => ∀ so : Int, 0 ≤ so → so ≤ 15 → cnt c so = if forms c = true ∧ so + c.size ≤ 15 then so + c.size else -1) (fun c ih so h0 h1 => ?_) c
  have hsz := size_eq c
  rw [cnt_eq, forms_eq]
  by_cases h15 : 15 < so + 1
  · rw [if_pos h15, if_neg (by omega)]
  rw [if_neg h15]
  cases hf : formS c.op c.nm c.dy c.ps.length
  · rw [if_neg (by decide), if_neg (by simp)]
  · rw [if_pos rfl, szF_cnt c.ps ih (so + 1) (by omega) (by omega), Bool.true_and]
    by_cases hl : c.ps.all forms = true ∧ so + 1 + Cd.sizes c.ps ≤ 15
    · rw [if_pos hl, if_pos ⟨hl.1, by omega⟩]; omega
    · rw [if_neg hl, if_neg fun hh => hl ⟨hh.1, by omega⟩]
theorem cnt_in (c : Cd) {so : Int} (h0 : 0 ≤ so) (h1 : so ≤ 15) : cnt c so = -1 ∨ (0 ≤ cnt c so ∧ cnt c so ≤ 15) := by
  rw [cnt_val c so h0 h1]
  split <;> omega
def okCd (c : Cd) : Bool := forms c && decide (c.size ≤ 15)
theorem cnt_ok (c : Cd) : decide (cnt c 0 > 0) = okCd c := by
  have := size_eq c
  rw [cnt_val c 0 (by omega) (by omega)]
  unfold okCd
  cases forms c
  · simp
  · by_cases h : c.size ≤ 15
    · rw [if_pos ⟨rfl, by omega⟩]; simp [h]; omega
    · rw [if_neg (by omega)]; simp [h]
/-! English. -/
mutual
def eng : Cd → List UInt8
  | .mk o n d ps =>
    if o = 1 then [105, 110, 32, 97, 108, 108, 32, 99, 97, 115, 101, 115]
    else if o = 2 then n ++ [32, 105, 115, 32, 107, 110, 111, 119, 110]
    else if o = 3 then [105, 116, 32, 105, 115, 32] ++ dateT d ++ [32, 111, 114, 32, 108, 97, 116, 101, 114]
    else if o = 4 then [105, 116, 32, 105, 115, 32, 110, 111, 116, 32, 116, 104, 101, 32, 99, 97, 115, 101, 32, 116, 104, 97, 116, 32] ++ (engs ps).getD 0 []
    else if o = 5 then [98, 111, 116, 104, 32] ++ (engs ps).getD 0 [] ++ [32, 97, 110, 100, 32] ++ (engs ps).getD 1 []
    else [101, 105, 116, 104, 101, 114, 32] ++ (engs ps).getD 0 [] ++ [32, 111, 114, 32] ++ (engs ps).getD 1 []
def engs : List Cd → List (List UInt8)
  | [] => []
  | c :: l => eng c :: engs l
end
theorem engs_eq : ∀ l : List Cd, engs l = l.map eng
  | [] => by rw [engs]; rfl
  | c :: l => by rw [engs, engs_eq l]; rfl
theorem len_two {α : Type} {l : List α} (h : l.length = 2) : ∃ a b, l = [a, b] := by
  match l, h with
  | [a, b], _ => exact ⟨a, b, rfl⟩
theorem forms_cases {c : Cd} (h : forms c = true) : (c.op = 1 ∧ c.ps = []) ∨ (c.op = 2 ∧ c.ps = [] ∧ vName c.nm = true) ∨ (c.op = 3 ∧ c.ps = [] ∧ 0 ≤ c.dy ∧ c.dy ≤ 36524) ∨ (c.op = 4 ∧ ∃ a, c.ps = [a] ∧ forms a = true) ∨
    (c.op = 5 ∧ ∃ a b, c.ps = [a, b] ∧ forms a = true ∧ forms b = true) ∨ (c.op = 6 ∧ ∃ a b, c.ps = [a, b] ∧ forms a = true ∧ forms b = true) := by
  rw [forms_eq] at h
  obtain ⟨o, n, d, ps⟩ := c
  change (formS o n d ps.length && ps.all forms) = true at h
  simp only [Cd.op, Cd.nm, Cd.dy, Cd.ps]
  unfold formS at h
  rw [Bool.and_eq_true, Bool.and_eq_true, Bool.and_eq_true, Bool.and_eq_true] at h
  obtain ⟨⟨⟨⟨h1, h3⟩, h4⟩, h5⟩, h6⟩ := h
  have h3 := of_decide_eq_true h3
  unfold inB at h1
  rw [Bool.and_eq_true] at h1
  have h2 := of_decide_eq_true h1.2
  have h1 := of_decide_eq_true h1.1
  rcases (by omega : o = 1 ∨ o = 2 ∨ o = 3 ∨ o = 4 ∨ o = 5 ∨ o = 6) with rfl | rfl | rfl | rfl | rfl | rfl
  · exact .inl ⟨rfl, List.eq_nil_of_length_eq_zero h3⟩
  · exact .inr (.inl ⟨rfl, List.eq_nil_of_length_eq_zero h3, h4⟩)
  · rw [if_pos rfl] at h5
    unfold inB at h5
    rw [Bool.and_eq_true] at h5
    have h7 := of_decide_eq_true h5.1
    have h8 := of_decide_eq_true h5.2
    exact .inr (.inr (.inl ⟨rfl, List.eq_nil_of_length_eq_zero h3, by omega, by omega⟩))
  · obtain ⟨a, rfl⟩ := List.length_eq_one_iff.1 (show ps.length = 1 from h3)
    exact .inr (.inr (.inr (.inl ⟨rfl, a, rfl, List.all_eq_true.1 h6 a (by simp)⟩)))
  · obtain ⟨a, b, rfl⟩ := len_two (show ps.length = 2 from h3)
    exact .inr (.inr (.inr (.inr (.inl ⟨rfl, a, b, rfl, List.all_eq_true.1 h6 a (by simp), List.all_eq_true.1 h6 b (by simp)⟩))))
  · obtain ⟨a, b, rfl⟩ := len_two (show ps.length = 2 from h3)
    exact .inr (.inr (.inr (.inr (.inr ⟨rfl, a, b, rfl, List.all_eq_true.1 h6 a (by simp), List.all_eq_true.1 h6 b (by simp)⟩))))
theorem eng_len (c : Cd) : forms c = true → (eng c).length ≤ 30 * c.size := by
  refine Cd.ind (P := fun c => forms c = true → (eng c).length ≤ 30 * c.size) (fun c ih h => ?_) c
  have hsz := size_eq c
  have hc := forms_cases h
  obtain ⟨o, n, d, ps⟩ := c
  simp only [Cd.op, Cd.nm, Cd.dy, Cd.ps] at hc ih hsz
  rcases hc with ⟨rfl, rfl⟩ | ⟨rfl, rfl, hv⟩ | ⟨rfl, rfl, hd⟩ | ⟨rfl, a, rfl, ha⟩ | ⟨rfl, a, b, rfl, ha, hb⟩ | ⟨rfl, a, b, rfl, ha, hb⟩
  · rw [eng, if_pos rfl]; simp only [List.length_cons, List.length_nil]; omega
  · have := (Go.Bee.C24d.vName_len hv).2
    rw [eng, if_neg (by decide), if_pos rfl]; simp only [List.length_append, List.length_cons, List.length_nil]; omega
  · have := Go.Bee.C24d.dateT_len hd.1 hd.2
    rw [eng, if_neg (by decide), if_neg (by decide), if_pos rfl]; simp only [List.length_append, List.length_cons, List.length_nil]; omega
  · have h1 := ih a (by simp) ha
    rw [sizes_cons, sizes_nil] at hsz
    rw [eng, if_neg (by decide), if_neg (by decide), if_neg (by decide), if_pos rfl, engs_eq]
    show (_ ++ eng a).length ≤ _
    simp only [List.length_append, List.length_cons, List.length_nil]; omega
  · have h1 := ih a (by simp) ha
    have h2 := ih b (by simp) hb
    rw [sizes_cons, sizes_cons, sizes_nil] at hsz
    rw [eng, if_neg (by decide), if_neg (by decide), if_neg (by decide), if_neg (by decide), if_pos rfl, engs_eq]
    show (_ ++ eng a ++ _ ++ eng b).length ≤ _
    simp only [List.length_append, List.length_cons, List.length_nil]; omega
  · have h1 := ih a (by simp) ha
    have h2 := ih b (by simp) hb
    rw [sizes_cons, sizes_cons, sizes_nil] at hsz
    rw [eng, if_neg (by decide), if_neg (by decide), if_neg (by decide), if_neg (by decide), if_neg (by decide), engs_eq]
    show (_ ++ eng a ++ _ ++ eng b).length ≤ _
    simp only [List.length_append, List.length_cons, List.length_nil]; omega
end Go.Bee.Cn

/- Conditions: the laws' sizes, copies and comparison. -/
namespace Go.Bee.C24n
open Go Go.Bee Go.Proofs Go.Bee.Ty Go.Bee.Cn
theorem bPk : evBuildSlice Tryz.prog 36 7 [(0, .d (.int .i64 (-1))), (1, .d (.int .i64 0)), (2, .d (.int .i64 0)), (3, .d (.int .i64 0)), (4, .d (.int .i64 1)), (5, .d (.int .i64 2)), (6, .d (.int .i64 2))] = some (.own 3 1 [.int .i64 (-1), .int .i64 0, .int .i64 0, .int .i64 0, .int .i64 1, .int .i64 2, .int .i64 2]) := by kernel_rfl
theorem tys : type_of% (And.intro Go.Bee.C24d.tys (And.intro Cd.e_eq bPk)) := And.intro Go.Bee.C24d.tys (And.intro Cd.e_eq bPk)
end Go.Bee.C24n
namespace Go.Bee.C24n
open Go Go.Bee Go.Proofs Go.Bee.Ty Go.Bee.C23 Go.Bee.C23s Go.Bee.Da Go.Bee.C24 Go.Bee.C24c Go.Bee.C24d Go.Bee.Cn
set_option linter.unusedVariables false
set_option maxRecDepth 20000
attribute [local irreducible] Go.Bee.bwp
theorem szConditionS_b (l : List Cd) (ih : ∀ c ∈ l, ∀ x : Int, 0 ≤ x → x ≤ 1048576 → BRet Tryz.prog 92 [] [.agg [.int c.op, .str c.nm, .int c.dy, .d (.sl 4 (c.ps.map Cd.e))], .int x] (.int (szC c x)) [])
    (x : Int) (h0 : 0 ≤ x) (hx : x ≤ 1048576) : BRet Tryz.prog 124 [] [.d (.sl 4 (l.map Cd.e)), .int x] (.int (szL szC l x)) [] := by
  refine BRet.len 0 (by kernel_rfl) rfl fun hl => ?_
  simp only [List.length_map] at hl
  refine bof Tryz.func124 ?_
  generalize hr : szL szC l x = r
  unfold szL at hr
  by_cases hneg : x - (l.length : Int) < 0
  · rw [if_pos hneg] at hr
    subst hr
    refine bgo ?_
    trivial
  · rw [if_neg hneg] at hr
    refine bgo ?_
    refine b_lp (ι := Nat × Int) (fun i => [(0, .d (.sl 4 (l.map Cd.e))), (1, .int i.2), (5, .int i.1)]) (fun _ => []) (fun i => i.1 ≤ l.length ∧ 0 ≤ i.2 ∧ i.2 ≤ x ∧ szF szC (l.drop i.1) i.2 = r) (fun i => l.length - i.1) (0, x - l.length) hs ⟨Nat.zero_le _, by dsimp only; omega, by dsimp only; omega, hr⟩ ?_
    clear hr
    rintro ⟨k, y⟩ ⟨hk, hy0, hyx, hj⟩ I nx
    dsimp only at hk hy0 hyx hj ⊢
    by_cases hlt : k < l.length
    · have hx : l[k]? = some l[k] := List.getElem?_eq_getElem hlt
      have hc := ih l[k] (List.getElem_mem hlt) y hy0 (by omega)
      have hn := szC_nice l[k] y hy0
      rw [szF_step hlt] at hj
      have hb : (k : Int) + 1 ≤ 1099511627776000 := by omega
      generalize hgs : l[k] = s at *
      generalize szC s y = z at *
      clear ih
      by_cases hb2 : z < 0
      · rw [if_pos hb2] at hj
        subst hj
        refine bgo ?_
        refine b_call hc rfl rfl rfl rfl ?_
        refine bgo ?_
        trivial
      · rw [if_neg hb2] at hj
        refine bgo ?_
        refine b_call hc rfl rfl rfl rfl ?_
        refine bgo ?_
        exact nx.go (k + 1, z) ⟨hlt, by dsimp only; omega, by dsimp only; omega, hj⟩ (by dsimp only; omega) hs
    · have hk' : k = l.length := by omega
      subst hk'
      rw [List.drop_length] at hj
      have hj2 : y = r := hj
      subst hj2
      clear hj ih
      refine bgo ?_
      refine wk_rfl ?_
      refine bgo ?_
      trivial
theorem szCondition_b (c : Cd) : ∀ x : Int, 0 ≤ x → x ≤ 1048576 → BRet Tryz.prog 92 [] [.agg [.int c.op, .str c.nm, .int c.dy, .d (.sl 4 (c.ps.map Cd.e))], .int x] (.int (szC c x)) [] := by
  refine Cd.ind (P := fun c => ∀ x : Int, 0 ≤ x → x ≤ 1048576 → BRet Tryz.prog 92 [] [.agg [.int c.op, .str c.nm, .int c.dy, .d (.sl 4 (c.ps.map Cd.e))], .int x] (.int (szC c x)) []) (fun c ih x h0 hx => ?_) c
  refine BRet.aslen 0 1 (by kernel_rfl) rfl rfl fun hl => ?_
  have hc := fun h1 => szConditionS_b c.ps ih (x - c.nm.length) h1 (by omega)
  have hn := szL_nice szC_nice c.ps (x - c.nm.length)
  rw [szC_eq]
  clear ih
  refine bof Tryz.func92 ?_
  generalize c.op = o at *
  generalize c.nm = n at *
  generalize c.dy = d at *
  generalize c.ps = ps at *
  by_cases h : x - (n.length : Int) < 0
  · rw [if_pos h]
    refine bgo ?_
    trivial
  · rw [if_neg h]
    have hc := hc (by omega)
    have hn := hn (by omega)
    generalize szL szC ps (x - (n.length : Int)) = z at *
    refine bgo ?_
    refine b_call hc rfl rfl rfl rfl ?_
    by_cases hz : z < 0
    · obtain rfl : z = -1 := by omega
      refine bgo ?_
      trivial
    · refine bgo ?_
      trivial
def Cd.z : List PV := [.int 0, .d (.str []), .int 0, .nilS]
theorem toConditionS_b (l : List Cd) (hl : l.length ≤ 1048576) (ih : ∀ c ∈ l, BRet Tryz.prog 98 [] [.agg [.int c.op, .str c.nm, .int c.dy, .d (.sl 4 (c.ps.map Cd.e))]] (.agg [.int c.op, .str c.nm, .int c.dy, .own 64 4 (c.ps.map Cd.e)]) []) :
    BRet Tryz.prog 130 [] [.d (.sl 4 (l.map Cd.e))] (.own 64 4 (l.map Cd.e)) [] := by
  refine bof Tryz.func130 ?_
  have hce : ∀ x ∈ l.map Cd.e, x.cells.length = 4 := fun x hx => by obtain ⟨y, _, rfl⟩ := List.mem_map.1 hx; rw [Cd.e_eq]; rfl
  refine bgo ?_
  refine ⟨by omega, by omega, ?_⟩
  refine b_loop (fun n st => ∃ k : Nat, n = l.length - k ∧ k ≤ l.length ∧ st.tm 0 = .d (.sl 4 (l.map Cd.e)) ∧ st.tm 3 = .rsl (.t 7) 64 4 l.length ∧ st.tm 4 = .int k ∧ st.bx (.t 7) = some (filling (l.map Cd.e) Cd.z l.length k) ∧ ∀ b, b ≠ .t 7 → st.bx b = none) l.length
    ⟨0, rfl, Nat.zero_le _, rfl, rfl, rfl, by rw [filling_0]; rfl, fun b hb => by simp [bx_put, bx_strip1, bx_sbx, bx_init, bxOf_nil, hb]⟩ ?_
  rintro n st ⟨k, rfl, hk, t0, t3, t4, t7, hb⟩
  by_cases hlt : k < l.length
  · have hx : l[k]? = some l[k] := List.getElem?_eq_getElem hlt
    have hc := ih l[k] (List.getElem_mem hlt)
    have hfl := filling_len (l := l.map Cd.e) (zero := Cd.z) (n := l.length) (k := k) (sz := 4) rfl hce (by simp) hk
    have hfs := filling_step (l := l.map Cd.e) (zero := Cd.z) (n := l.length) (k := k) (sz := 4) rfl hce (by simp) (by simpa using hlt)
    have hfb : (List.take (k * 4) (filling (l.map Cd.e) Cd.z l.length k) ++ [PV.int l[k].op, PV.str l[k].nm, PV.int l[k].dy, PV.own 64 4 (l[k].ps.map Cd.e)] ++ List.drop (k * 4 + 4) (filling (l.map Cd.e) Cd.z l.length k)).map PV.bC = filling (l.map Cd.e) Cd.z l.length (k + 1) := by
      rw [List.map_append, List.map_append, List.map_take, List.map_drop, filling_bC rfl, ← hfs, List.getElem_map, Cd.e_eq]; rfl
    clear ih hce hfs
    refine bgo ?_
    refine b_call hc rfl rfl rfl rfl ?_
    refine bgo ?_
    refine ⟨by omega, _, _, Weak.bC (.t 7), by omega, k + 1, rfl, hlt, t0, t3, rfl, congrArg some hfb, fun b hne => ?_⟩
    have := hb b hne
    simp [bx_put, bx_strip1, bx_sbx, hne, this]
  · have hk' : k = l.length := by omega
    subst hk'
    clear ih
    refine bgo ?_
    refine made (t := 3) (l := l.map Cd.e) t3 (t7.trans ?_) (by simp) hce hb fun s s3 hb => ?_
    · rw [← filling_n (l.map Cd.e) Cd.z, List.length_map]
    refine bgo ?_
    trivial
theorem toCondition_b (c : Cd) : c.size ≤ 1048577 → BRet Tryz.prog 98 [] [.agg [.int c.op, .str c.nm, .int c.dy, .d (.sl 4 (c.ps.map Cd.e))]] (.agg [.int c.op, .str c.nm, .int c.dy, .own 64 4 (c.ps.map Cd.e)]) [] := by
  refine Cd.ind (P := fun c => c.size ≤ 1048577 → BRet Tryz.prog 98 [] [.agg [.int c.op, .str c.nm, .int c.dy, .d (.sl 4 (c.ps.map Cd.e))]] (.agg [.int c.op, .str c.nm, .int c.dy, .own 64 4 (c.ps.map Cd.e)]) []) (fun c ih hsz => ?_) c
  have h1 := size_eq c
  have h2 := sizes_len c.ps
  have hc := toConditionS_b c.ps (by omega) (fun x hx => ih x hx (by have := size_part hx; omega))
  clear ih
  refine bof Tryz.func98 ?_
  generalize c.op = o at *
  generalize c.nm = n at *
  generalize c.dy = d at *
  generalize c.ps = ps at *
  refine bgo ?_
  refine b_call hc rfl rfl rfl rfl ?_
  refine bgo ?_
  trivial
theorem eqConditionS_s (l : List Cd) (ih : ∀ c ∈ l, BRet Tryz.prog 108 [] [.agg [.int c.op, .str c.nm, .int c.dy, .d (.sl 4 (c.ps.map Cd.e))], .agg [.int c.op, .str c.nm, .int c.dy, .d (.sl 4 (c.ps.map Cd.e))]] (.bool true) []) :
    BRet Tryz.prog 139 [] [.d (.sl 4 (l.map Cd.e)), .d (.sl 4 (l.map Cd.e))] (.bool true) [] := by
  refine BRet.len 0 (by kernel_rfl) rfl fun hl => ?_
  simp only [List.length_map] at hl
  refine bof Tryz.func139 ?_
  refine bgo ?_
  refine b_lp (ι := Nat × Unit) (fun i => [(0, .d (.sl 4 (l.map Cd.e))), (1, .d (.sl 4 (l.map Cd.e))), (5, .int i.1)]) (fun _ => []) (fun i => i.1 ≤ l.length) (fun i => l.length - i.1) (0, ()) hs (Nat.zero_le _) ?_
  rintro ⟨i, u⟩ hi I nx
  dsimp only at hi ⊢
  by_cases hlt : i < l.length
  · have hx : l[i]? = some l[i] := List.getElem?_eq_getElem hlt
    have hc := ih l[i] (List.getElem_mem hlt)
    generalize l[i] = x at *
    have hib : (i : Int) + 1 ≤ 1099511627776000 := by omega
    clear ih
    refine bgo ?_
    refine b_call hc rfl rfl rfl rfl ?_
    refine bgo ?_
    exact nx.go (i + 1, ()) hlt (by dsimp only; omega) hs
  · have hlt2 : ¬ i < l.length := by omega
    clear ih
    refine bgo ?_
    refine wk_rfl ?_
    refine bgo ?_
    trivial
theorem eqCondition_s (c : Cd) : BRet Tryz.prog 108 [] [.agg [.int c.op, .str c.nm, .int c.dy, .d (.sl 4 (c.ps.map Cd.e))], .agg [.int c.op, .str c.nm, .int c.dy, .d (.sl 4 (c.ps.map Cd.e))]] (.bool true) [] := by
  refine Cd.ind (P := fun c => BRet Tryz.prog 108 [] [.agg [.int c.op, .str c.nm, .int c.dy, .d (.sl 4 (c.ps.map Cd.e))], .agg [.int c.op, .str c.nm, .int c.dy, .d (.sl 4 (c.ps.map Cd.e))]] (.bool true) []) (fun c ih => ?_) c
  have hc := eqConditionS_s c.ps ih
  clear ih
  refine bof Tryz.func108 ?_
  generalize c.op = o at *
  generalize c.nm = n at *
  generalize c.dy = d at *
  generalize c.ps = ps at *
  refine bgo ?_
  refine b_call hc rfl rfl rfl rfl ?_
  refine bgo ?_
  trivial
end Go.Bee.C24n
