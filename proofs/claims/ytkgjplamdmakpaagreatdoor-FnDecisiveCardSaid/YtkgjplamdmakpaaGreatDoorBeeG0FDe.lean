/-
The logic and the walks, part 5. No condition.
-/
import Derived.Test.YtkgjplamdmakpaaGreatDoorBeeG0FDc
import Derived.Test.YtkgjplamdmakpaaGreatDoorBeeG0FDd
import Derived.Shelf.Sort.Plain
import Derived.Sort.EncStr
import Derived.Test.YtkgjplamdmakpaaGreatDoorProg
import Derived.Shelf.Slices.In.SortNone
import Derived.Shelf.Slices.CompactS
import Derived.Lib.RowBridge
/- Sums of sizes, as the laws reckon them. -/
namespace Go.Bee.Ty
open Go Go.Bee Go.Proofs
set_option linter.unusedVariables false
theorem mixed : Tryz.prog.follows .mixedOrders = true := by kernel_rfl

/-- What is left after an item; below nought: too large. -/
def szF {α : Type} (f : α → Int → Int) : List α → Int → Int
  | [], x => x
  | a :: l, x => if f a x < 0 then -1 else szF f l (f a x)
def szL {α : Type} (f : α → Int → Int) (l : List α) (x : Int) : Int := if x - l.length < 0 then -1 else szF f l (x - l.length)
def Nice {α : Type} (f : α → Int → Int) : Prop := ∀ a x, 0 ≤ x → f a x = -1 ∨ (0 ≤ f a x ∧ f a x ≤ x)
theorem szF_nice {α : Type} {f : α → Int → Int} (h : Nice f) : ∀ (l : List α) (x : Int), 0 ≤ x → szF f l x = -1 ∨ (0 ≤ szF f l x ∧ szF f l x ≤ x)
  | [], x, hx => .inr ⟨hx, Int.le_refl _⟩
  | a :: l, x, hx => by
    unfold szF
    split
    · exact .inl rfl
    · rename_i hn
      rcases h a x hx with e | ⟨e1, e2⟩
      · omega
      · rcases szF_nice h l (f a x) e1 with e | ⟨e3, e4⟩
        · exact .inl e
        · exact .inr ⟨e3, by omega⟩
theorem szL_nice {α : Type} {f : α → Int → Int} (h : Nice f) : Nice (szL f) := fun l x hx => by
  unfold szL
  split
  · exact .inl rfl
  · rcases szF_nice h l (x - l.length) (by omega) with e | ⟨e1, e2⟩
    · exact .inl e
    · exact .inr ⟨e1, by omega⟩
theorem szL_len {α : Type} {f : α → Int → Int} (h : Nice f) (l : List α) (x : Int) (hx : 0 ≤ x) (hn : 0 ≤ szL f l x) : (l.length : Int) ≤ x := by
  unfold szL at hn
  split at hn <;> omega
theorem szF_step {α : Type} {f : α → Int → Int} {l : List α} {k : Nat} (hk : k < l.length) (x : Int) : szF f (l.drop k) x = if f l[k] x < 0 then -1 else szF f (l.drop (k + 1)) (f l[k] x) := by
  rw [List.drop_eq_getElem_cons hk]
  rfl
theorem bof {f : Nat} {fn : Func} {c : Code} {rs : List ResultVar} {args : List PV} {r : PV} (hf : Tryz.prog.funcs[f]? = some fn) (h : bwp Tryz.prog (fun _ => []) c (endK Tryz.prog rs r []) (St.init args [])) (hb : fn.body = some c := by exact rfl) (hrs : fn.results = rs.toArray := by exact rfl)
    (hn : (fn.name != "runtime.NumGoroutine") = true := by kernel_rfl) (hd : cOk Tryz.prog (fun _ => []) fn.ntmps c = true := by kernel_rfl) (ha : args.length ≤ fn.ntmps := by exact Nat.le_of_ble_eq_true rfl) : BRet Tryz.prog f [] args r [] :=
  BRet.of_body (fun _ => []) mixed hf hb hn hd hrs rfl ha h

/-! A slice that is made and filled. -/
theorem flat_length {sz : Nat} : ∀ {l : List PD}, (∀ x ∈ l, x.cells.length = sz) → (flat l).length = l.length * sz
  | [], _ => by simp [flat]
  | a :: l, h => by
    have := flat_length (sz := sz) (l := l) (fun x hx => h x (List.mem_cons_of_mem _ hx))
    simp only [flat, List.flatMap_cons, List.length_append, List.length_cons] at this ⊢
    rw [this, h a (by simp), Nat.add_mul]; omega
def filling (l : List PD) (zero : List PV) (n k : Nat) : List PV := (flat (l.take k)).map PV.d ++ (List.replicate (n - k) zero).flatten
theorem filling_0 (l : List PD) (zero : List PV) (n : Nat) : filling l zero n 0 = (List.replicate n zero).flatten := by simp [filling, flat]
theorem filling_n (l : List PD) (zero : List PV) : filling l zero l.length l.length = (flat l).map PV.d := by simp [filling]
theorem filling_len {l : List PD} {zero : List PV} {sz n k : Nat} (hz : zero.length = sz) (hc : ∀ x ∈ l, x.cells.length = sz) (hl : l.length = n) (hk : k ≤ n) : (filling l zero n k).length = n * sz := by
  have h1 := flat_length (sz := sz) (l := l.take k) (fun x hx => hc x (List.mem_of_mem_take hx))
  simp only [filling, List.length_append, List.length_map, h1, List.length_take, List.length_flatten, List.map_replicate, hz, List.sum_replicate_nat]
  rw [Nat.min_eq_left (by omega), ← Nat.add_mul]
  congr 1; omega
theorem filling_step {l : List PD} {zero : List PV} {sz n k : Nat} (hz : zero.length = sz) (hc : ∀ x ∈ l, x.cells.length = sz) (hl : l.length = n) (hk : k < l.length) :
    (filling l zero n k).take (k * sz) ++ (l[k].cells.map PV.d) ++ (filling l zero n k).drop (k * sz + sz) = filling l zero n (k + 1) := by
  have h1 := flat_length (sz := sz) (l := l.take k) (fun x hx => hc x (List.mem_of_mem_take hx))
  rw [List.length_take, Nat.min_eq_left (by omega)] at h1
  have e : n - k = (n - (k + 1)) + 1 := by omega
  have hlen : ((flat (l.take k)).map PV.d).length = k * sz := by rw [List.length_map]; exact h1
  unfold filling
  rw [List.take_left' hlen, e, List.replicate_succ, List.flatten_cons, ← List.append_assoc, List.drop_left' (by rw [List.length_append, hlen, hz]), List.take_succ_eq_append_getElem hk]
  have : flat (l.take k ++ [l[k]]) = flat (l.take k) ++ l[k].cells := by unfold flat; rw [List.flatMap_append]; simp [-List.take_append_getElem]
  rw [this, List.map_append]
theorem filling_bC {l : List PD} {zero : List PV} {n k : Nat} (hz : zero.map PV.bC = zero) : (filling l zero n k).map PV.bC = filling l zero n k := by
  unfold filling
  rw [List.map_append, List.map_map, List.map_flatten, List.map_replicate, hz]
  rfl
theorem filling_ok {l : List PD} {zero : List PV} (hz : ∀ L, zero.all (okC L) = true) (n k : Nat) (L : List BN) : (filling l zero n k).all (okC L) = true := by
  unfold filling
  rw [List.all_append, Bool.and_eq_true]
  refine ⟨by simp [okC], ?_⟩
  rw [List.all_eq_true]
  intro x hx
  obtain ⟨y, hy, hx⟩ := List.mem_flatten.1 hx
  rw [(List.mem_replicate.1 hy).2] at hx
  exact List.all_eq_true.1 (hz L) x hx
theorem made {P : Program} {st : St} {t : Nat} {b : BN} {e sz n : Nat} {l : List PD} {K : St → Prop} (ht : st.tm t = .rsl b e sz n) (hb : st.bx b = some ((flat l).map .d)) (hl : l.length = n) (hu : ∀ x ∈ l, x.cells.length = sz) (ho : ∀ c, c ≠ b → st.bx c = none)
    (k : ∀ s : St, s.tm t = .own e sz l → (∀ c, s.bx c = none) → K s) : wk P K st :=
  wk_of (Weak.freeze ht hb hl hu) (k _ (by simp [tm_put]) fun c => by
    rw [bx_put, bx_drop]
    split
    · rfl
    · rename_i hc; rw [ho c hc]; rfl)
theorem bofW {f : Nat} {fn : Func} {c : Code} {rs : List ResultVar} {args : List PV} {r : PV} (hf : Tryz.prog.funcs[f]? = some fn) (h : bwp Tryz.prog (fun _ => []) c (endW Tryz.prog rs r []) (St.init args [])) (hb : fn.body = some c := by exact rfl) (hrs : fn.results = rs.toArray := by exact rfl)
    (hn : (fn.name != "runtime.NumGoroutine") = true := by kernel_rfl) (hd : cOk Tryz.prog (fun _ => []) fn.ntmps c = true := by kernel_rfl) (ha : args.length ≤ fn.ntmps := by exact Nat.le_of_ble_eq_true rfl) : BRet Tryz.prog f [] args r [] :=
  BRet.of_bodyW (fun _ => []) mixed hf hb hn hd hrs rfl ha h

/-! Texts. -/
def StrT (P : Program) (t : Nat) : Prop := ∃ i, tyi P t = some i ∧ i.str = true
theorem StrT.sl {P : Program} {t : Nat} (h : StrT P t) (s : List UInt8) : (∀ k : Int, 0 ≤ k → k ≤ s.length → evSlice P t (.d (.str s)) none (some (.d (.int .i64 k))) = some (.d (.str (s.take k.toNat)))) ∧
    (∀ k : Int, 0 ≤ k → k ≤ s.length → evSlice P t (.d (.str s)) (some (.d (.int .i64 k))) none = some (.d (.str (s.drop k.toNat)))) ∧
    ∀ j k : Int, 0 ≤ j → j ≤ k → k ≤ s.length → evSlice P t (.d (.str s)) (some (.d (.int .i64 j))) (some (.d (.int .i64 k))) = some (.d (.str ((s.take k.toNat).drop j.toNat))) := by
  obtain ⟨i, h1, h2⟩ := h
  refine ⟨fun k h3 h4 => ?_, fun k h3 h4 => ?_, fun j k h3 h4 h5 => ?_⟩
  · simp [evSlice, h1, h2, sb, PV.int?, h3, h4]
  · simp [evSlice, h1, h2, sb, PV.int?, h3, h4]
  · have h6 : 0 ≤ k := by omega
    have h7 : j ≤ (k.toNat : Int) := by omega
    simp only [evSlice, h1, h2, sb, PV.int?, h3, h5, h6, h7, and_self, if_true, Option.bind_some, Option.map_some]
theorem StrT.facts {P : Program} {t : Nat} (h : StrT P t) :
    (∀ (s : List UInt8) (k : Int), 0 ≤ k → k ≤ s.length → evSlice P t (.d (.str s)) none (some (.d (.int .i64 k))) = some (.d (.str (s.take k.toNat)))) ∧
    (∀ (s : List UInt8) (k : Int), 0 ≤ k → k ≤ s.length → evSlice P t (.d (.str s)) (some (.d (.int .i64 k))) none = some (.d (.str (s.drop k.toNat)))) ∧
    ∀ (s : List UInt8) (j k : Int), 0 ≤ j → j ≤ k → k ≤ s.length → evSlice P t (.d (.str s)) (some (.d (.int .i64 j))) (some (.d (.int .i64 k))) = some (.d (.str ((s.take k.toNat).drop j.toNat))) :=
  ⟨fun s => (h.sl s).1, fun s => (h.sl s).2.1, fun s => (h.sl s).2.2⟩
/-! Slices of a type: what is known of t, whose items are e. -/
def SlT (P : Program) (t e sz by_ : Nat) : Prop := ∃ i te, tyi P t = some i ∧ i.el = some e ∧ tyi P e = some te ∧ te.sz = sz ∧ te.by_ = by_ ∧ te.zero.length = te.sz ∧ 0 < te.sz
theorem SlT.app {P : Program} {t e sz by_ : Nat} (h : SlT P t e sz by_) (l m : List PD) (x : PV) (hx : x.more = some (some sz, m)) (hb : (l.length + m.length) * (by_ + 1) ≤ 140737488355328) : evAppend P t (.own e sz l) x = some (.own e sz (l ++ m)) := by
  obtain ⟨i, te, h1, h2, h3, rfl, rfl, h6, h7⟩ := h
  simp [evAppend, PV.grow, hx, h1, h2, h3, h6, h7, hb]
theorem SlT.appn {P : Program} {t e sz by_ : Nat} (h : SlT P t e sz by_) (l : List PD) (hb : l.length * (by_ + 1) ≤ 140737488355328) : evAppend P t (.own e sz l) .nilS = some (.own e sz l) := by
  obtain ⟨i, te, h1, h2, h3, rfl, rfl, h6, h7⟩ := h
  simp [evAppend, PV.grow, PV.more, h1, h2, h3, h6, h7, hb]
theorem SlT.build0 {P : Program} {t e sz by_ : Nat} (h : SlT P t e sz by_) : evBuildSlice P t 0 [] = some (.own e sz []) := by
  obtain ⟨i, te, h1, h2, h3, rfl, rfl, h6, h7⟩ := h
  simp [evBuildSlice, h1, h2, h3, h6, pdAll]
theorem SlT.build1 {P : Program} {t e sz by_ : Nat} (h : SlT P t e sz by_) (x : PV) (y : PD) (hx : x.pd = some y) (hy : y.cells.length = sz) (hs : sz ≤ 16777216) : evBuildSlice P t 1 [(0, x)] = some (.own e sz [y]) := by
  obtain ⟨i, te, h1, h2, h3, rfl, rfl, h6, h7⟩ := h
  simp [evBuildSlice, h1, h2, h3, h6, pdAll, hx, hy, hs]
theorem SlT.hi {P : Program} {t e sz by_ : Nat} (h : SlT P t e sz by_) (l : List PD) (x : PV) (hx : x.list = some (sz, l)) (hs : ∀ s, x ≠ .d (.str s)) (k : Nat) (hk : k ≤ l.length) : evSlice P t x none (some (.int k)) = some (.d (.sl sz (l.take k))) := by
  obtain ⟨i, te, h1, h2, h3, rfl, rfl, h6, h7⟩ := h
  have : evSlice P t x none (some (.int k)) = x.list.bind fun s => (tyi P t).bind fun i => i.el.bind fun e => (tyi P e).bind fun te => if te.sz = s.1 then (sb none (some (.int k)) s.2.length).map fun q => .d (.sl s.1 ((s.2.take q.2).drop q.1)) else none := by
    unfold evSlice
    split
    · simp [PV.list] at hx
    · rename_i s; exact absurd rfl (hs s)
    · rfl
  rw [this, hx]
  simp [h1, h2, h3, sb, PV.int?, hk]
theorem SlT.lo {P : Program} {t e sz by_ : Nat} (h : SlT P t e sz by_) (l : List PD) (x : PV) (hx : x.list = some (sz, l)) (hs : ∀ s, x ≠ .d (.str s)) (k : Nat) (hk : k ≤ l.length) : evSlice P t x (some (.int k)) none = some (.d (.sl sz (l.drop k))) := by
  obtain ⟨i, te, h1, h2, h3, rfl, rfl, h6, h7⟩ := h
  have : evSlice P t x (some (.int k)) none = x.list.bind fun s => (tyi P t).bind fun i => i.el.bind fun e => (tyi P e).bind fun te => if te.sz = s.1 then (sb (some (.int k)) none s.2.length).map fun q => .d (.sl s.1 ((s.2.take q.2).drop q.1)) else none := by
    unfold evSlice
    split
    · simp [PV.list] at hx
    · rename_i s; exact absurd rfl (hs s)
    · rfl
  rw [this, hx]
  simp [h1, h2, h3, sb, PV.int?, hk]
theorem SlT.full {P : Program} {t e sz by_ : Nat} (h : SlT P t e sz by_) (b : BN) (e' n : Nat) (k : Int) (hk : k = (n : Int)) : evSlice P t (.rsl b e' sz n) none (some (.d (.int .i64 k))) = some (.rsl b e' sz n) := by
  subst hk
  obtain ⟨i, te, h1, h2, h3, rfl, rfl, h6, h7⟩ := h
  simp [evSlice, evSliceR, h1, h2, h3, sb, PV.int?]
/-- What the walk may use of a slice's type. -/
theorem SlT.facts {P : Program} {t e sz by_ : Nat} (h : SlT P t e sz by_) :
  (∀ l m : List PD, (l.length + m.length) * (by_ + 1) ≤ 140737488355328 → evAppend P t (.own e sz l) (.d (.sl sz m)) = some (.own e sz (l ++ m))) ∧
  (∀ l m : List PD, (l.length + m.length) * (by_ + 1) ≤ 140737488355328 → evAppend P t (.own e sz l) (.own e sz m) = some (.own e sz (l ++ m))) ∧
  (∀ l m : List PD, (l.length + m.length) * (by_ + 1) ≤ 140737488355328 → evAppend P t (.own e sz l) (.nn sz m) = some (.own e sz (l ++ m))) ∧
  (∀ l : List PD, l.length * (by_ + 1) ≤ 140737488355328 → evAppend P t (.own e sz l) .nilS = some (.own e sz l)) ∧
  evBuildSlice P t 0 [] = some (.own e sz []) ∧
  (∀ (l : List PD) (k : Nat), k ≤ l.length → evSlice P t (.d (.sl sz l)) none (some (.d (.int .i64 k))) = some (.d (.sl sz (l.take k)))) ∧
  (∀ (l : List PD) (k : Nat), k ≤ l.length → evSlice P t (.d (.sl sz l)) (some (.d (.int .i64 k))) none = some (.d (.sl sz (l.drop k)))) ∧
  (∀ (l : List PD) (k : Nat), k + 1 ≤ l.length → evSlice P t (.d (.sl sz l)) (some (.d (.int .i64 ((k : Int) + 1)))) none = some (.d (.sl sz (l.drop (k + 1))))) ∧
  (∀ (b : BN) (e' n : Nat) (k : Int), k = (n : Int) → evSlice P t (.rsl b e' sz n) none (some (.d (.int .i64 k))) = some (.rsl b e' sz n)) :=
  ⟨fun l m hb => h.app l m _ rfl hb, fun l m hb => h.app l m _ rfl hb, fun l m hb => h.app l m _ rfl hb, fun l hb => h.appn l hb, h.build0, fun l k hk => h.hi l _ rfl (fun s e => by cases e) k hk, fun l k hk => h.lo l _ rfl (fun s e => by cases e) k hk, fun l k hk => h.lo l _ rfl (fun s e => by cases e) (k + 1) hk, fun b e' n k hk => h.full b e' n k hk⟩
end Go.Bee.Ty

/- Chapter 23: theses, rules, standards, cases. -/
namespace Go.Bee.Ty
open Go Go.Bee Go.Proofs
set_option linter.unusedVariables false
structure Th where (n : List UInt8) (g : Bool) deriving DecidableEq
structure Sd where (n : List UInt8) (k : Int) deriving DecidableEq
def Th.e (t : Th) : PD := .agg [.str t.n, .bool t.g]
def Sd.e (t : Sd) : PD := .agg [.str t.n, .int .i64 t.k]
structure Ru where (ps : List Th) (es : List Th) (c : Th) (wt : Int) deriving DecidableEq
def Ru.e (r : Ru) : PD := .agg [.sl 2 (r.ps.map Th.e), .sl 2 (r.es.map Th.e), .str r.c.n, .bool r.c.g, .int .i64 r.wt]
structure Cs where (fs : List Th) (rs : List Ru) (ss : List Sd) deriving DecidableEq
abbrev Th.v (t : Th) : PV := .agg [.str t.n, .bool t.g]
abbrev Sd.v (t : Sd) : PV := .agg [.str t.n, .int t.k]
abbrev Ru.v (r : Ru) : PV := .agg [.d (.sl 2 (r.ps.map Th.e)), .d (.sl 2 (r.es.map Th.e)), .str r.c.n, .bool r.c.g, .int r.wt]
abbrev Cs.v (c : Cs) : PV := .agg [.d (.sl 2 (c.fs.map Th.e)), .d (.sl 5 (c.rs.map Ru.e)), .d (.sl 2 (c.ss.map Sd.e))]
theorem tyz : (∀ t : Th, t.e = .agg [.str t.n, .bool t.g]) ∧ (∀ t : Sd, t.e = .agg [.str t.n, .int .i64 t.k]) ∧ (∀ r : Ru, r.e = .agg [.sl 2 (r.ps.map Th.e), .sl 2 (r.es.map Th.e), .str r.c.n, .bool r.c.g, .int .i64 r.wt]) := ⟨fun _ => rfl, fun _ => rfl, fun _ => rfl⟩
end Go.Bee.Ty
namespace Go.Bee.C23
theorem tys : type_of% (And.intro Go.Bee.Ty.tys Go.Bee.Ty.tyz) := And.intro Go.Bee.Ty.tys Go.Bee.Ty.tyz
end Go.Bee.C23
namespace Go.Bee.C23
open Go Go.Bee Go.Proofs Go.Bee.Ty
set_option linter.unusedVariables false
attribute [local irreducible] Go.Bee.bwp
def szTh (t : Th) (x : Int) : Int := if x - t.n.length < 0 then -1 else x - t.n.length
theorem szTh_nice : Nice szTh := fun t x hx => by unfold szTh; split <;> omega
theorem szThesis_b (t : Th) (x : Int) (h0 : 0 ≤ x) (hx : x ≤ 1048576) : BRet Tryz.prog 45 [] [.agg [.str t.n, .bool t.g], .int x] (.int (szTh t x)) [] := by
  refine BRet.aslen 0 0 (by kernel_rfl) rfl rfl fun hl => ?_
  refine bof Tryz.func45 ?_
  refine bgo ?_
  refine ⟨fun h => ?_, fun h => ?_⟩ <;> simp_all [szTh] <;> omega
def szSd (t : Sd) (x : Int) : Int := if x - t.n.length < 0 then -1 else x - t.n.length
theorem szSd_nice : Nice szSd := fun t x hx => by unfold szSd; split <;> omega
theorem szStandard_b (t : Sd) (x : Int) (h0 : 0 ≤ x) (hx : x ≤ 1048576) : BRet Tryz.prog 114 [] [.agg [.str t.n, .int t.k], .int x] (.int (szSd t x)) [] := by
  refine BRet.aslen 0 0 (by kernel_rfl) rfl rfl fun hl => ?_
  refine bof Tryz.func114 ?_
  refine bgo ?_
  refine ⟨fun h => ?_, fun h => ?_⟩ <;> simp_all [szSd] <;> omega
theorem szThesisS_b (l : List Th) (x : Int) (h0 : 0 ≤ x) (hx : x ≤ 1048576) : BRet Tryz.prog 67 [] [.d (.sl 2 (l.map Th.e)), .int x] (.int (szL szTh l x)) [] := by
  refine BRet.len 0 (by kernel_rfl) rfl fun hl => ?_
  refine bof Tryz.func67 ?_
  simp only [List.length_map] at hl
  refine bgo ?_
  refine ⟨fun h => ?_, fun h => ?_⟩
  · simp_all [szL]
  have h' : ¬ x - (l.length : Int) < 0 := by simpa using h
  have e0 : szL szTh l x = szF szTh l (x - l.length) := by simp [szL, h']
  rw [e0]
  refine b_loop (fun n st => ∃ (k : Nat) (y : Int), n = l.length - k ∧ k ≤ l.length ∧ 0 ≤ y ∧ y ≤ x ∧ st.tm 0 = .d (.sl 2 (l.map Th.e)) ∧ st.tm 1 = .int y ∧ st.tm 5 = .int k ∧ szF szTh (l.drop k) y = szF szTh l (x - l.length) ∧ ∀ b, st.bx b = none) l.length ⟨0, x - l.length, rfl, Nat.zero_le _, by omega, by omega, rfl, rfl, rfl, rfl, bxOf_nil⟩ ?_
  rintro n st ⟨k, y, rfl, hk, hy0, hyx, t0, t1, t5, hj, hb⟩
  clear e0
  by_cases hlt : k < l.length
  · have hx : l[k]? = some l[k] := List.getElem?_eq_getElem hlt
    refine bgo ?_
    refine b_call (szThesis_b _ _ hy0 (by omega)) rfl rfl rfl rfl ?_
    refine bgo ?_
    rw [szF_step hlt] at hj
    refine ⟨fun h => ?_, fun h => ⟨_, _, Weak.refl _, by omega, k + 1, szTh l[k] y, rfl, hlt, ?_, ?_, t0, rfl, rfl, ?_, hb⟩⟩
    · rw [if_pos h] at hj; rw [← hj]
    · have := h; omega
    · rcases szTh_nice l[k] y hy0 with e | e
      · have := h; omega
      · omega
    · rw [if_neg h] at hj; exact hj
  · have hk' : k = l.length := by omega
    subst hk'
    refine bgo ?_
    refine wk_rfl ?_
    refine bgo ?_
    rw [List.drop_length] at hj
    rw [← hj]; rfl
theorem szStandardS_b (l : List Sd) (x : Int) (h0 : 0 ≤ x) (hx : x ≤ 1048576) : BRet Tryz.prog 69 [] [.d (.sl 2 (l.map Sd.e)), .int x] (.int (szL szSd l x)) [] := by
  refine BRet.len 0 (by kernel_rfl) rfl fun hl => ?_
  refine bof Tryz.func69 ?_
  simp only [List.length_map] at hl
  refine bgo ?_
  refine ⟨fun h => ?_, fun h => ?_⟩
  · simp_all [szL]
  have h' : ¬ x - (l.length : Int) < 0 := by simpa using h
  have e0 : szL szSd l x = szF szSd l (x - l.length) := by simp [szL, h']
  rw [e0]
  refine b_loop (fun n st => ∃ (k : Nat) (y : Int), n = l.length - k ∧ k ≤ l.length ∧ 0 ≤ y ∧ y ≤ x ∧ st.tm 0 = .d (.sl 2 (l.map Sd.e)) ∧ st.tm 1 = .int y ∧ st.tm 5 = .int k ∧ szF szSd (l.drop k) y = szF szSd l (x - l.length) ∧ ∀ b, st.bx b = none) l.length ⟨0, x - l.length, rfl, Nat.zero_le _, by omega, by omega, rfl, rfl, rfl, rfl, bxOf_nil⟩ ?_
  rintro n st ⟨k, y, rfl, hk, hy0, hyx, t0, t1, t5, hj, hb⟩
  clear e0
  by_cases hlt : k < l.length
  · have hx : l[k]? = some l[k] := List.getElem?_eq_getElem hlt
    refine bgo ?_
    refine b_call (szStandard_b _ _ hy0 (by omega)) rfl rfl rfl rfl ?_
    refine bgo ?_
    rw [szF_step hlt] at hj
    refine ⟨fun h => ?_, fun h => ⟨_, _, Weak.refl _, by omega, k + 1, szSd l[k] y, rfl, hlt, ?_, ?_, t0, rfl, rfl, ?_, hb⟩⟩
    · rw [if_pos h] at hj; rw [← hj]
    · have := h; omega
    · rcases szSd_nice l[k] y hy0 with e | e
      · have := h; omega
      · omega
    · rw [if_neg h] at hj; exact hj
  · have hk' : k = l.length := by omega
    subst hk'
    refine bgo ?_
    refine wk_rfl ?_
    refine bgo ?_
    rw [List.drop_length] at hj
    rw [← hj]; rfl
def szRu (r : Ru) (x : Int) : Int := if szL szTh r.ps x < 0 then -1 else if szL szTh r.es (szL szTh r.ps x) < 0 then -1 else
  if szTh r.c (szL szTh r.es (szL szTh r.ps x)) < 0 then -1 else szTh r.c (szL szTh r.es (szL szTh r.ps x))
theorem szRu_nice : Nice szRu := fun t x hx => by
  have h1 := szL_nice szTh_nice t.ps x hx
  have h2 := szL_nice szTh_nice t.es (szL szTh t.ps x)
  have h3 := szTh_nice t.c (szL szTh t.es (szL szTh t.ps x))
  unfold szRu; split
  · exact .inl rfl
  split
  · exact .inl rfl
  split
  · exact .inl rfl
  omega
theorem szProofRule_b (r : Ru) (x : Int) (h0 : 0 ≤ x) (hx : x ≤ 1048576) : BRet Tryz.prog 113 [] [.agg [.d (.sl 2 (r.ps.map Th.e)), .d (.sl 2 (r.es.map Th.e)), .str r.c.n, .bool r.c.g, .int r.wt], .int x] (.int (szRu r x)) [] := by
  have h1 := szL_nice szTh_nice r.ps x h0
  have h2 := szL_nice szTh_nice r.es (szL szTh r.ps x)
  refine bof Tryz.func113 ?_
  refine bgo ?_
  refine b_call (szThesisS_b _ _ h0 hx) rfl rfl rfl rfl ?_
  refine bgo ?_
  refine ⟨fun h => ?_, fun h => ?_⟩
  · have := h; simp [szRu, this]
  have q1 := h
  refine b_call (szThesisS_b _ _ (by omega) (by omega)) rfl rfl rfl rfl ?_
  refine bgo ?_
  refine ⟨fun h => ?_, fun h => ?_⟩
  · have := h; simp [szRu, this]
  have q2 := h
  refine b_call (szThesis_b _ _ (by omega) (by omega)) rfl rfl rfl rfl ?_
  refine bgo ?_
  refine ⟨fun h => ?_, fun h => ?_⟩
  · have := h; simp [szRu, this]
  have q3 := h
  simp [szRu, q1, q2, q3]
theorem szProofRuleS_b (l : List Ru) (x : Int) (h0 : 0 ≤ x) (hx : x ≤ 1048576) : BRet Tryz.prog 68 [] [.d (.sl 5 (l.map Ru.e)), .int x] (.int (szL szRu l x)) [] := by
  refine BRet.len 0 (by kernel_rfl) rfl fun hl => ?_
  refine bof Tryz.func68 ?_
  simp only [List.length_map] at hl
  refine bgo ?_
  refine ⟨fun h => ?_, fun h => ?_⟩
  · simp_all [szL]
  have h' : ¬ x - (l.length : Int) < 0 := by simpa using h
  have e0 : szL szRu l x = szF szRu l (x - l.length) := by simp [szL, h']
  rw [e0]
  refine b_loop (fun n st => ∃ (k : Nat) (y : Int), n = l.length - k ∧ k ≤ l.length ∧ 0 ≤ y ∧ y ≤ x ∧ st.tm 0 = .d (.sl 5 (l.map Ru.e)) ∧ st.tm 1 = .int y ∧ st.tm 5 = .int k ∧ szF szRu (l.drop k) y = szF szRu l (x - l.length) ∧ ∀ b, st.bx b = none) l.length ⟨0, x - l.length, rfl, Nat.zero_le _, by omega, by omega, rfl, rfl, rfl, rfl, bxOf_nil⟩ ?_
  rintro n st ⟨k, y, rfl, hk, hy0, hyx, t0, t1, t5, hj, hb⟩
  clear e0
  by_cases hlt : k < l.length
  · have hx : l[k]? = some l[k] := List.getElem?_eq_getElem hlt
    refine bgo ?_
    refine b_call (szProofRule_b _ _ hy0 (by omega)) rfl rfl rfl rfl ?_
    refine bgo ?_
    rw [szF_step hlt] at hj
    refine ⟨fun h => ?_, fun h => ⟨_, _, Weak.refl _, by omega, k + 1, szRu l[k] y, rfl, hlt, ?_, ?_, t0, rfl, rfl, ?_, hb⟩⟩
    · rw [if_pos h] at hj; rw [← hj]
    · have := h; omega
    · rcases szRu_nice l[k] y hy0 with e | e
      · have := h; omega
      · omega
    · rw [if_neg h] at hj; exact hj
  · have hk' : k = l.length := by omega
    subst hk'
    refine bgo ?_
    refine wk_rfl ?_
    refine bgo ?_
    rw [List.drop_length] at hj
    rw [← hj]; rfl
def szCs (c : Cs) (x : Int) : Int := if szL szTh c.fs x < 0 then -1 else if szL szRu c.rs (szL szTh c.fs x) < 0 then -1 else
  if szL szSd c.ss (szL szRu c.rs (szL szTh c.fs x)) < 0 then -1 else szL szSd c.ss (szL szRu c.rs (szL szTh c.fs x))
theorem szCs_nice : Nice szCs := fun t x hx => by
  have h1 := szL_nice szTh_nice t.fs x hx
  have h2 := szL_nice szRu_nice t.rs (szL szTh t.fs x)
  have h3 := szL_nice szSd_nice t.ss (szL szRu t.rs (szL szTh t.fs x))
  unfold szCs; split
  · exact .inl rfl
  split
  · exact .inl rfl
  split
  · exact .inl rfl
  omega
theorem szCase_b (c : Cs) (x : Int) (h0 : 0 ≤ x) (hx : x ≤ 1048576) : BRet Tryz.prog 22 [] [.agg [.d (.sl 2 (c.fs.map Th.e)), .d (.sl 5 (c.rs.map Ru.e)), .d (.sl 2 (c.ss.map Sd.e))], .int x] (.int (szCs c x)) [] := by
  have h1 := szL_nice szTh_nice c.fs x h0
  have h2 := szL_nice szRu_nice c.rs (szL szTh c.fs x)
  refine bof Tryz.func22 ?_
  refine bgo ?_
  refine b_call (szThesisS_b _ _ h0 hx) rfl rfl rfl rfl ?_
  refine bgo ?_
  refine ⟨fun h => ?_, fun h => ?_⟩
  · have := h; simp [szCs, this]
  have q1 := h
  refine b_call (szProofRuleS_b _ _ (by omega) (by omega)) rfl rfl rfl rfl ?_
  refine bgo ?_
  refine ⟨fun h => ?_, fun h => ?_⟩
  · have := h; simp [szCs, this]
  have q2 := h
  refine b_call (szStandardS_b _ _ (by omega) (by omega)) rfl rfl rfl rfl ?_
  refine bgo ?_
  refine ⟨fun h => ?_, fun h => ?_⟩
  · have := h; simp [szCs, this]
  have q3 := h
  simp [szCs, q1, q2, q3]
end Go.Bee.C23

/-
Slices that are made, filled and nobody else's, to the bottom. No condition.
-/
namespace Go.Bee
set_option linter.unusedVariables false

/-- A cell of a row that is one's own to the bottom. -/
def dpc (x : PD) : PV := if x.isSl = true then .dp x else .d x
theorem dpc_rep {P : Program} {G : Gh} {w : World} {p : Pos} {x : PD} {v : Value} (hs : x.scalar = true) (h : RepC P G w p (dpc x) v) : RepD (Mine G w p) w x v := by
  unfold dpc at h
  split at h
  · exact h.1
  · rename_i hn
    refine plain_sc ?_ hs h.1
    cases x <;> first | rfl | exact absurd rfl hn | cases hs
theorem Weak.freezeQ {P : Program} {st : St} {t : Nat} {b : BN} {e sz n : Nat} {l : List PD} (ht : st.tm t = .rsl b e sz n) (hb : st.bx b = some ((flat l).map dpc)) (hl : l.length = n) (hu : ∀ x ∈ l, x.cells.length = sz) (hsc : ∀ x ∈ flat l, x.scalar = true) : Weak P st ((st.drop b).put t (.dp (.sl sz l))) := fun F G a w hr => by
  subst hl
  have hrt := hr.tm t
  rw [ht] at hrt
  obtain ⟨hv, hlive, hlen⟩ := hrt
  obtain ⟨cs, q, h1, h2, h3, h4⟩ := hr.hp.bx b _ hb
  have hsz : (flat l).length ≤ cs.size := by simpa using h2
  have hβlt : ∀ c, G.live c → G.β c < w.heap.size := fun c hl => by obtain ⟨x, _, hbx⟩ := hr.hp.box hl; exact hbx.lt
  let f : Pos → Pos := fun p => if p.1 = .b b then (.t t, 0, 0) else p
  let G' : Gh := { im := (fun g o => G.im g o ∨ (g = G.β b ∧ o < (flat l).length)), β := G.β, live := (fun c => c ≠ b ∧ G.live c), own := (fun g => if g = G.β b then some (.t t, 0, 0) else (G.own g).map f), fz := G.fz }
  let G2 : Gh := { G' with live := G.live }
  have hk : Keep G.im w G'.im w := fun g o h => ⟨.inl h, rfl⟩
  have hnb : ∀ g p, G.own g = some p → g ≠ G.β b := fun g p hg e => by rw [e, hr.hp.boxown b hlive] at hg; cases hg
  have hstep : GStep G w G2 w (fun p q => q = f p) := by
    refine ⟨hk, fun c hl => ⟨hl, rfl⟩, rfl, fun _ _ => rfl, Nat.le_refl _, fun g p q hg e => ⟨?_, rfl, fun o ho => ?_⟩, fun o' g ho' hf => ?_⟩
    · show (if g = G.β b then some (.t t, 0, 0) else (G.own g).map f) = some q
      rw [if_neg (hnb g p hg), hg, e]; rfl
    · rcases ho with ho | ⟨e2, _⟩
      · exact ho
      · exact absurd e2 (hnb g p hg)
    · have hne : g ≠ G.β b := fun e => hf.2.2.1 b hlive e.symm
      refine ⟨⟨hf.1, (if_neg hne).trans ?_, hf.2.2.1, fun o ho => ho.elim (hf.2.2.2.1 o) (fun ho => hne ho.1), hf.2.2.2.2⟩, .heap rfl⟩
      rw [hf.2.1]
      rcases ho' with rfl | rfl <;> simp [f, qpos]
  have hmine : ∀ j, Keep (Mine G w (.b b, 0, j)) w (Mine G' w (.t t, 0, 0)) w := fun j g o ⟨k1, k2, k3⟩ => ⟨⟨.inl k1, by
    show (if g = G.β b then some (.t t, 0, 0) else (G.own g).map f) = some (.t t, 0, 0)
    rw [if_neg (hnb g _ k2), k2]; simp [f], k3⟩, rfl⟩
  have hrep : RepD (Mine G' w (.t t, 0, 0)) w (.sl sz l) (.slice (some ⟨G.β b, 0, none⟩) l.length l.length) := by
    refine .sl sz l (G.β b) 0 l.length (cs.toList.take (flat l).length) hlen (Nat.le_refl _) hu hsc (by simp; omega) (fun i v hi => ?_) (fun i x v hx hv => ?_)
    · rw [List.getElem?_take] at hi
      split at hi
      · rename_i hlt
        rw [Array.getElem?_toList] at hi
        rw [Nat.zero_add]
        exact ⟨⟨.inr ⟨rfl, hlt⟩, if_pos rfl, cs, q, h1⟩, by simp [World.cell?, h1, hi]⟩
      · cases hi
    · rw [List.getElem?_take_of_lt (List.getElem?_eq_some_iff.1 hx).1] at hv
      have := h4 i (dpc x) v (by rw [List.getElem?_map, hx]; rfl) (by simpa using hv)
      exact (dpc_rep (hsc x (List.mem_of_getElem? hx)) this).keep (hmine i)
  have hown1 : ∀ g p, G'.own g = some p → g < w.heap.size := fun g p hg => by
    by_cases e : g = G.β b
    · rw [e]; exact hβlt b hlive
    · have := (if_neg e).symm.trans hg
      obtain ⟨p', hp', -⟩ := Option.map_eq_some_iff.1 this
      exact hr.hp.ownlt g p' hp'
  have hown2 : ∀ g p, G'.own g = some p → F.w0.heap.size ≤ g ∨ F.Wr g := fun g p hg => by
    by_cases e : g = G.β b
    · rw [e]; exact hr.sn.box b hlive
    · have := (if_neg e).symm.trans hg
      obtain ⟨p', hp', -⟩ := Option.map_eq_some_iff.1 this
      exact hr.sn.own g p' hp'
  refine ⟨G', fun u => ?_, ⟨fun c cells hc => ?_, fun c => ?_, fun c c' hl hl' => hr.hp.inj c c' hl.2 hl'.2, fun g o hg => ?_, hown1, fun c hl o hg => ?_, fun c hl => (if_neg (fun e => hl.1 (hr.hp.inj c b hl.2 hlive e))).trans (by rw [hr.hp.boxown c hl.2]; rfl)⟩, ⟨?_, hown2, fun c hl => hr.sn.box c hl.2, hr.sn.βa, hr.sn.fz, hr.sn.fzm⟩, hr.nt, hr.defers, fun g hg => ⟨(hstep.free _ g (.inl rfl) (hr.z g hg).1).1.less fun _ h => h.2, (hr.z g hg).2⟩, hr.tab⟩
  · by_cases hu' : u = t
    · subst hu'
      simp only [tm_put, if_true]
      rw [hv]
      exact ⟨hrep, rfl⟩
    · simp only [tm_put, hu', if_false, tm_drop]
      exact kill_rep (G := G2) (b := b) ((hr.tm u).step hstep (fun i j => by simp [f]))
  · simp only [bx_put, bx_drop] at hc
    split at hc
    · cases hc
    · rename_i hcb
      obtain ⟨cells', hc', rfl⟩ := Option.map_eq_some_iff.1 hc
      obtain ⟨cs', e', k1, k2, k3, k4⟩ := hr.hp.bx c cells' hc'
      refine ⟨cs', e', k1, by simpa using k2, fun j u hj hu => k3 j u (by simpa using hj) hu, fun j x u hx hu => ?_⟩
      rw [List.getElem?_map] at hx
      obtain ⟨z, hz, rfl⟩ := Option.map_eq_some_iff.1 hx
      exact killC_rep (G := G2) (b := b) ((k4 j z u hz hu).step hstep (by simp [f, hcb]))
  · simp only [bx_put, bx_drop]
    by_cases hcb : c = b
    · simp [hcb, G']
    · simp [hcb, G', hr.hp.live c]
  · rcases hg with hg | ⟨rfl, _⟩
    · exact hr.hp.imlt g o hg
    · exact hβlt b hlive
  · rcases hg with hg | ⟨hg, _⟩
    · exact hr.hp.boxim c hl.2 o hg
    · exact hl.1 (hr.hp.inj c b hl.2 hlive hg)
  · have hx := hr.sn.ext
    have hbf := hr.sn.box b hlive
    refine ⟨hx.os, hx.tape, hx.output, hx.size, hx.old, fun g o hg => ⟨.inl (hx.keep g o hg).1, (hx.keep g o hg).2⟩, fun g o hg => ?_⟩
    rcases hg with hg | ⟨rfl, _⟩
    · exact hx.new g o hg
    · rcases hbf with h | h
      · exact .inr (.inl h)
      · exact .inr (.inr h)
theorem wk_fzq {P : Program} {K : St → Prop} {s : St} (t : Nat) (b : BN) (e sz n : Nat) (l : List PD) (ts : List (Nat × PV)) (bs : List (BN × List PV)) (hs : Has s ((t, .rsl b e sz n) :: ts) ((b, (flat l).map dpc) :: bs)) (hl : l.length = n) (hu : ∀ x ∈ l, x.cells.length = sz) (hsc : ∀ x ∈ flat l, x.scalar = true)
    (h : K (mk ((t, .dp (.sl sz l)) :: ts) bs)) (h1 : ts.all (fun q => okT (bs.map (·.1)) q.2) = true := by rfl) (h2 : bs.all (fun q => q.2.all (okC (bs.map (·.1)))) = true := by rfl) (h3 : hasB (bs.map (·.1)) b = false := by rfl) : wk P K s := by
  refine ⟨_, Weak.trans (Weak.mk hs) (Weak.freezeQ (t := t) (b := b) (e := e) (sz := sz) (n := n) (l := l) (by rw [tm_mk, look_c, if_pos rfl]) (by rw [bx_mk, lookB_c, if_pos rfl]) hl hu hsc), ?_⟩
  have e1 : ((mk ((t, .rsl b e sz n) :: ts) ((b, (flat l).map dpc) :: bs)).drop b).put t (.dp (.sl sz l)) = mk ((t, .dp (.sl sz l)) :: ts) bs := by
    unfold mk St.drop St.put
    simp only [St.mk.injEq]
    refine ⟨funext fun k => ?_, funext fun c => ?_⟩
    · by_cases hk : k = t
      · rw [if_pos hk, look_c, if_pos hk]
      · rw [if_neg hk, look_c, look_c, if_neg hk, if_neg hk, look_ok h1 h3]
    · split
      · rename_i hc
        subst hc
        cases hq : lookB bs c with
        | none => rfl
        | some q => have := (lookB_has bs c).2 (by rw [hq]; rfl); rw [h3] at this; cases this
      · rename_i hc
        rw [lookB_c, if_neg hc, lookB_ok h2 h3]
  rw [e1]; exact h
/-- A row of plain data that is one's own is so to the bottom. -/
theorem own_mine {G : Gh} {w : World} {p : Pos} {e sz : Nat} {l : List PD} {v : Value} (hp : ∀ x ∈ flat l, x.plain = true) (h : OwnAt G w p e sz l v) : RepD (Mine G w p) w (.sl sz l) v := by
  by_cases hl : l = []
  · subst hl
    have h1 := OwnAt.data h
    generalize e1 : PD.sl sz [] = z at h1
    cases h1 <;> cases e1
    · exact .nil sz
    · rename_i g o c vs _ _ _ _ _ _ _
      exact .emp sz ⟨g, o, none⟩ c
    · rename_i ad c; exact .emp sz ad c
  · obtain ⟨g, c, rfl, hlc, ⟨vs, h1, h2, h3, h4⟩, hg, cs, e', hgc⟩ := own_at0 h hl
    have hrun := (OwnAt.data h).run
    exact .sl sz l g 0 c vs h.1.len hlc hrun.2.2.1 h2 h1 (fun i v hi => ⟨⟨(h3 i v hi).1, hg, cs, e', hgc⟩, (h3 i v hi).2⟩) (fun i x v hx hv => plain_sc (hp x (List.mem_of_getElem? hx)) (h2 x (List.mem_of_getElem? hx)) (h4 i x v hx hv))
theorem CLe.ownDp {e sz : Nat} {l : List PD} (hp : ∀ x ∈ flat l, x.plain = true) : CLe (.own e sz l) (.dp (.sl sz l)) := ⟨fun P G w p v h => ⟨own_mine hp h, Eq.refl _⟩⟩
theorem PLe.ownDp {e sz : Nat} {l : List PD} (hp : ∀ x ∈ flat l, x.plain = true) : PLe (.own e sz l) (.dp (.sl sz l)) := ⟨fun P G w loc v h => ⟨own_mine hp h, Eq.refl _⟩⟩
theorem PLe.aggs {l m : List PV} (h : All2 CLe l m) : PLe (.agg l) (.agg m) := ⟨fun P G w loc v hv => by
  obtain ⟨cs, rfl, h1, h2, h3⟩ := hv
  have hl := h.len
  refine ⟨cs, Eq.refl _, by omega, h2, fun j y u hy hu => ?_⟩
  have hj : j < l.length := by rw [← hl]; exact (List.getElem?_eq_some_iff.1 hy).1
  exact (h.get j _ y (List.getElem?_eq_getElem hj) hy).c P G w _ u (h3 j _ u (List.getElem?_eq_getElem hj) hu)⟩
theorem BRet.less {P : Program} {f : Nat} {bi bo : List (List PV)} {args : List PV} {r r' : PV} (h : BRet P f bi args r bo) (hle : PLe r r') : BRet P f bi args r' bo :=
  ⟨h.1, h.2.1, fun G w vs Wr a b c d e g g2 tb => Calls.mono (h.2.2 G w vs Wr a b c d e g g2 tb) fun x w' hx => by
    obtain ⟨v, G', h1, h2, h3⟩ := hx
    exact ⟨v, G', h1, hle.t _ _ _ _ _ h2, h3⟩⟩
/-- What is nobody's may be written from here on. -/
theorem wk_unq {P : Program} {K : St → Prop} {s : St} (ts : List (Nat × PV)) (bs : List (BN × List PV)) (hs : Has s.unq ts bs) (h : K (mk ts bs)) : wk P K s := ⟨_, Weak.trans Weak.unq (Weak.mk hs), h⟩
/-! A variable whose slices are looked at alone from here on. -/
def PV.unbC (b : BN) (y : PD) (n : Nat) : PV → PV
  | .rsv c sz m => if c = b ∧ m = n then .d y else .rsv c sz m
  | x => x
def PV.unbV (b : BN) (y : PD) (n : Nat) : PV → PV
  | .agg l => .agg (l.map (PV.unbC b y n))
  | x => x.unbC b y n
def PV.unb (b : BN) (y : PD) (n : Nat) : PV → PV
  | .tup l => .tup (l.map (PV.unbV b y n))
  | x => x.unbV b y n
def St.unb (st : St) (b : BN) (y : PD) (n : Nat) : St := ⟨fun t => ((st.tm t).unb b y n).kill b, fun c => if c = b then none else (st.bx c).map fun cells => (cells.map (PV.unbC b y n)).map (PV.killC b)⟩
theorem Weak.unbox {P : Program} {st : St} (b : BN) (sz n : Nat) (l : List PD) (rest : List PV) (hb : st.bx b = some ((flat l).map .d ++ rest)) (hl : l.length = n) (hu : ∀ x ∈ l, x.cells.length = sz) (hbd : n ≤ 140737488355328) : Weak P st (st.unb b (.sl sz l) n) := fun F G a w hr => by
  subst hl
  have hlive : G.live b := (hr.hp.live b).2 (by rw [hb]; rfl)
  obtain ⟨cs, q, h1, h2, h3, h4⟩ := hr.hp.bx b _ hb
  have hcs : ∀ (i : Nat) x, (flat l)[i]? = some x → ∃ u, cs[i]? = some u ∧ RepD G.im w x u ∧ x.scalar = true := fun i x hx => by
    have hi := (List.getElem?_eq_some_iff.1 hx).1
    have hi2 : i < cs.size := by simp at h2; omega
    have := h4 i (.d x) cs[i] (by rw [List.getElem?_append_left (by simpa using hi), List.getElem?_map, hx]; rfl) (Array.getElem?_eq_getElem hi2)
    exact ⟨_, Array.getElem?_eq_getElem hi2, this.1, this.2⟩
  have hsz : (flat l).length ≤ cs.size := by simp at h2; omega
  have hβlt : ∀ c, G.live c → G.β c < w.heap.size := fun c hl => by obtain ⟨x, _, hbx⟩ := hr.hp.box hl; exact hbx.lt
  let G' : Gh := { im := (fun g o => G.im g o ∨ (g = G.β b ∧ o < (flat l).length)), β := G.β, live := (fun c => c ≠ b ∧ G.live c), own := G.own, fz := G.fz }
  let G2 : Gh := { G' with live := G.live }
  have hk : Keep G.im w G'.im w := fun g o h => ⟨.inl h, rfl⟩
  have hstep : GStep G w G2 w (fun p q => p = q) := by
    refine ⟨hk, fun c hl => ⟨hl, rfl⟩, rfl, fun _ _ => rfl, Nat.le_refl _, fun g p q hg e => ⟨by rw [← e]; exact hg, rfl, fun o ho => ?_⟩, fun o' g ho' hf => ?_⟩
    · rcases ho with ho | ⟨rfl, _⟩
      · exact ho
      · rw [hr.hp.boxown b hlive] at hg; cases hg
    · have hne : g ≠ G.β b := fun e => hf.2.2.1 b hlive e.symm
      exact ⟨⟨hf.1, hf.2.1, hf.2.2.1, fun o ho => ho.elim (hf.2.2.2.1 o) (fun ho => hne ho.1), hf.2.2.2.2⟩, .heap rfl⟩
  have hC : ∀ p, ∀ x v, RepC P G w p x v → RepC P G2 w p (x.unbC b (.sl sz l) l.length) v := by
    intro p x v h
    have hs := h.step hstep (p := p) (q := p) rfl
    cases x
    case rsv c sz' m =>
      simp only [PV.unbC]
      split
      · rename_i hcm
        obtain ⟨rfl, rfl⟩ := hcm
        obtain ⟨k, e1, rfl, -, -⟩ := h
        refine ⟨.sl sz l (G.β c) 0 k (cs.toList.take (flat l).length) hbd e1 hu (fun x hx => ?_) (by simp; omega) (fun i v hi => ?_) (fun i x v hx hv => ?_), rfl⟩
        · obtain ⟨i, hi, rfl⟩ := List.mem_iff_getElem.1 hx
          obtain ⟨-, -, -, h⟩ := hcs i _ (List.getElem?_eq_getElem hi)
          exact h
        · rw [List.getElem?_take] at hi
          split at hi
          · rename_i hlt
            rw [Array.getElem?_toList] at hi
            rw [Nat.zero_add]
            exact ⟨.inr ⟨rfl, hlt⟩, by simp [World.cell?, h1, hi]⟩
          · cases hi
        · obtain ⟨u', e2, e3, -⟩ := hcs i x hx
          rw [List.getElem?_take_of_lt (List.getElem?_eq_some_iff.1 hx).1, Array.getElem?_toList, e2] at hv
          cases hv; exact e3.keep hk
      · exact hs
    all_goals exact hs
  have hV : ∀ loc i, ∀ x v, RepV P G w loc i x v → RepV P G2 w loc i (x.unbV b (.sl sz l) l.length) v := by
    intro loc i x v h
    cases x
    case agg l' =>
      obtain ⟨cs', e1, e2, e3, e4⟩ := h
      refine ⟨cs', e1, by simpa using e2, e3, fun j y u hy hu => ?_⟩
      rw [List.getElem?_map] at hy
      obtain ⟨z, hz, rfl⟩ := Option.map_eq_some_iff.1 hy
      exact hC _ z u (e4 j z u hz hu)
    case tup l' => exact h
    case d z => exact hC (loc, i, 0)  (.d z) v h
    case nilS => exact hC (loc, i, 0)  (.nilS) v h
    case nn sz' l' => exact hC (loc, i, 0)  (.nn sz' l') v h
    case own e' sz' l' => exact hC (loc, i, 0)  (.own e' sz' l') v h
    case ptr b' o => exact hC (loc, i, 0)  (.ptr b' o) v h
    case rsl b' e' sz' n' => exact hC (loc, i, 0)  (.rsl b' e' sz' n') v h
    case eptr cs => exact hC (loc, i, 0)  (.eptr cs) v h
    case efn K => exact hC (loc, i, 0)  (.efn K) v h
    case dp z => exact hC (loc, i, 0)  (.dp z) v h
    case q z => exact hC (loc, i, 0)  (.q z) v h
    case zs z => exact hC (loc, i, 0)  (.zs z) v h
    case zp z => exact hC (loc, i, 0)  (.zp z) v h
    case one => exact hC (loc, i, 0)  (.one) v h
    case clo f caps => exact hC (loc, i, 0)  (.clo f caps) v h
    case fn K => exact hC (loc, i, 0)  (.fn K) v h
    case junk => exact hC (loc, i, 0)  (.junk) v h
    case und => exact hC (loc, i, 0)  (.und) v h
    case rsv c' sz' n' =>
      have := hC (loc, i, 0)  (.rsv c' sz' n') v h
      simp only [PV.unbC] at this
      simp only [PV.unb, PV.unbV, PV.unbC]
      split at this <;> (rename_i hcc; first | rw [if_pos hcc]; exact this | rw [if_neg hcc]; exact this)
  have hT : ∀ loc, ∀ x v, RepT P G w loc x v → RepT P G2 w loc (x.unb b (.sl sz l) l.length) v := by
    intro loc x v h
    cases x
    case tup l' =>
      obtain ⟨vs, e1, e2, e3⟩ := h
      refine ⟨vs, e1, by simpa using e2, fun j y u hy hu => ?_⟩
      rw [List.getElem?_map] at hy
      obtain ⟨z, hz, rfl⟩ := Option.map_eq_some_iff.1 hy
      exact hV loc j z u (e3 j z u hz hu)
    case agg l' => exact hV loc 0 (.agg l') v h
    case d z => exact hC (loc, 0, 0)  (.d z) v h
    case nilS => exact hC (loc, 0, 0)  (.nilS) v h
    case nn sz' l' => exact hC (loc, 0, 0)  (.nn sz' l') v h
    case own e' sz' l' => exact hC (loc, 0, 0)  (.own e' sz' l') v h
    case ptr b' o => exact hC (loc, 0, 0)  (.ptr b' o) v h
    case rsl b' e' sz' n' => exact hC (loc, 0, 0)  (.rsl b' e' sz' n') v h
    case eptr cs => exact hC (loc, 0, 0)  (.eptr cs) v h
    case efn K => exact hC (loc, 0, 0)  (.efn K) v h
    case dp z => exact hC (loc, 0, 0)  (.dp z) v h
    case q z => exact hC (loc, 0, 0)  (.q z) v h
    case zs z => exact hC (loc, 0, 0)  (.zs z) v h
    case zp z => exact hC (loc, 0, 0)  (.zp z) v h
    case one => exact hC (loc, 0, 0)  (.one) v h
    case clo f caps => exact hC (loc, 0, 0)  (.clo f caps) v h
    case fn K => exact hC (loc, 0, 0)  (.fn K) v h
    case junk => exact hC (loc, 0, 0)  (.junk) v h
    case und => exact hC (loc, 0, 0)  (.und) v h
    case rsv c' sz' n' =>
      have := hC (loc, 0, 0)  (.rsv c' sz' n') v h
      simp only [PV.unbC] at this
      simp only [PV.unb, PV.unbV, PV.unbC]
      split at this <;> (rename_i hcc; first | rw [if_pos hcc]; exact this | rw [if_neg hcc]; exact this)
  refine ⟨G', fun u => kill_rep (G := G2) (b := b) (hT _ _ _ (hr.tm u)), ⟨fun c cells hc => ?_, fun c => ?_, fun c c' hl hl' => hr.hp.inj c c' hl.2 hl'.2, fun g o hg => ?_, hr.hp.ownlt, fun c hl o hg => ?_, fun c hl => hr.hp.boxown c hl.2⟩, ⟨?_, hr.sn.own, fun c hl => hr.sn.box c hl.2, hr.sn.βa, hr.sn.fz, hr.sn.fzm⟩, hr.nt, hr.defers, fun g hg => ⟨(hstep.free _ g (.inl rfl) (hr.z g hg).1).1.less fun _ h => h.2, (hr.z g hg).2⟩, hr.tab⟩
  · simp only [St.unb] at hc
    split at hc
    · cases hc
    · obtain ⟨cells', hc', rfl⟩ := Option.map_eq_some_iff.1 hc
      obtain ⟨cs', e', k1, k2, k3, k4⟩ := hr.hp.bx c cells' hc'
      refine ⟨cs', e', k1, by simpa using k2, fun j u hj hu => k3 j u (by simpa using hj) hu, fun j x u hx hu => ?_⟩
      rw [List.getElem?_map] at hx
      obtain ⟨z, hz, rfl⟩ := Option.map_eq_some_iff.1 hx
      rw [List.getElem?_map] at hz
      obtain ⟨z', hz', rfl⟩ := Option.map_eq_some_iff.1 hz
      exact killC_rep (G := G2) (b := b) (hC _ z' u (k4 j z' u hz' hu))
  · simp only [St.unb]
    by_cases hcb : c = b
    · simp [hcb, G']
    · simp [hcb, G', hr.hp.live c]
  · rcases hg with hg | ⟨rfl, _⟩
    · exact hr.hp.imlt g o hg
    · exact hβlt b hlive
  · rcases hg with hg | ⟨hg, _⟩
    · exact hr.hp.boxim c hl.2 o hg
    · exact hl.1 (hr.hp.inj c b hl.2 hlive hg)
  · have hx := hr.sn.ext
    have hbf := hr.sn.box b hlive
    refine ⟨hx.os, hx.tape, hx.output, hx.size, hx.old, fun g o hg => ⟨.inl (hx.keep g o hg).1, (hx.keep g o hg).2⟩, fun g o hg => ?_⟩
    rcases hg with hg | ⟨rfl, _⟩
    · exact hx.new g o hg
    · rcases hbf with h | h
      · exact .inr (.inl h)
      · exact .inr (.inr h)
theorem wk_unb {P : Program} {K : St → Prop} {s : St} (b : BN) (sz n : Nat) (l : List PD) (rest : List PV) (hb : s.bx b = some ((flat l).map .d ++ rest)) (hl : l.length = n) (hu : ∀ x ∈ l, x.cells.length = sz) (hbd : n ≤ 140737488355328) (ts : List (Nat × PV)) (bs : List (BN × List PV)) (hs : Has (s.unb b (.sl sz l) n) ts bs) (h : K (mk ts bs)) : wk P K s :=
  ⟨_, Weak.trans (Weak.unbox b sz n l rest hb hl hu hbd) (Weak.mk hs), h⟩
end Go.Bee

/- Chapter 23: marks. -/
namespace Go.Bee.Mt
open Go Go.Bee Go.Proofs Go.Bee.Ty
theorem sU1 : ∀ (x : Int), evBuildSlice Tryz.prog 22 1 [(0, .d (.int .u8 x))] = some (.own 5 1 [.int .u8 x]) := fun x => by kernel_rfl
theorem cvI : ∀ (n : Int), evConv Tryz.prog 5 (.d (.int .i64 n)) = some (.d (.int .u8 (IntKind.u8.wrap n))) := fun n => by kernel_rfl
def opt (b : Bool) (x : PV) : Option PV := if b = true then some x else none
theorem cvS0 : ∀ (x : Int), evConv2 Tryz.prog 22 9 (.own 5 1 [.int .u8 x]) = (u8s [.int .u8 x]).bind fun bs => some (.d (.str bs)) := fun x => by kernel_rfl
theorem cvS (x : Int) (h : 0 ≤ x) (h2 : x < 256) : evConv2 Tryz.prog 22 9 (.own 5 1 [.int .u8 x]) = some (.d (.str [UInt8.ofNat x.toNat])) := by
  rw [cvS0]
  unfold u8s
  rw [if_pos ⟨h, h2⟩]; rfl
theorem tys : type_of% (And.intro Go.Bee.C23.tys (And.intro sU1 cvI)) := And.intro Go.Bee.C23.tys (And.intro sU1 cvI)
end Go.Bee.Mt
namespace Go.Bee.Mt
open Go Go.Bee Go.Proofs Go.Bee.Ty Go.Bee.C23
set_option linter.unusedVariables false
set_option maxRecDepth 20000
attribute [local irreducible] Go.Bee.bwp
def digs : Nat → Nat → List UInt8 → List UInt8
  | 0, _, acc => acc
  | f + 1, n, acc => if 0 < n then digs f (n / 10) (UInt8.ofNat (48 + ((n % 10 : Nat) : Int)).toNat :: acc) else acc
def mkT (k : Int) : List UInt8 := if k ≤ 0 then [109, 48] else 109 :: digs k.toNat k.toNat []
theorem markText_b (k : Int) (hk : k ≤ 1099511627776) : BRet Tryz.prog 79 [] [.int k] (.str (mkT k)) [] := by
  refine bof Tryz.func79 ?_
  by_cases h0 : k ≤ 0
  · have e : mkT k = [109, 48] := if_pos h0
    rw [e]
    refine bgo ?_
    trivial
  · have e : mkT k = 109 :: digs k.toNat k.toNat [] := if_neg h0
    rw [e]
    clear e
    obtain ⟨n, rfl⟩ : ∃ n : Nat, k = n := ⟨k.toNat, by omega⟩
    rw [show ((n : Int)).toNat = n from rfl]
    generalize hr : digs n n [] = res
    refine bgo ?_
    refine b_lp (ι := Nat × Nat × List UInt8) (fun i => [(0, .int i.2.1), (3, .str i.2.2)]) (fun _ => []) (fun i => i.2.1 ≤ i.1 ∧ digs i.1 i.2.1 i.2.2 = res ∧ i.2.2.length + i.2.1 ≤ n) (fun i => i.2.1) (n, n, []) hs ⟨Nat.le_refl _, hr, by simp⟩ ?_
    clear hr
    rintro ⟨f, m, acc⟩ ⟨hf, hd, hl⟩ I nx
    dsimp only at hf hd hl ⊢
    by_cases hm : 0 < m
    · have hgt : (m : Int) > 0 := by omega
      obtain ⟨f, rfl⟩ : ∃ f', f = f' + 1 := ⟨f - 1, by omega⟩
      rw [show digs (f + 1) m acc = digs f (m / 10) (UInt8.ofNat (48 + ((m % 10 : Nat) : Int)).toNat :: acc) from if_pos hm] at hd
      have hq : (m : Int).tdiv 10 = ((m / 10 : Nat) : Int) := by rw [Int.tdiv_eq_ediv_of_nonneg (by omega)]; omega
      have ht : (m : Int).tmod 10 = ((m % 10 : Nat) : Int) := by rw [Int.tmod_eq_emod_of_nonneg (by omega)]; omega
      have hw : IntKind.u8.wrap (48 + ((m % 10 : Nat) : Int)) = 48 + ((m % 10 : Nat) : Int) := by
        exact IntWalk.u8_in _ ⟨by omega, by omega⟩
      have hc := cvS (48 + ((m % 10 : Nat) : Int)) (by omega) (by omega)
      have h10 : ¬ ((10 : Int) = 0) := by decide
      have h7 : m / 10 < m := by omega
      have h8 : acc.length + 1 + m / 10 ≤ n := by omega
      have h9 : m / 10 ≤ f := by omega
      have h11 : 1 + acc.length ≤ 140737488355328 := by omega
      refine bgo ?_
      exact nx.go (f, m / 10, UInt8.ofNat (48 + ((m % 10 : Nat) : Int)).toNat :: acc) ⟨h9, hd, by simp; omega⟩ h7 hs
    · have hm0 : m = 0 := by omega
      subst hm0
      have hd2 : digs f 0 acc = acc := by cases f <;> rfl
      rw [hd2] at hd
      subst hd
      have h11 : 1 + acc.length ≤ 140737488355328 := by omega
      refine bgo ?_
      refine wk_rfl ?_
      refine bgo ?_
      trivial
/-! The shape alone. -/
theorem markThesisS_z (l : List Th) (k : Int) (h0 : 0 ≤ k) (hk : k + 2 * l.length ≤ 1099511627776) : BRet Tryz.prog 53 [] [.zs (.sl 2 (l.map Th.e)), .int k] (.int (k + 2 * l.length)) [] := by
  refine bof Tryz.func53 ?_
  have hlen : 2 * (l.length : Int) ≤ 1099511627776 := by omega
  generalize hr : k + 2 * l.length = r at *
  refine bgo ?_
  refine b_lp (ι := Nat × Int) (fun i => [(0, .zs (.sl 2 (l.map Th.e))), (1, .int i.2), (5, .int i.1)]) (fun _ => []) (fun i => i.1 ≤ l.length ∧ 0 ≤ i.2 ∧ i.2 + 2 * (l.length - i.1 : Nat) = r) (fun i => l.length - i.1) (0, k) hs ⟨Nat.zero_le _, h0, by simpa using hr⟩ ?_
  clear hr
  rintro ⟨i, j⟩ ⟨hi, hj0, hj⟩ I nx
  dsimp only at hi hj0 hj ⊢
  by_cases hlt : i < l.length
  · have hx : l[i]? = some l[i] := List.getElem?_eq_getElem hlt
    have hm := markText_b j (by omega)
    have h3 : ¬ ((3 : Int) = 0) := by decide
    have hj2 : j + 1 + 1 + 2 * ((l.length - (i + 1) : Nat) : Int) = r := by omega
    have hjb : j + 2 ≤ 1099511627776 := by omega
    have hib : (i : Int) + 1 ≤ 1099511627776 := by omega
    clear hj
    refine bgo ?_
    refine b_call hm rfl rfl rfl rfl ?_
    refine bgo ?_
    exact nx.go (i + 1, j + 1 + 1) ⟨hlt, by dsimp only; omega, hj2⟩ (by dsimp only; omega) hs
  · have hi2 : i = l.length := by omega
    subst hi2
    have hj2 : j = r := by omega
    subst hj2
    refine bgo ?_
    refine wk_rfl ?_
    refine bgo ?_
    trivial
theorem markStandardS_z (l : List Sd) (k : Int) (h0 : 0 ≤ k) (hk : k + 2 * l.length ≤ 1099511627776) : BRet Tryz.prog 78 [] [.zs (.sl 2 (l.map Sd.e)), .int k] (.int (k + 2 * l.length)) [] := by
  refine bof Tryz.func78 ?_
  have hlen : 2 * (l.length : Int) ≤ 1099511627776 := by omega
  generalize hr : k + 2 * l.length = r at *
  refine bgo ?_
  refine b_lp (ι := Nat × Int) (fun i => [(0, .zs (.sl 2 (l.map Sd.e))), (1, .int i.2), (5, .int i.1)]) (fun _ => []) (fun i => i.1 ≤ l.length ∧ 0 ≤ i.2 ∧ i.2 + 2 * (l.length - i.1 : Nat) = r) (fun i => l.length - i.1) (0, k) hs ⟨Nat.zero_le _, h0, by simpa using hr⟩ ?_
  clear hr
  rintro ⟨i, j⟩ ⟨hi, hj0, hj⟩ I nx
  dsimp only at hi hj0 hj ⊢
  by_cases hlt : i < l.length
  · have hx : l[i]? = some l[i] := List.getElem?_eq_getElem hlt
    have hm := markText_b j (by omega)
    have hj2 : j + 1 + 1 + 2 * ((l.length - (i + 1) : Nat) : Int) = r := by omega
    have hjb : j + 2 ≤ 1099511627776 := by omega
    have hib : (i : Int) + 1 ≤ 1099511627776 := by omega
    clear hj
    refine bgo ?_
    refine b_call hm rfl rfl rfl rfl ?_
    refine bgo ?_
    exact nx.go (i + 1, j + 1 + 1) ⟨hlt, by dsimp only; omega, hj2⟩ (by dsimp only; omega) hs
  · have hi2 : i = l.length := by omega
    subst hi2
    have hj2 : j = r := by omega
    subst hj2
    refine bgo ?_
    refine wk_rfl ?_
    refine bgo ?_
    trivial
def mkRu (r : Ru) (k : Int) : Int := k + 2 * r.ps.length + 2 * r.es.length + 3
def mkRuL : List Ru → Int → Int
  | [], k => k
  | r :: l, k => mkRuL l (mkRu r k)
theorem mkRuL_ge : ∀ (l : List Ru) (k : Int), k + 3 * l.length ≤ mkRuL l k
  | [], k => by simp [mkRuL]
  | r :: l, k => by
    have := mkRuL_ge l (mkRu r k)
    simp only [mkRuL, List.length_cons]
    unfold mkRu at this ⊢
    omega
theorem markProofRuleS_z (l : List Ru) (k : Int) (h0 : 0 ≤ k) (hk : mkRuL l k ≤ 1099511627776) : BRet Tryz.prog 77 [] [.zs (.sl 5 (l.map Ru.e)), .int k] (.int (mkRuL l k)) [] := by
  refine bof Tryz.func77 ?_
  have hlen := mkRuL_ge l k
  generalize hr : mkRuL l k = r at *
  refine bgo ?_
  refine b_lp (ι := Nat × Int) (fun i => [(0, .zs (.sl 5 (l.map Ru.e))), (1, .int i.2), (5, .int i.1)]) (fun _ => []) (fun i => i.1 ≤ l.length ∧ 0 ≤ i.2 ∧ mkRuL (l.drop i.1) i.2 = r) (fun i => l.length - i.1) (0, k) hs ⟨Nat.zero_le _, h0, hr⟩ ?_
  clear hr
  rintro ⟨i, j⟩ ⟨hi, hj0, hj⟩ I nx
  dsimp only at hi hj0 hj ⊢
  by_cases hlt : i < l.length
  · have hx : l[i]? = some l[i] := List.getElem?_eq_getElem hlt
    rw [List.drop_eq_getElem_cons hlt] at hj
    have hg := mkRuL_ge (l.drop (i + 1)) (mkRu l[i] j)
    have hj2 : mkRuL (l.drop (i + 1)) (j + 2 * l[i].ps.length + 2 * l[i].es.length + 1 + 1 + 1) = r := by
      rw [← hj, show j + 2 * (l[i].ps.length : Int) + 2 * l[i].es.length + 1 + 1 + 1 = mkRu l[i] j by unfold mkRu; omega]; rfl
    have hb : mkRu l[i] j ≤ r := by
      rw [show mkRuL (l[i] :: l.drop (i + 1)) j = mkRuL (l.drop (i + 1)) (mkRu l[i] j) from rfl] at hj
      omega
    unfold mkRu at hb
    clear hj hg
    have h1 := markThesisS_z l[i].ps j hj0 (by omega)
    have h2 := markThesisS_z l[i].es (j + 2 * l[i].ps.length) (by omega) (by omega)
    have hm := markText_b (j + 2 * l[i].ps.length + 2 * l[i].es.length) (by omega)
    have h3 : ¬ ((3 : Int) = 0) := by decide
    have hib : (i : Int) + 1 ≤ 1099511627776 := by omega
    refine bgo ?_
    refine b_writes h1 rfl rfl rfl rfl ?_
    refine bgo ?_
    refine b_writes h2 rfl rfl rfl rfl ?_
    refine bgo ?_
    refine b_call hm rfl rfl rfl rfl ?_
    refine bgo ?_
    exact nx.go (i + 1, j + 2 * l[i].ps.length + 2 * l[i].es.length + 1 + 1 + 1) ⟨hlt, by dsimp only; omega, hj2⟩ (by dsimp only; omega) hs
  · have hi2 : i = l.length := by omega
    subst hi2
    rw [List.drop_length] at hj
    replace hj : j = r := hj
    subst hj
    refine bgo ?_
    refine wk_rfl ?_
    refine bgo ?_
    trivial
def mkCs (c : Cs) (k : Int) : Int := mkRuL c.rs (k + 2 * c.fs.length) + 2 * c.ss.length
theorem markCase_z (c : Cs) (k : Int) (h0 : 0 ≤ k) (hk : mkCs c k ≤ 1099511627776) : BRet Tryz.prog 28 [] [.agg [.zs (.sl 2 (c.fs.map Th.e)), .zs (.sl 5 (c.rs.map Ru.e)), .zs (.sl 2 (c.ss.map Sd.e))], .int k] (.int (mkCs c k)) [] := by
  have hg := mkRuL_ge c.rs (k + 2 * c.fs.length)
  unfold mkCs at *
  have h1 := markThesisS_z c.fs k h0 (by omega)
  have h2 := markProofRuleS_z c.rs (k + 2 * c.fs.length) (by omega) (by omega)
  have h3 := markStandardS_z c.ss (mkRuL c.rs (k + 2 * c.fs.length)) (by omega) (by omega)
  refine bof Tryz.func28 ?_
  refine bgo ?_
  refine b_writes h1 rfl rfl rfl rfl ?_
  refine bgo ?_
  refine b_writes h2 rfl rfl rfl rfl ?_
  refine bgo ?_
  refine b_writes h3 rfl rfl rfl rfl ?_
  refine bgo ?_
  trivial
end Go.Bee.Mt

/- A cursor over bytes: what is drawn. -/
namespace Go.Bee.Dr
open Go Go.Bee Go.Proofs Go.Bee.Ty
set_option linter.unusedVariables false
set_option maxRecDepth 20000
theorem bofp {f : Nat} {fn : Func} {c : Code} {rs : List ResultVar} {args : List PV} {r : PV} {ci co : List PV} (hf : Tryz.prog.funcs[f]? = some fn) (h : bwp Tryz.prog (fun _ => []) c (endK Tryz.prog rs r [co]) (St.init args [ci])) (hb : fn.body = some c := by exact rfl) (hrs : fn.results = rs.toArray := by exact rfl)
    (hn : (fn.name != "runtime.NumGoroutine") = true := by kernel_rfl) (hd : cOk Tryz.prog (fun _ => []) fn.ntmps c = true := by kernel_rfl) (ha : args.length ≤ fn.ntmps := by exact Nat.le_of_ble_eq_true rfl) : BRet Tryz.prog f [ci] args r [co] :=
  BRet.of_body (fun _ => []) mixed hf hb hn hd hrs rfl ha h
attribute [local irreducible] Go.Bee.bwp
theorem cvI : ∀ (k : IntKind) (n : Int), evConv Tryz.prog 3 (.d (.int k n)) = some (.d (.int .i64 (IntKind.i64.wrap n))) := fun k n => by kernel_rfl
theorem cvU : ∀ (k : IntKind) (n : Int), evConv Tryz.prog 103 (.d (.int k n)) = some (.d (.int .u64 (IntKind.u64.wrap n))) := fun k n => by kernel_rfl
theorem tys : type_of% (And.intro Go.Bee.Ty.tys (And.intro cvI cvU)) := And.intro Go.Bee.Ty.tys (And.intro cvI cvU)
structure Cu where (a : Nat) (x : Int)
def by1 (bs : List UInt8) : List PD := bs.map fun b => .int .u8 (b.toNat : Int)
abbrev Cu.c (bs : List UInt8) (s : Cu) : List PV := [.d (.sl 1 (by1 bs)), .int (s.a : Int), .d (.int .u64 s.x)]
def nxV (bs : List UInt8) (s : Cu) : Int := match bs[s.a]? with
  | some b => b.toNat
  | none => 0
def nxX (bs : List UInt8) (s : Cu) : Int := IntKind.u64.wrap (IntKind.u64.wrap (IntKind.u64.wrap (s.x * 6364136223846793005) + IntKind.u64.wrap (nxV bs s)) + 902902)
def nxS (bs : List UInt8) (s : Cu) : Cu := ⟨s.a + 1, nxX bs s⟩
def nxR (bs : List UInt8) (s : Cu) : Int := if (s.a : Int) + 1 ≤ bs.length then nxV bs s else IntKind.i64.wrap (bAnd .u64 (bShr .u64 (nxX bs s) 40) 255)
theorem by1_len (bs : List UInt8) : (by1 bs).length = bs.length := by simp [by1]
theorem next_b (bs : List UInt8) (s : Cu) (h : s.a ≤ 4611686018427387904) : BRet Tryz.prog 145 [s.c bs] [.ptr (.a 0) 0] (.int (nxR bs s)) [(nxS bs s).c bs] := by
  refine bofp Tryz.func145 ?_
  have hl := by1_len bs
  have key : ∀ (v : Int), nxV bs s = v → (nxS bs s).c bs = [.d (.sl 1 (by1 bs)), .int ((s.a : Int) + 1), .d (.int .u64 (IntKind.u64.wrap (IntKind.u64.wrap (IntKind.u64.wrap (s.x * 6364136223846793005) + IntKind.u64.wrap v) + 902902)))] := by
    rintro v rfl; rfl
  have key2 : ∀ (v : Int), nxV bs s = v → nxR bs s = if (s.a : Int) + 1 ≤ bs.length then v else IntKind.i64.wrap (bAnd .u64 (bShr .u64 (IntKind.u64.wrap (IntKind.u64.wrap (IntKind.u64.wrap (s.x * 6364136223846793005) + IntKind.u64.wrap v) + 902902)) 40) 255) := by
    rintro v rfl; rfl
  have hnx : nxV bs s = match bs[s.a]? with
    | some b => (b.toNat : Int)
    | none => 0 := rfl
  by_cases h1 : (s.a : Int) < bs.length
  · have hlt : s.a < bs.length := by omega
    have hx : (by1 bs)[s.a]? = some (.int .u8 (bs[s.a].toNat : Int)) := by
      unfold by1
      rw [List.getElem?_map, List.getElem?_eq_getElem hlt]; rfl
    have hv : nxV bs s = (bs[s.a].toNat : Int) := by rw [hnx, List.getElem?_eq_getElem hlt]
    have hb : bs[s.a].toNat < 256 := UInt8.toNat_lt _
    have e1 := key _ hv
    have e2 := key2 _ hv
    rw [e1, e2]
    clear key key2 e1 e2 hv hnx
    generalize bs[s.a].toNat = n at *
    have h2 : (s.a : Int) + 1 ≤ bs.length := by omega
    rw [if_pos h2]
    refine bgo ?_
    exact ret_1p rfl rfl rfl (fun k => rfl) rfl
  · have hv : nxV bs s = 0 := by rw [hnx, List.getElem?_eq_none (by omega)]
    have e1 := key _ hv
    have e2 := key2 _ hv
    rw [e1, e2]
    clear key key2 e1 e2 hv hnx
    have h2 : ¬ (s.a : Int) + 1 ≤ bs.length := by omega
    rw [if_neg h2]
    refine bgo ?_
    exact ret_1p rfl rfl rfl (fun k => rfl) rfl
theorem bAnd_in (a : Int) : 0 ≤ bAnd .u64 a 255 ∧ bAnd .u64 a 255 ≤ 255 := by
  have h : (BitVec.ofInt IntKind.u64.bits a &&& BitVec.ofInt IntKind.u64.bits 255).toNat ≤ 255 := by
    rw [BitVec.toNat_and]
    exact Nat.le_trans Nat.and_le_right (by decide)
  generalize hm : (BitVec.ofInt IntKind.u64.bits a &&& BitVec.ofInt IntKind.u64.bits 255).toNat = m at h
  have e : bAnd .u64 a 255 = IntKind.u64.wrap (m : Int) := by unfold bAnd; rw [hm]
  have e2 : IntKind.u64.wrap (m : Int) = m := by
    have : m = 0 ∨ 0 < m := by omega
    simp only [IntKind.wrap]
    simp [IntKind.bits, IntKind.signed]
    omega
  rw [e, e2]; omega
theorem nxV_in (bs : List UInt8) (s : Cu) : 0 ≤ nxV bs s ∧ nxV bs s ≤ 255 := by
  unfold nxV
  split
  · rename_i b _
    have := UInt8.toNat_lt b
    omega
  · omega
theorem nxR_in (bs : List UInt8) (s : Cu) : 0 ≤ nxR bs s ∧ nxR bs s ≤ 255 := by
  unfold nxR
  split
  · exact nxV_in bs s
  · have h := bAnd_in (bShr .u64 (nxX bs s) 40)
    rw [wrap_in _ (by omega) (by omega)]
    exact h
def pkR (bs : List UInt8) (s : Cu) (n : Int) : Int := if n ≤ 1 then 0 else if n > 200 then (nxR bs s * 256 + nxR bs (nxS bs s)).tmod n else (nxR bs s).tmod n
def pkS (bs : List UInt8) (s : Cu) (n : Int) : Cu := if n ≤ 1 then s else if n > 200 then nxS bs (nxS bs s) else nxS bs s
theorem pkR_in (bs : List UInt8) (s : Cu) {n : Int} (h : 1 ≤ n) : 0 ≤ pkR bs s n ∧ pkR bs s n < n := by
  have h1 := nxR_in bs s
  have h2 := nxR_in bs (nxS bs s)
  unfold pkR
  split
  · omega
  · split
    · exact ⟨Int.tmod_nonneg _ (by omega), Int.tmod_lt_of_pos _ (by omega)⟩
    · exact ⟨Int.tmod_nonneg _ (by omega), Int.tmod_lt_of_pos _ (by omega)⟩
theorem pkS_a (bs : List UInt8) (s : Cu) (n : Int) : (pkS bs s n).a ≤ s.a + 2 := by
  unfold pkS
  split
  · omega
  · split
    · show s.a + 1 + 1 ≤ _; omega
    · show s.a + 1 ≤ _; omega
theorem pick_b (bs : List UInt8) (s : Cu) (n : Int) (h : s.a ≤ 4611686018427387000) : BRet Tryz.prog 130 [s.c bs] [.ptr (.a 0) 0, .int n] (.int (pkR bs s n)) [(pkS bs s n).c bs] := by
  refine bofp Tryz.func130 ?_
  unfold pkR pkS
  by_cases h1 : n ≤ 1
  · rw [if_pos h1, if_pos h1]
    refine bgo ?_
    exact ret_1p rfl rfl rfl (fun k => rfl) rfl
  · rw [if_neg h1, if_neg h1]
    have hin := nxR_in bs s
    refine bgo ?_
    refine b_callp (next_b bs s (by omega)) rfl rfl rfl rfl rfl rfl rfl rfl rfl rfl ?_
    by_cases h2 : n > 200
    · rw [if_pos h2, if_pos h2]
      have hin2 := nxR_in bs (nxS bs s)
      have hn0 : ¬ n = 0 := by omega
      refine bgo ?_
      refine b_callp (next_b bs (nxS bs s) (show s.a + 1 ≤ _ by omega)) rfl rfl rfl rfl rfl rfl rfl rfl rfl rfl ?_
      generalize nxR bs (nxS bs s) = v2 at *
      generalize nxR bs s = v1 at *
      refine bgo ?_
      exact ret_1p rfl rfl rfl (fun k => rfl) rfl
    · rw [if_neg h2, if_neg h2]
      have hn0 : ¬ n = 0 := by omega
      generalize nxR bs s = v1 at *
      refine bgo ?_
      exact ret_1p rfl rfl rfl (fun k => rfl) rfl
theorem one_b (bs : List UInt8) (s : Cu) (n : Int) (h : s.a ≤ 4611686018427387000) : BRet Tryz.prog 86 [s.c bs] [.ptr (.a 0) 0, .int n] (.bool (pkR bs s n == 0)) [(pkS bs s n).c bs] := by
  refine bofp Tryz.func86 ?_
  refine bgo ?_
  refine b_callp (pick_b bs s n h) rfl rfl rfl rfl rfl rfl rfl rfl rfl rfl ?_
  generalize pkR bs s n = v
  generalize pkS bs s n = s1
  refine bgo ?_
  exact ret_1p rfl rfl rfl (fun k => rfl) rfl
end Go.Bee.Dr

/- Marks of a result, and what is read of them. -/
namespace Go.Bee.Mr
open Go Go.Bee Go.Proofs Go.Bee.Ty
theorem tys : type_of% Go.Bee.Mt.tys := Go.Bee.Mt.tys
end Go.Bee.Mr
namespace Go.Bee.Mr
open Go Go.Bee Go.Proofs Go.Bee.Ty Go.Bee.C23 Go.Bee.Mt Go.Bee.Dr
set_option linter.unusedVariables false
set_option maxRecDepth 20000
attribute [local irreducible] Go.Bee.bwp
/-- What is in a variable, plain data one by one. -/
def row (l : List PD) : List PV := (flat l).map PV.d
theorem put_set {α : Type} (X : List α) (o : Nat) (v : α) (h : o < X.length) : X.take o ++ [v] ++ X.drop (o + 1) = X.set o v := by
  rw [List.set_eq_take_append_cons_drop, if_pos h]; simp
theorem row_app (a b : List PD) : row (a ++ b) = row a ++ row b := by unfold row flat; rw [List.flatMap_append, List.map_append]
theorem row_len {sz : Nat} {l : List PD} (h : ∀ x ∈ l, x.cells.length = sz) : (row l).length = l.length * sz := by unfold row; rw [List.length_map, flat_length h]
theorem dmap_ok {α : Type} (X : List α) (f : α → PD) (L : List BN) : (X.map fun n => PV.d (f n)).all (okC L) = true := by
  rw [List.all_eq_true]
  intro x hx
  obtain ⟨y, -, rfl⟩ := List.mem_map.1 hx
  rfl
theorem row_gives (l : List PD) (h : True) : (row l).all PV.gives1 = true := by
  rw [List.all_eq_true]
  intro x hx
  obtain ⟨y, -, rfl⟩ := List.mem_map.1 hx
  rfl
theorem row_ok (l : List PD) (L : List BN) : (row l).all (okC L) = true := by
  rw [List.all_eq_true]
  intro x hx
  obtain ⟨y, -, rfl⟩ := List.mem_map.1 hx
  rfl
/-! Numbers. -/
def ints (l : List Int) : List PD := l.map (.int .i64)
theorem ints_row (l : List Int) : row (ints l) = l.map fun n => .d (.int .i64 n) := by
  induction l with
  | nil => rfl
  | cons a l ih =>
    show row ([PD.int .i64 a] ++ ints l) = _
    rw [row_app, ih]; rfl
def mkI (n : Nat) (k : Int) : List Int := (List.range n).map fun (i : Nat) => k + (i : Int)
theorem mix_set {α β : Type} (f : α → β) {a b : List α} {i : Nat} {v : α} (hv : a[i]? = some v) (hb : i < b.length) : ((a.take i ++ b.drop i).map f).set i (f v) = (a.take (i + 1) ++ b.drop (i + 1)).map f := by
  obtain ⟨ha, rfl⟩ := List.getElem?_eq_some_iff.1 hv
  have h1 : (a.take i).length = i := by rw [List.length_take]; omega
  rw [List.drop_eq_getElem_cons hb, List.map_append, List.set_append_right _ _ (by simp; omega), List.map_cons]
  have : i - ((a.take i).map f).length = 0 := by simp; omega
  rw [this, List.set_cons_zero, List.take_succ_eq_append_getElem ha, List.append_assoc, List.map_append]
  rfl
theorem markIntS_r (l : List Int) (k : Int) (h0 : 0 ≤ k) (hk : k + l.length ≤ 1099511627776) : BRet Tryz.prog 56 [row (ints l)] [.rsv (.a 0) 1 l.length, .int k] (.int (k + l.length)) [row (ints (mkI l.length k))] := by
  refine bofp Tryz.func56 ?_
  have hml : (mkI l.length k).length = l.length := by simp [mkI]
  have hmi : ∀ i, i < l.length → (mkI l.length k)[i]? = some ((k + (i : Int))) := fun i h => by simp [mkI, h]
  generalize mkI l.length k = m at *
  have hm0 : (m.take 0 ++ l.drop 0).map (fun n => PV.d (PD.int .i64 n)) = row (ints l) := by simp [ints_row]
  have hm1 : (m.take l.length ++ l.drop l.length).map (fun n => PV.d (PD.int .i64 n)) = row (ints m) := by rw [ints_row, List.drop_length, List.append_nil, ← hml, List.take_length]
  refine bgo ?_
  refine b_lp (ι := Nat × Int) (fun i => [(0, .rsv (.a 0) 1 l.length), (1, .int i.2), (5, .int i.1)]) (fun i => [(.a 0, (m.take i.1 ++ l.drop i.1).map fun n => PV.d (PD.int .i64 n))]) (fun i => i.1 ≤ l.length ∧ i.2 = k + i.1) (fun i => l.length - i.1) (0, k)
    ⟨hsT, ⟨_, rfl, HasC.of hm0.symm (dmap_ok _ _ _)⟩, trivial⟩ ⟨Nat.zero_le _, by simp⟩ ?_
  rintro ⟨i, j⟩ ⟨hi, hj⟩ I nx
  dsimp only at hi hj ⊢
  by_cases hlt : i < l.length
  · have hlm : (m.take i ++ l.drop i).length = l.length := by simp; omega
    have hst := mix_set (fun n : Int => PV.d (PD.int .i64 n)) (a := m) (b := l) (i := i) (hmi i hlt) hlt
    rw [← hj] at hst
    have hib : (i : Int) + 1 ≤ 1099511627776 := by omega
    have hkb : j + 1 ≤ 1099511627776 := by omega
    have hj0 : 0 ≤ j := by omega
    have hj2 : k + ((i + 1 : Nat) : Int) = j + 1 := by omega
    clear hj
    refine bgo ?_
    refine ⟨by omega, nx.go (i + 1, j + 1) ⟨hlt, hj2.symm⟩ (by dsimp only; omega) ⟨⟨⟨PLe.rfl, rfl⟩, ⟨PLe.rfl, rfl⟩, ⟨PLe.rfl, rfl⟩, trivial⟩, ⟨_, rfl, HasC.of ?_ (dmap_ok _ _ _)⟩, trivial⟩⟩
    rw [Nat.mul_one, put_set _ _ _ (by rw [List.length_map]; omega)]
    exact hst
  · have hi2 : i = l.length := by omega
    subst hi2
    subst hj
    refine bgo ?_
    refine wk_mk [(1, .int (k + l.length))] [(.a 0, row (ints m))] ⟨hsT, ⟨_, rfl, HasC.of (by first | rfl | exact hm1) (row_ok _ _)⟩, trivial⟩ ?_
    refine bgo ?_
    exact ret_1p rfl rfl rfl (fun k => rfl) (row_gives _ trivial)
theorem heldIntS_b (n : Nat) (k : Int) (h0 : 0 ≤ k) (hk : k + n ≤ 1099511627776) : BRet Tryz.prog 57 [] [.d (.sl 1 (ints (mkI n k))), .int k] (.int (k + n)) [] := by
  refine bof Tryz.func57 ?_
  have hml : (mkI n k).length = n := by simp [mkI]
  have hmi : ∀ i, i < n → (mkI n k)[i]? = some ((k + (i : Int))) := fun i h => by simp [mkI, h]
  generalize mkI n k = m at *
  have hll : (ints m).length = n := by simp [ints, hml]
  have hli : ∀ i, i < n → (ints m)[i]? = some (PD.int .i64 ((k + (i : Int)))) := fun i h => by simp [ints, hmi i h]
  generalize ints m = q at *
  refine bgo ?_
  refine b_lp (ι := Nat × Int) (fun i => [(0, .d (.sl 1 q)), (1, .int i.2), (5, .int i.1)]) (fun _ => []) (fun i => i.1 ≤ n ∧ i.2 = k + i.1) (fun i => n - i.1) (0, k) hs ⟨Nat.zero_le _, by simp⟩ ?_
  rintro ⟨i, j⟩ ⟨hi, hj⟩ I nx
  dsimp only at hi hj ⊢
  by_cases hlt : i < n
  · have hx := hli i hlt
    rw [← hj] at hx
    have hib : (i : Int) + 1 ≤ 1099511627776 := by omega
    have hkb : j + 1 ≤ 1099511627776 := by omega
    have hj0 : 0 ≤ j := by omega
    have hj2 : k + ((i + 1 : Nat) : Int) = j + 1 := by omega
    have hlt2 : i < q.length := by omega
    clear hj hml hmi hli
    refine bgo ?_
    exact nx.go (i + 1, j + 1) ⟨hlt, hj2.symm⟩ (by dsimp only; omega) hs
  · have hi2 : i = n := by omega
    subst hi2
    subst hj
    have hlt2 : ¬ i < q.length := by omega
    refine bgo ?_
    refine wk_rfl ?_
    refine bgo ?_
    trivial
/-! Texts. -/
def txts (l : List (List UInt8)) : List PD := l.map .str
theorem txts_row (l : List (List UInt8)) : row (txts l) = l.map fun n => .d (.str n) := by
  induction l with
  | nil => rfl
  | cons a l ih =>
    show row ([PD.str a] ++ txts l) = _
    rw [row_app, ih]; rfl
def mkS (n : Nat) (k : Int) : List (List UInt8) := (List.range n).map fun (i : Nat) => mkT (k + (i : Int))
theorem markStringS_r (l : List (List UInt8)) (k : Int) (h0 : 0 ≤ k) (hk : k + l.length ≤ 1099511627776) : BRet Tryz.prog 29 [row (txts l)] [.rsv (.a 0) 1 l.length, .int k] (.int (k + l.length)) [row (txts (mkS l.length k))] := by
  refine bofp Tryz.func29 ?_
  have hml : (mkS l.length k).length = l.length := by simp [mkS]
  have hmi : ∀ i, i < l.length → (mkS l.length k)[i]? = some (mkT (k + (i : Int))) := fun i h => by simp [mkS, h]
  generalize mkS l.length k = m at *
  have hm0 : (m.take 0 ++ l.drop 0).map (fun n => PV.d (PD.str n)) = row (txts l) := by simp [txts_row]
  have hm1 : (m.take l.length ++ l.drop l.length).map (fun n => PV.d (PD.str n)) = row (txts m) := by rw [txts_row, List.drop_length, List.append_nil, ← hml, List.take_length]
  refine bgo ?_
  refine b_lp (ι := Nat × Int) (fun i => [(0, .rsv (.a 0) 1 l.length), (1, .int i.2), (5, .int i.1)]) (fun i => [(.a 0, (m.take i.1 ++ l.drop i.1).map fun n => PV.d (PD.str n))]) (fun i => i.1 ≤ l.length ∧ i.2 = k + i.1) (fun i => l.length - i.1) (0, k)
    ⟨hsT, ⟨_, rfl, HasC.of hm0.symm (dmap_ok _ _ _)⟩, trivial⟩ ⟨Nat.zero_le _, by simp⟩ ?_
  rintro ⟨i, j⟩ ⟨hi, hj⟩ I nx
  dsimp only at hi hj ⊢
  by_cases hlt : i < l.length
  · have hlm : (m.take i ++ l.drop i).length = l.length := by simp; omega
    have hst := mix_set (fun n : (List UInt8) => PV.d (PD.str n)) (a := m) (b := l) (i := i) (hmi i hlt) hlt
    rw [← hj] at hst
    have hib : (i : Int) + 1 ≤ 1099511627776 := by omega
    have hkb : j + 1 ≤ 1099511627776 := by omega
    have hj0 : 0 ≤ j := by omega
    have hj2 : k + ((i + 1 : Nat) : Int) = j + 1 := by omega
    clear hj
    refine bgo ?_
    refine b_call (markText_b j (by omega)) rfl rfl rfl rfl ?_
    refine bgo ?_
    refine ⟨by omega, nx.go (i + 1, j + 1) ⟨hlt, hj2.symm⟩ (by dsimp only; omega) ⟨⟨⟨PLe.rfl, rfl⟩, ⟨PLe.rfl, rfl⟩, ⟨PLe.rfl, rfl⟩, trivial⟩, ⟨_, rfl, HasC.of ?_ (dmap_ok _ _ _)⟩, trivial⟩⟩
    rw [Nat.mul_one, put_set _ _ _ (by rw [List.length_map]; omega)]
    exact hst
  · have hi2 : i = l.length := by omega
    subst hi2
    subst hj
    refine bgo ?_
    refine wk_mk [(1, .int (k + l.length))] [(.a 0, row (txts m))] ⟨hsT, ⟨_, rfl, HasC.of (by first | rfl | exact hm1) (row_ok _ _)⟩, trivial⟩ ?_
    refine bgo ?_
    exact ret_1p rfl rfl rfl (fun k => rfl) (row_gives _ trivial)
theorem heldStringS_b (n : Nat) (k : Int) (h0 : 0 ≤ k) (hk : k + n ≤ 1099511627776) : BRet Tryz.prog 30 [] [.d (.sl 1 (txts (mkS n k))), .int k] (.int (k + n)) [] := by
  refine bof Tryz.func30 ?_
  have hml : (mkS n k).length = n := by simp [mkS]
  have hmi : ∀ i, i < n → (mkS n k)[i]? = some (mkT (k + (i : Int))) := fun i h => by simp [mkS, h]
  generalize mkS n k = m at *
  have hll : (txts m).length = n := by simp [txts, hml]
  have hli : ∀ i, i < n → (txts m)[i]? = some (PD.str (mkT (k + (i : Int)))) := fun i h => by simp [txts, hmi i h]
  generalize txts m = q at *
  refine bgo ?_
  refine b_lp (ι := Nat × Int) (fun i => [(0, .d (.sl 1 q)), (1, .int i.2), (5, .int i.1)]) (fun _ => []) (fun i => i.1 ≤ n ∧ i.2 = k + i.1) (fun i => n - i.1) (0, k) hs ⟨Nat.zero_le _, by simp⟩ ?_
  rintro ⟨i, j⟩ ⟨hi, hj⟩ I nx
  dsimp only at hi hj ⊢
  by_cases hlt : i < n
  · have hx := hli i hlt
    rw [← hj] at hx
    have hib : (i : Int) + 1 ≤ 1099511627776 := by omega
    have hkb : j + 1 ≤ 1099511627776 := by omega
    have hj0 : 0 ≤ j := by omega
    have hj2 : k + ((i + 1 : Nat) : Int) = j + 1 := by omega
    have hlt2 : i < q.length := by omega
    clear hj hml hmi hli
    refine bgo ?_
    refine b_call (markText_b j (by omega)) rfl rfl rfl rfl ?_
    refine bgo ?_
    exact nx.go (i + 1, j + 1) ⟨hlt, hj2.symm⟩ (by dsimp only; omega) hs
  · have hi2 : i = n := by omega
    subst hi2
    subst hj
    have hlt2 : ¬ i < q.length := by omega
    refine bgo ?_
    refine wk_rfl ?_
    refine bgo ?_
    trivial
end Go.Bee.Mr

/- Chapter 23: copies. -/
namespace Go.Bee.C23
open Go Go.Bee Go.Proofs Go.Bee.Ty
set_option linter.unusedVariables false
set_option maxRecDepth 20000
attribute [local irreducible] Go.Bee.bwp
def Th.z : List PV := [.d (.str []), .d (.bool false)]
def Sd.z : List PV := [.d (.str []), .int 0]
theorem toThesis_b (t : Th) : BRet Tryz.prog 46 [] [.agg [.str t.n, .bool t.g]] (.agg [.str t.n, .bool t.g]) [] := by
  refine bof Tryz.func46 ?_
  refine bgo ?_
  trivial
theorem toStandard_b (t : Sd) : BRet Tryz.prog 118 [] [.agg [.str t.n, .int t.k]] (.agg [.str t.n, .int t.k]) [] := by
  refine bof Tryz.func118 ?_
  refine bgo ?_
  trivial
theorem toThesisS_b (l : List Th) (hl : l.length ≤ 1048576) : BRet Tryz.prog 71 [] [.d (.sl 2 (l.map Th.e))] (.own 30 2 (l.map Th.e)) [] := by
  refine bof Tryz.func71 ?_
  refine bgo ?_
  refine ⟨by omega, by omega, ?_⟩
  refine b_loop (fun n st => ∃ k : Nat, n = l.length - k ∧ k ≤ l.length ∧ st.tm 0 = .d (.sl 2 (l.map Th.e)) ∧ st.tm 3 = .rsl (.t 7) 30 2 l.length ∧ st.tm 4 = .int k ∧ st.bx (.t 7) = some (filling (l.map Th.e) Th.z l.length k) ∧ ∀ b, b ≠ .t 7 → st.bx b = none) l.length
    ⟨0, rfl, Nat.zero_le _, rfl, rfl, rfl, by rw [filling_0]; rfl, fun b hb => by simp [bx_put, bx_strip1, bx_sbx, bx_init, bxOf_nil, hb]⟩ ?_
  rintro n st ⟨k, rfl, hk, t0, t3, t4, t7, hb⟩
  by_cases hlt : k < l.length
  · have hx : l[k]? = some l[k] := List.getElem?_eq_getElem hlt
    refine bgo ?_
    refine b_call (toThesis_b _) rfl rfl rfl rfl ?_
    refine bgo ?_
    have hfl := filling_len (l := l.map Th.e) (zero := Th.z) (n := l.length) (k := k) (sz := 2) rfl (fun x hx => by obtain ⟨y, _, rfl⟩ := List.mem_map.1 hx; rfl) (by simp) hk
    have hfs := filling_step (l := l.map Th.e) (zero := Th.z) (n := l.length) (k := k) (sz := 2) rfl (fun x hx => by obtain ⟨y, _, rfl⟩ := List.mem_map.1 hx; rfl) (by simp) (by simpa using hlt)
    have hfb : (List.take (k * 2) (filling (l.map Th.e) Th.z l.length k) ++ [PV.str l[k].n, PV.bool l[k].g] ++ List.drop (k * 2 + 2) (filling (l.map Th.e) Th.z l.length k)).map PV.bC = filling (l.map Th.e) Th.z l.length (k + 1) := by
      rw [List.map_append, List.map_append, List.map_take, List.map_drop, filling_bC rfl, ← hfs, List.getElem_map]; rfl
    refine ⟨by rw [hfl]; omega, _, _, Weak.bC (.t 7), by omega, k + 1, rfl, hlt, t0, t3, rfl, congrArg some hfb, fun b hne => ?_⟩
    have := hb b hne
    simp [bx_put, bx_strip1, bx_sbx, hne, this]
  · have hk' : k = l.length := by omega
    subst hk'
    refine bgo ?_
    refine made (t := 3) (l := l.map Th.e) t3 (t7.trans ?_) (by simp) (fun x hx => by obtain ⟨y, _, rfl⟩ := List.mem_map.1 hx; rfl) hb fun s s3 hb => ?_
    · rw [← filling_n (l.map Th.e) Th.z, List.length_map]
    refine bgo ?_
    trivial
theorem toStandardS_b (l : List Sd) (hl : l.length ≤ 1048576) : BRet Tryz.prog 73 [] [.d (.sl 2 (l.map Sd.e))] (.own 116 2 (l.map Sd.e)) [] := by
  refine bof Tryz.func73 ?_
  refine bgo ?_
  refine ⟨by omega, by omega, ?_⟩
  refine b_loop (fun n st => ∃ k : Nat, n = l.length - k ∧ k ≤ l.length ∧ st.tm 0 = .d (.sl 2 (l.map Sd.e)) ∧ st.tm 3 = .rsl (.t 7) 116 2 l.length ∧ st.tm 4 = .int k ∧ st.bx (.t 7) = some (filling (l.map Sd.e) Sd.z l.length k) ∧ ∀ b, b ≠ .t 7 → st.bx b = none) l.length
    ⟨0, rfl, Nat.zero_le _, rfl, rfl, rfl, by rw [filling_0]; rfl, fun b hb => by simp [bx_put, bx_strip1, bx_sbx, bx_init, bxOf_nil, hb]⟩ ?_
  rintro n st ⟨k, rfl, hk, t0, t3, t4, t7, hb⟩
  by_cases hlt : k < l.length
  · have hx : l[k]? = some l[k] := List.getElem?_eq_getElem hlt
    refine bgo ?_
    refine b_call (toStandard_b _) rfl rfl rfl rfl ?_
    refine bgo ?_
    have hfl := filling_len (l := l.map Sd.e) (zero := Sd.z) (n := l.length) (k := k) (sz := 2) rfl (fun x hx => by obtain ⟨y, _, rfl⟩ := List.mem_map.1 hx; rfl) (by simp) hk
    have hfs := filling_step (l := l.map Sd.e) (zero := Sd.z) (n := l.length) (k := k) (sz := 2) rfl (fun x hx => by obtain ⟨y, _, rfl⟩ := List.mem_map.1 hx; rfl) (by simp) (by simpa using hlt)
    have hfb : (List.take (k * 2) (filling (l.map Sd.e) Sd.z l.length k) ++ [PV.str l[k].n, PV.int l[k].k] ++ List.drop (k * 2 + 2) (filling (l.map Sd.e) Sd.z l.length k)).map PV.bC = filling (l.map Sd.e) Sd.z l.length (k + 1) := by
      rw [List.map_append, List.map_append, List.map_take, List.map_drop, filling_bC rfl, ← hfs, List.getElem_map]; rfl
    refine ⟨by rw [hfl]; omega, _, _, Weak.bC (.t 7), by omega, k + 1, rfl, hlt, t0, t3, rfl, congrArg some hfb, fun b hne => ?_⟩
    have := hb b hne
    simp [bx_put, bx_strip1, bx_sbx, hne, this]
  · have hk' : k = l.length := by omega
    subst hk'
    refine bgo ?_
    refine made (t := 3) (l := l.map Sd.e) t3 (t7.trans ?_) (by simp) (fun x hx => by obtain ⟨y, _, rfl⟩ := List.mem_map.1 hx; rfl) hb fun s s3 hb => ?_
    · rw [← filling_n (l.map Sd.e) Sd.z, List.length_map]
    refine bgo ?_
    trivial
def Ru.z : List PV := [.nilS, .nilS, .d (.str []), .d (.bool false), .int 0]
def RuOk (r : Ru) : Prop := r.ps.length ≤ 1048576 ∧ r.es.length ≤ 1048576
theorem toProofRule_b (r : Ru) (h : RuOk r) : BRet Tryz.prog 117 [] [.agg [.d (.sl 2 (r.ps.map Th.e)), .d (.sl 2 (r.es.map Th.e)), .str r.c.n, .bool r.c.g, .int r.wt]]
    (.agg [.own 30 2 (r.ps.map Th.e), .own 30 2 (r.es.map Th.e), .str r.c.n, .bool r.c.g, .int r.wt]) [] := by
  refine bof Tryz.func117 ?_
  refine bgo ?_
  refine b_call (toThesisS_b _ h.1) rfl rfl rfl rfl ?_
  refine bgo ?_
  refine b_call (toThesisS_b _ h.2) rfl rfl rfl rfl ?_
  refine bgo ?_
  refine b_call (toThesis_b _) rfl rfl rfl rfl ?_
  refine bgo ?_
  trivial
theorem toProofRuleS_b (l : List Ru) (hl : l.length ≤ 1048576) (ho : ∀ r ∈ l, RuOk r) : BRet Tryz.prog 72 [] [.d (.sl 5 (l.map Ru.e))] (.own 36 5 (l.map Ru.e)) [] := by
  refine bof Tryz.func72 ?_
  refine bgo ?_
  refine ⟨by omega, by omega, ?_⟩
  refine b_loop (fun n st => ∃ k : Nat, n = l.length - k ∧ k ≤ l.length ∧ st.tm 0 = .d (.sl 5 (l.map Ru.e)) ∧ st.tm 3 = .rsl (.t 7) 36 5 l.length ∧ st.tm 4 = .int k ∧ st.bx (.t 7) = some (filling (l.map Ru.e) Ru.z l.length k) ∧ ∀ b, b ≠ .t 7 → st.bx b = none) l.length
    ⟨0, rfl, Nat.zero_le _, rfl, rfl, rfl, by rw [filling_0]; rfl, fun b hb => by simp [bx_put, bx_strip1, bx_sbx, bx_init, bxOf_nil, hb]⟩ ?_
  rintro n st ⟨k, rfl, hk, t0, t3, t4, t7, hb⟩
  by_cases hlt : k < l.length
  · have hx : l[k]? = some l[k] := List.getElem?_eq_getElem hlt
    refine bgo ?_
    refine b_call (toProofRule_b _ (ho _ (List.getElem_mem _))) rfl rfl rfl rfl ?_
    refine bgo ?_
    have hfl := filling_len (l := l.map Ru.e) (zero := Ru.z) (n := l.length) (k := k) (sz := 5) rfl (fun x hx => by obtain ⟨y, _, rfl⟩ := List.mem_map.1 hx; rfl) (by simp) hk
    have hfs := filling_step (l := l.map Ru.e) (zero := Ru.z) (n := l.length) (k := k) (sz := 5) rfl (fun x hx => by obtain ⟨y, _, rfl⟩ := List.mem_map.1 hx; rfl) (by simp) (by simpa using hlt)
    have hfb : (List.take (k * 5) (filling (l.map Ru.e) Ru.z l.length k) ++ [PV.own 30 2 (l[k].ps.map Th.e), PV.own 30 2 (l[k].es.map Th.e), PV.str l[k].c.n, PV.bool l[k].c.g, PV.int l[k].wt] ++ List.drop (k * 5 + 5) (filling (l.map Ru.e) Ru.z l.length k)).map PV.bC = filling (l.map Ru.e) Ru.z l.length (k + 1) := by
      rw [List.map_append, List.map_append, List.map_take, List.map_drop, filling_bC rfl, ← hfs, List.getElem_map]; rfl
    refine ⟨by rw [hfl]; omega, _, _, Weak.bC (.t 7), by omega, k + 1, rfl, hlt, t0, t3, rfl, congrArg some hfb, fun b hne => ?_⟩
    have := hb b hne
    simp [bx_put, bx_strip1, bx_sbx, hne, this]
  · have hk' : k = l.length := by omega
    subst hk'
    refine bgo ?_
    refine made (t := 3) (l := l.map Ru.e) t3 (t7.trans ?_) (by simp) (fun x hx => by obtain ⟨y, _, rfl⟩ := List.mem_map.1 hx; rfl) hb fun s s3 hb => ?_
    · rw [← filling_n (l.map Ru.e) Ru.z, List.length_map]
    refine bgo ?_
    trivial
def CsOk (c : Cs) : Prop := c.fs.length ≤ 1048576 ∧ c.rs.length ≤ 1048576 ∧ c.ss.length ≤ 1048576 ∧ ∀ r ∈ c.rs, RuOk r
abbrev Cs.own (c : Cs) : PV := .agg [.own 30 2 (c.fs.map Th.e), .own 36 5 (c.rs.map Ru.e), .own 116 2 (c.ss.map Sd.e)]
theorem toCase_b (c : Cs) (h : CsOk c) : BRet Tryz.prog 24 [] [.agg [.d (.sl 2 (c.fs.map Th.e)), .d (.sl 5 (c.rs.map Ru.e)), .d (.sl 2 (c.ss.map Sd.e))]]
    (.agg [.own 30 2 (c.fs.map Th.e), .own 36 5 (c.rs.map Ru.e), .own 116 2 (c.ss.map Sd.e)]) [] := by
  refine bof Tryz.func24 ?_
  refine bgo ?_
  refine b_call (toThesisS_b _ h.1) rfl rfl rfl rfl ?_
  refine bgo ?_
  refine b_call (toProofRuleS_b _ h.2.1 h.2.2.2) rfl rfl rfl rfl ?_
  refine bgo ?_
  refine b_call (toStandardS_b _ h.2.2.1) rfl rfl rfl rfl ?_
  refine bgo ?_
  trivial
theorem szF_ok {α : Type} {f : α → Int → Int} (h : Nice f) {p : α → Prop} (hp : ∀ a (x : Int), 0 ≤ x → x ≤ 1048576 → 0 ≤ f a x → p a) : ∀ (l : List α) (x : Int), 0 ≤ x → x ≤ 1048576 → 0 ≤ szF f l x → ∀ a ∈ l, p a
  | [], x, _, _, _ => by simp
  | b :: l, x, hx, hx2, hn => by
    unfold szF at hn
    split at hn
    · omega
    · rename_i hb
      intro a ha
      rcases List.mem_cons.1 ha with rfl | ha
      · exact hp _ x hx hx2 (by omega)
      · refine szF_ok h hp l (f b x) (by omega) ?_ hn a ha
        rcases h b x hx with e | e <;> omega
theorem szL_ok {α : Type} {f : α → Int → Int} (h : Nice f) {p : α → Prop} (hp : ∀ a (x : Int), 0 ≤ x → x ≤ 1048576 → 0 ≤ f a x → p a) (l : List α) (x : Int) (h0 : 0 ≤ x) (h1 : x ≤ 1048576) (hn : 0 ≤ szL f l x) : ∀ a ∈ l, p a := by
  unfold szL at hn
  split at hn
  · omega
  · exact szF_ok h hp l _ (by omega) (by omega) hn
theorem szRu_ok (r : Ru) (x : Int) (h0 : 0 ≤ x) (hx : x ≤ 1048576) (h : 0 ≤ szRu r x) : RuOk r := by
  have h1 := szL_nice szTh_nice r.ps x h0
  have h2 := szL_nice szTh_nice r.es (szL szTh r.ps x)
  unfold szRu at h
  split at h
  · omega
  split at h
  · omega
  have h3 := szL_len szTh_nice r.ps x h0 (by omega)
  have h4 := szL_len szTh_nice r.es (szL szTh r.ps x) (by omega) (by omega)
  exact ⟨by omega, by omega⟩
theorem szCs_ok (c : Cs) (h : 0 ≤ szCs c 1048576) : CsOk c := by
  have h1 := szL_nice szTh_nice c.fs 1048576 (by omega)
  have h2 := szL_nice szRu_nice c.rs (szL szTh c.fs 1048576)
  have h3 := szL_nice szSd_nice c.ss (szL szRu c.rs (szL szTh c.fs 1048576))
  unfold szCs at h
  split at h
  · omega
  split at h
  · omega
  have h4 := szL_len szTh_nice c.fs 1048576 (by omega) (by omega)
  have h5 := szL_len szRu_nice c.rs (szL szTh c.fs 1048576) (by omega) (by omega)
  split at h
  · omega
  have h6 := szL_len szSd_nice c.ss (szL szRu c.rs (szL szTh c.fs 1048576)) (by omega) (by omega)
  refine ⟨by omega, by omega, by omega, ?_⟩
  exact szL_ok szRu_nice szRu_ok c.rs (szL szTh c.fs 1048576) (by omega) (by omega) (by omega)
/-! Equal or not. -/
theorem eqThesis_b (a b : Th) : BRet Tryz.prog 102 [] [.agg [.str a.n, .bool a.g], .agg [.str b.n, .bool b.g]] (.bool (decide (a = b))) [] := by
  refine bof Tryz.func102 ?_
  refine bgo ?_
  obtain ⟨an, ag⟩ := a
  obtain ⟨bn, bg⟩ := b
  by_cases h : an = bn <;> by_cases h2 : ag = bg <;> simp_all
theorem eqStandard_b (a b : Sd) : BRet Tryz.prog 128 [] [.agg [.str a.n, .int a.k], .agg [.str b.n, .int b.k]] (.bool (decide (a = b))) [] := by
  refine bof Tryz.func128 ?_
  refine bgo ?_
  obtain ⟨an, ag⟩ := a
  obtain ⟨bn, bg⟩ := b
  by_cases h : an = bn <;> by_cases h2 : ag = bg <;> simp_all
theorem take_succ_eq {α : Type} {l m : List α} {k : Nat} (h : l.length = m.length) (hk : k < l.length) (hj : l.take k = m.take k) (he : l[k] = m[k]) : l.take (k + 1) = m.take (k + 1) := by
  rw [List.take_succ_eq_append_getElem hk, List.take_succ_eq_append_getElem (h ▸ hk), hj, he]
theorem eqThesisS_b (l m : List Th) : BRet Tryz.prog 52 [] [.d (.sl 2 (l.map Th.e)), .d (.sl 2 (m.map Th.e))] (.bool (decide (l = m))) [] := by
  refine BRet.len 0 (by kernel_rfl) rfl fun hl => ?_
  refine bof Tryz.func52 ?_
  simp only [List.length_map] at hl
  refine bgo ?_
  refine ⟨?_, ?_⟩ <;> intro h
  · have : l ≠ m := fun e => h (by rw [e])
    simp [this]
  have hlm : l.length = m.length := by omega
  refine b_loop (fun n st => ∃ k : Nat, n = l.length - k ∧ k ≤ l.length ∧ st.tm 0 = .d (.sl 2 (l.map Th.e)) ∧ st.tm 1 = .d (.sl 2 (m.map Th.e)) ∧ st.tm 5 = .int k ∧ l.take k = m.take k ∧ ∀ b, st.bx b = none) l.length ⟨0, rfl, Nat.zero_le _, rfl, rfl, rfl, by simp, bxOf_nil⟩ ?_
  rintro n st ⟨k, rfl, hk, t0, t1, t5, hj, hb⟩
  by_cases hlt : k < l.length
  · have hlt' : k < m.length := hlm ▸ hlt
    have hx : l[k]? = some l[k] := List.getElem?_eq_getElem hlt
    have hy : m[k]? = some m[k] := List.getElem?_eq_getElem hlt'
    have hts : l[k] = m[k] → l.take (k + 1) = m.take (k + 1) := take_succ_eq hlm hlt hj
    clear hj hlm h
    refine bgo ?_
    refine b_call (eqThesis_b l[k] m[k]) rfl rfl rfl rfl ?_
    refine bgo ?_
    refine ⟨fun h => ?_, fun h => ⟨_, _, Weak.refl _, by omega, k + 1, rfl, hlt, t0, t1, rfl, hts h, hb⟩⟩
    have : l ≠ m := fun e => h (by subst e; rfl)
    simp [this]
  · have hk' : k = l.length := by omega
    subst hk'
    have hd : decide (l = m) = true := by rw [List.take_length, hlm, List.take_length] at hj; simpa using hj
    clear hj hlm h
    refine bgo ?_
    refine wk_rfl ?_
    refine bgo ?_
    trivial
theorem eqStandardS_b (l m : List Sd) : BRet Tryz.prog 76 [] [.d (.sl 2 (l.map Sd.e)), .d (.sl 2 (m.map Sd.e))] (.bool (decide (l = m))) [] := by
  refine BRet.len 0 (by kernel_rfl) rfl fun hl => ?_
  refine bof Tryz.func76 ?_
  simp only [List.length_map] at hl
  refine bgo ?_
  refine ⟨?_, ?_⟩ <;> intro h
  · have : l ≠ m := fun e => h (by rw [e])
    simp [this]
  have hlm : l.length = m.length := by omega
  refine b_loop (fun n st => ∃ k : Nat, n = l.length - k ∧ k ≤ l.length ∧ st.tm 0 = .d (.sl 2 (l.map Sd.e)) ∧ st.tm 1 = .d (.sl 2 (m.map Sd.e)) ∧ st.tm 5 = .int k ∧ l.take k = m.take k ∧ ∀ b, st.bx b = none) l.length ⟨0, rfl, Nat.zero_le _, rfl, rfl, rfl, by simp, bxOf_nil⟩ ?_
  rintro n st ⟨k, rfl, hk, t0, t1, t5, hj, hb⟩
  by_cases hlt : k < l.length
  · have hlt' : k < m.length := hlm ▸ hlt
    have hx : l[k]? = some l[k] := List.getElem?_eq_getElem hlt
    have hy : m[k]? = some m[k] := List.getElem?_eq_getElem hlt'
    have hts : l[k] = m[k] → l.take (k + 1) = m.take (k + 1) := take_succ_eq hlm hlt hj
    clear hj hlm h
    refine bgo ?_
    refine b_call (eqStandard_b l[k] m[k]) rfl rfl rfl rfl ?_
    refine bgo ?_
    refine ⟨fun h => ?_, fun h => ⟨_, _, Weak.refl _, by omega, k + 1, rfl, hlt, t0, t1, rfl, hts h, hb⟩⟩
    have : l ≠ m := fun e => h (by subst e; rfl)
    simp [this]
  · have hk' : k = l.length := by omega
    subst hk'
    have hd : decide (l = m) = true := by rw [List.take_length, hlm, List.take_length] at hj; simpa using hj
    clear hj hlm h
    refine bgo ?_
    refine wk_rfl ?_
    refine bgo ?_
    trivial
theorem eqProofRule_b (a b : Ru) : BRet Tryz.prog 127 [] [.agg [.d (.sl 2 (a.ps.map Th.e)), .d (.sl 2 (a.es.map Th.e)), .str a.c.n, .bool a.c.g, .int a.wt], .agg [.d (.sl 2 (b.ps.map Th.e)), .d (.sl 2 (b.es.map Th.e)), .str b.c.n, .bool b.c.g, .int b.wt]] (.bool (decide (a = b))) [] := by
  refine bof Tryz.func127 ?_
  refine bgo ?_
  refine b_call (eqThesisS_b _ _) rfl rfl rfl rfl ?_
  refine bgo ?_
  refine ⟨fun h => ?_, fun h => ?_⟩
  · have : a ≠ b := fun e => h (by rw [e])
    simp [this]
  refine b_call (eqThesisS_b _ _) rfl rfl rfl rfl ?_
  refine bgo ?_
  refine ⟨fun h => ?_, fun h => ?_⟩
  · have : a ≠ b := fun e => h (by rw [e])
    simp [this]
  refine b_call (eqThesis_b a.c b.c) rfl rfl rfl rfl ?_
  refine bgo ?_
  refine ⟨fun h => ?_, fun h => ?_⟩
  · have : a ≠ b := fun e => h (by rw [e])
    simp [this]
  obtain ⟨a1, a2, a3, a4⟩ := a
  obtain ⟨b1, b2, b3, b4⟩ := b
  by_cases h4 : a4 = b4 <;> simp_all
theorem eqProofRuleS_b (l m : List Ru) : BRet Tryz.prog 75 [] [.d (.sl 5 (l.map Ru.e)), .d (.sl 5 (m.map Ru.e))] (.bool (decide (l = m))) [] := by
  refine BRet.len 0 (by kernel_rfl) rfl fun hl => ?_
  refine bof Tryz.func75 ?_
  simp only [List.length_map] at hl
  refine bgo ?_
  refine ⟨?_, ?_⟩ <;> intro h
  · have : l ≠ m := fun e => h (by rw [e])
    simp [this]
  have hlm : l.length = m.length := by omega
  refine b_loop (fun n st => ∃ k : Nat, n = l.length - k ∧ k ≤ l.length ∧ st.tm 0 = .d (.sl 5 (l.map Ru.e)) ∧ st.tm 1 = .d (.sl 5 (m.map Ru.e)) ∧ st.tm 5 = .int k ∧ l.take k = m.take k ∧ ∀ b, st.bx b = none) l.length ⟨0, rfl, Nat.zero_le _, rfl, rfl, rfl, by simp, bxOf_nil⟩ ?_
  rintro n st ⟨k, rfl, hk, t0, t1, t5, hj, hb⟩
  by_cases hlt : k < l.length
  · have hlt' : k < m.length := hlm ▸ hlt
    have hx : l[k]? = some l[k] := List.getElem?_eq_getElem hlt
    have hy : m[k]? = some m[k] := List.getElem?_eq_getElem hlt'
    have hts : l[k] = m[k] → l.take (k + 1) = m.take (k + 1) := take_succ_eq hlm hlt hj
    clear hj hlm h
    refine bgo ?_
    refine b_call (eqProofRule_b l[k] m[k]) rfl rfl rfl rfl ?_
    refine bgo ?_
    refine ⟨fun h => ?_, fun h => ⟨_, _, Weak.refl _, by omega, k + 1, rfl, hlt, t0, t1, rfl, hts h, hb⟩⟩
    have : l ≠ m := fun e => h (by subst e; rfl)
    simp [this]
  · have hk' : k = l.length := by omega
    subst hk'
    have hd : decide (l = m) = true := by rw [List.take_length, hlm, List.take_length] at hj; simpa using hj
    clear hj hlm h
    refine bgo ?_
    refine wk_rfl ?_
    refine bgo ?_
    trivial
theorem eqCase_b (a b : Cs) : BRet Tryz.prog 27 [] [.agg [.d (.sl 2 (a.fs.map Th.e)), .d (.sl 5 (a.rs.map Ru.e)), .d (.sl 2 (a.ss.map Sd.e))], .agg [.d (.sl 2 (b.fs.map Th.e)), .d (.sl 5 (b.rs.map Ru.e)), .d (.sl 2 (b.ss.map Sd.e))]] (.bool (decide (a = b))) [] := by
  refine bof Tryz.func27 ?_
  refine bgo ?_
  refine b_call (eqThesisS_b _ _) rfl rfl rfl rfl ?_
  refine bgo ?_
  refine ⟨fun h => ?_, fun h => ?_⟩
  · have : a ≠ b := fun e => h (by rw [e])
    simp [this]
  refine b_call (eqProofRuleS_b _ _) rfl rfl rfl rfl ?_
  refine bgo ?_
  refine ⟨fun h => ?_, fun h => ?_⟩
  · have : a ≠ b := fun e => h (by rw [e])
    simp [this]
  refine b_call (eqStandardS_b _ _) rfl rfl rfl rfl ?_
  refine bgo ?_
  refine ⟨fun h => ?_, fun h => ?_⟩
  · have : a ≠ b := fun e => h (by rw [e])
    simp [this]
  obtain ⟨a1, a2, a3⟩ := a
  obtain ⟨b1, b2, b3⟩ := b
  simp_all
end Go.Bee.C23

/- Chapter 23: copies that nobody else knows. -/
namespace Go.Bee.Cq
open Go Go.Bee Go.Proofs Go.Bee.Ty Go.Bee.C23 Go.Bee.Mt
theorem tys : type_of% (And.intro Go.Bee.C23.tys Go.Bee.Mt.tys) := And.intro Go.Bee.C23.tys Go.Bee.Mt.tys
end Go.Bee.Cq
namespace Go.Bee.Cq
open Go Go.Bee Go.Proofs Go.Bee.Ty Go.Bee.C23
set_option linter.unusedVariables false
set_option maxRecDepth 20000
attribute [local irreducible] Go.Bee.bwp
theorem th_plain (l : List Th) : ∀ x ∈ flat (l.map Th.e), x.plain = true := by
  intro x hx
  obtain ⟨y, hy, hxy⟩ := List.mem_flatMap.1 hx
  obtain ⟨t, _, rfl⟩ := List.mem_map.1 hy
  simp only [Th.e, PD.cells, List.mem_cons, List.not_mem_nil, or_false] at hxy
  rcases hxy with rfl | rfl <;> rfl
theorem sd_plain (l : List Sd) : ∀ x ∈ flat (l.map Sd.e), x.plain = true := by
  intro x hx
  obtain ⟨y, hy, hxy⟩ := List.mem_flatMap.1 hx
  obtain ⟨t, _, rfl⟩ := List.mem_map.1 hy
  simp only [Sd.e, PD.cells, List.mem_cons, List.not_mem_nil, or_false] at hxy
  rcases hxy with rfl | rfl <;> rfl
theorem ru_sc (l : List Ru) : ∀ x ∈ flat (l.map Ru.e), x.scalar = true := by
  intro x hx
  obtain ⟨y, hy, hxy⟩ := List.mem_flatMap.1 hx
  obtain ⟨r, _, rfl⟩ := List.mem_map.1 hy
  simp only [Ru.e, PD.cells, List.mem_cons, List.not_mem_nil, or_false] at hxy
  rcases hxy with rfl | rfl | rfl | rfl | rfl <;> rfl
theorem toThesisS_q (l : List Th) (hl : l.length ≤ 1048576) : BRet Tryz.prog 71 [] [.d (.sl 2 (l.map Th.e))] (.dp (.sl 2 (l.map Th.e))) [] := (toThesisS_b l hl).less (PLe.ownDp (th_plain l))
theorem toStandardS_q (l : List Sd) (hl : l.length ≤ 1048576) : BRet Tryz.prog 73 [] [.d (.sl 2 (l.map Sd.e))] (.dp (.sl 2 (l.map Sd.e))) [] := (toStandardS_b l hl).less (PLe.ownDp (sd_plain l))
theorem toProofRule_q (r : Ru) (h : RuOk r) : BRet Tryz.prog 117 [] [.agg [.d (.sl 2 (r.ps.map Th.e)), .d (.sl 2 (r.es.map Th.e)), .str r.c.n, .bool r.c.g, .int r.wt]]
    (.agg [.dp (.sl 2 (r.ps.map Th.e)), .dp (.sl 2 (r.es.map Th.e)), .str r.c.n, .bool r.c.g, .int r.wt]) [] :=
  (toProofRule_b r h).less (PLe.aggs (.cons (CLe.ownDp (th_plain _)) (.cons (CLe.ownDp (th_plain _)) (.cons CLe.rfl (.cons CLe.rfl (.cons CLe.rfl .nil))))))
def fillQ (l : List PD) (zero : List PV) (n k : Nat) : List PV := (flat (l.take k)).map dpc ++ (List.replicate (n - k) zero).flatten
theorem fillQ_0 (l : List PD) (zero : List PV) (n : Nat) : fillQ l zero n 0 = (List.replicate n zero).flatten := by simp [fillQ, flat]
theorem fillQ_n (l : List PD) (zero : List PV) : fillQ l zero l.length l.length = (flat l).map dpc := by simp [fillQ]
theorem fillQ_len {l : List PD} {zero : List PV} {sz n k : Nat} (hz : zero.length = sz) (hc : ∀ x ∈ l, x.cells.length = sz) (hl : l.length = n) (hk : k ≤ n) : (fillQ l zero n k).length = n * sz := by
  have h1 := flat_length (sz := sz) (l := l.take k) (fun x hx => hc x (List.mem_of_mem_take hx))
  simp only [fillQ, List.length_append, List.length_map, h1, List.length_take, List.length_flatten, List.map_replicate, hz, List.sum_replicate_nat]
  rw [Nat.min_eq_left (by omega), ← Nat.add_mul]
  congr 1; omega
theorem fillQ_step {l : List PD} {zero : List PV} {sz n k : Nat} (hz : zero.length = sz) (hc : ∀ x ∈ l, x.cells.length = sz) (hl : l.length = n) (hk : k < l.length) :
    (fillQ l zero n k).take (k * sz) ++ (l[k].cells.map dpc) ++ (fillQ l zero n k).drop (k * sz + sz) = fillQ l zero n (k + 1) := by
  have h1 := flat_length (sz := sz) (l := l.take k) (fun x hx => hc x (List.mem_of_mem_take hx))
  rw [List.length_take, Nat.min_eq_left (by omega)] at h1
  have e : n - k = (n - (k + 1)) + 1 := by omega
  have hlen : ((flat (l.take k)).map dpc).length = k * sz := by rw [List.length_map]; exact h1
  unfold fillQ
  rw [List.take_left' hlen, e, List.replicate_succ, List.flatten_cons, ← List.append_assoc, List.drop_left' (by rw [List.length_append, hlen, hz]), List.take_succ_eq_append_getElem hk]
  have : flat (l.take k ++ [l[k]]) = flat (l.take k) ++ l[k].cells := by unfold flat; rw [List.flatMap_append]; simp [-List.take_append_getElem]
  rw [this, List.map_append]
theorem fillQ_ok {l : List PD} {zero : List PV} (hz : ∀ L, zero.all (okC L) = true) (n k : Nat) (L : List BN) : (fillQ l zero n k).all (okC L) = true := by
  unfold fillQ
  rw [List.all_append, Bool.and_eq_true]
  refine ⟨?_, ?_⟩
  · rw [List.all_eq_true]
    intro x hx
    obtain ⟨y, -, rfl⟩ := List.mem_map.1 hx
    unfold dpc; split <;> rfl
  rw [List.all_eq_true]
  intro x hx
  obtain ⟨y, hy, hx⟩ := List.mem_flatten.1 hx
  rw [(List.mem_replicate.1 hy).2] at hx
  exact List.all_eq_true.1 (hz L) x hx
theorem toProofRuleS_q (l : List Ru) (hl : l.length ≤ 1048576) (ho : ∀ r ∈ l, RuOk r) : BRet Tryz.prog 72 [] [.d (.sl 5 (l.map Ru.e))] (.dp (.sl 5 (l.map Ru.e))) [] := by
  refine bof Tryz.func72 ?_
  have hu : ∀ x ∈ l.map Ru.e, x.cells.length = 5 := fun x hx => by obtain ⟨y, _, rfl⟩ := List.mem_map.1 hx; rfl
  have hok := fun n k L => fillQ_ok (l := l.map Ru.e) (zero := Ru.z) (fun _ => rfl) n k L
  refine bgo ?_
  refine ⟨by omega, by omega, ?_⟩
  refine b_lp (ι := Nat × Unit) (fun i => [(0, .d (.sl 5 (l.map Ru.e))), (3, .rsl (.t 7) 36 5 l.length), (4, .int i.1)]) (fun i => [(.t 7, fillQ (l.map Ru.e) Ru.z l.length i.1)]) (fun i => i.1 ≤ l.length) (fun i => l.length - i.1) (0, ())
    ⟨hsT, ⟨_, rfl, HasC.of (by rw [fillQ_0]; rfl) (hok _ _ _)⟩, trivial⟩ (Nat.zero_le _) ?_
  rintro ⟨k, u⟩ hk I nx
  dsimp only at hk ⊢
  by_cases hlt : k < l.length
  · have hx : l[k]? = some l[k] := List.getElem?_eq_getElem hlt
    have hfl := fillQ_len (l := l.map Ru.e) (zero := Ru.z) (n := l.length) (k := k) (sz := 5) rfl hu (by simp) hk
    have hfs := fillQ_step (l := l.map Ru.e) (zero := Ru.z) (n := l.length) (k := k) (sz := 5) rfl hu (by simp) (by simpa using hlt)
    refine bgo ?_
    refine b_call (toProofRule_q _ (ho _ (List.getElem_mem hlt))) rfl rfl rfl rfl ?_
    refine bgo ?_
    refine ⟨by omega, nx.go (k + 1, ()) hlt (by dsimp only; omega) ⟨hsT, ⟨_, rfl, HasC.of ?_ (hok _ _ _)⟩, trivial⟩⟩
    rw [← hfs, List.getElem_map]
    rfl
  · have hk' : k = l.length := by omega
    subst hk'
    refine bgo ?_
    refine wk_fzq 3 (.t 7) 36 5 l.length (l.map Ru.e) [] [] ⟨hsT, ⟨_, rfl, HasC.of ?_ ?_⟩, trivial⟩ (by simp) hu (ru_sc l) ?_
    · have := fillQ_n (l.map Ru.e) Ru.z
      rw [List.length_map] at this
      exact this
    · have := hok l.length l.length [.t 7]
      have h2 := fillQ_n (l.map Ru.e) Ru.z
      rw [List.length_map] at h2
      rw [h2] at this; exact this
    refine bgo ?_
    trivial
theorem toCase_q (c : Cs) (h : CsOk c) : BRet Tryz.prog 24 [] [.agg [.d (.sl 2 (c.fs.map Th.e)), .d (.sl 5 (c.rs.map Ru.e)), .d (.sl 2 (c.ss.map Sd.e))]]
    (.agg [.dp (.sl 2 (c.fs.map Th.e)), .dp (.sl 5 (c.rs.map Ru.e)), .dp (.sl 2 (c.ss.map Sd.e))]) [] := by
  refine bof Tryz.func24 ?_
  refine bgo ?_
  refine b_call (toThesisS_q _ h.1) rfl rfl rfl rfl ?_
  refine bgo ?_
  refine b_call (toProofRuleS_q _ h.2.1 h.2.2.2) rfl rfl rfl rfl ?_
  refine bgo ?_
  refine b_call (toStandardS_q _ h.2.2.1) rfl rfl rfl rfl ?_
  refine bgo ?_
  trivial
end Go.Bee.Cq

/- Chapter 23: the library's functions over slices. -/
namespace Go.Bee.C23
open Go Go.Bee Go.Proofs Go.Bee.Ty
set_option linter.unusedVariables false
set_option maxRecDepth 20000
attribute [local irreducible] Go.Bee.bwp
open Classical in
noncomputable def Kof {α : Type} (ok : α → Prop) (e : α → PD) (p : α → Bool) : List PD → Option PD := fun xs => if h : ∃ a, xs = [e a] ∧ ok a then some (.bool (p h.choose)) else none
theorem Kof_e {α : Type} {ok : α → Prop} {e : α → PD} (he : ∀ a b, e a = e b → a = b) (p : α → Bool) (a : α) (ha : ok a) : Kof ok e p [e a] = some (.bool (p a)) := by
  have h : ∃ b, [e a] = [e b] ∧ ok b := ⟨a, rfl, ha⟩
  unfold Kof
  rw [dif_pos h]
  have := he _ _ (List.cons.inj h.choose_spec.1).1
  rw [← this]
theorem Kof_okR {α : Type} {ok : α → Prop} {e : α → PD} {p : α → Bool} {P : Program} {B : Bx} {f : Nat} {caps cs : List PV} (hc : CapsR P B caps cs) (hf : isFn P f = true) (h : ∀ a, ok a → BRet P f [] (ofPD (e a) :: cs) (.bool (p a)) []) : CloOK P B f caps (Kof ok e p) :=
  ⟨cs, hc, hf, fun xs r hr => by
    unfold Kof at hr
    split at hr
    · rename_i hx
      simp only [Option.some.injEq] at hr
      subst hr
      refine ⟨rfl, ?_⟩
      have hs := hx.choose_spec.1
      have := h hx.choose hx.choose_spec.2
      generalize hx.choose = a at *
      subst hs
      exact this
    · cases hr⟩
theorem Kof_ok0 {α : Type} {ok : α → Prop} {e : α → PD} {p : α → Bool} {P : Program} {B : Bx} {f : Nat} {caps cs : List PV} (hc : capsOf B caps = some cs) (hf : isFn P f = true) (h : ∀ a, ok a → BRet P f [] (ofPD (e a) :: cs) (.bool (p a)) []) : CloOK0 P B f caps (Kof ok e p) :=
  ⟨cs, hc, hf, fun xs r hr => by
    unfold Kof at hr
    split at hr
    · rename_i hx
      simp only [Option.some.injEq] at hr
      subst hr
      refine ⟨rfl, ?_⟩
      have hs := hx.choose_spec.1
      have := h hx.choose hx.choose_spec.2
      generalize hx.choose = a at *
      subst hs
      exact this
    · cases hr⟩
theorem Kof_ok {α : Type} {ok : α → Prop} {e : α → PD} {p : α → Bool} {P : Program} {B : Bx} {f : Nat} {caps cs : List PV} (hc : capsOf B caps = some cs) (hf : isFn P f = true) (h : ∀ a, ok a → BRet P f [] (ofPD (e a) :: cs) (.bool (p a)) []) : CloOK P B f caps (Kof ok e p) := (Kof_ok0 hc hf h).up
theorem str_inj : ∀ a b : List UInt8, PD.str a = PD.str b → a = b := fun a b h => by cases h; rfl
theorem Th.inj : ∀ a b : Th, a.e = b.e → a = b := fun a b h => by
  obtain ⟨a1, a2⟩ := a; obtain ⟨b1, b2⟩ := b
  simp [Th.e] at h
  simp [h]
theorem map_inj {α : Type} {e : α → PD} (he : ∀ a b, e a = e b → a = b) : ∀ l m : List α, l.map e = m.map e → l = m
  | [], [], _ => rfl
  | a :: l, b :: m, h => by
    simp only [List.map_cons, List.cons.injEq] at h
    rw [he _ _ h.1, map_inj he l m h.2]
theorem Ru.inj : ∀ a b : Ru, a.e = b.e → a = b := fun a b h => by
  obtain ⟨a1, a2, ⟨a3, a4⟩, a5⟩ := a; obtain ⟨b1, b2, ⟨b3, b4⟩, b5⟩ := b
  simp only [Ru.e, PD.agg.injEq, List.cons.injEq, PD.sl.injEq, PD.str.injEq, PD.bool.injEq, PD.int.injEq, true_and, and_true] at h
  obtain ⟨h1, h2, h3, h4, h5⟩ := h
  rw [map_inj Th.inj _ _ h1, map_inj Th.inj _ _ h2, h3, h4, h5]

/-- The first place, from k on, whose item has p. -/
def idx {α : Type} (p : α → Bool) : List α → Nat → Int
  | [], _ => -1
  | a :: l, k => if p a = true then k else idx p l (k + 1)
theorem idx_step {α : Type} {p : α → Bool} {l : List α} {k : Nat} (hk : k < l.length) : idx p (l.drop k) k = if p l[k] = true then (k : Int) else idx p (l.drop (k + 1)) (k + 1) := by
  rw [List.drop_eq_getElem_cons hk]; rfl
theorem idx_any {α : Type} (p : α → Bool) : ∀ (l : List α) (k : Nat), decide (idx p l k ≥ 0) = l.any p
  | [], k => rfl
  | a :: l, k => by
    unfold idx
    by_cases h : p a = true
    · rw [if_pos h, List.any_cons, h]; simp
    · rw [if_neg h, List.any_cons, idx_any p l (k + 1)]; simp at h; simp [h]
theorem idx_find {α : Type} (p : α → Bool) : ∀ (l : List α) (k : Nat), (idx p l k = -1 ∧ l.find? p = none) ∨ ∃ i : Nat, idx p l k = ((k + i : Nat) : Int) ∧ i < l.length ∧ l[i]? = l.find? p
  | [], k => .inl ⟨rfl, rfl⟩
  | a :: l, k => by
    unfold idx
    by_cases h : p a = true
    · rw [if_pos h]
      exact .inr ⟨0, rfl, by simp, by simp [h]⟩
    · rw [if_neg h]
      rcases idx_find p l (k + 1) with ⟨e1, e2⟩ | ⟨i, e1, e2, e3⟩
      · exact .inl ⟨e1, by simp [h, e2]⟩
      · exact .inr ⟨i + 1, by rw [e1]; congr 1; omega, by simp; omega, by simp [h, e3]⟩
theorem b_fnb {P : Program} {fl : AF} {K : St → Prop} {st : St} {d t : Nat} {xs : List Operand} {ts : Array TypeId} {ty : TypeId} {pos : String} {af : Array Edge} {g : Option (Nat × Bool)} {Kf : List PD → Option PD} (zs : List PD) {b : Bool}
    (hf : st.tm t = .fn Kf) (hmv : fl.mv = false) (hz : pdsOf (xs.map st.ev) = some zs) (hr : Kf zs = some (.bool b)) (k : K (st.put d (.bool b))) :
    bcallD P none fl ⟨some d, .call ⟨.value (.tmp t), xs.toArray, ts⟩, ty, pos, af, g⟩ K st := b_fn hf hmv hz hr k
theorem indexFuncStr_b (ok : (List UInt8) → Prop) (l : List (List UInt8)) (hok : ∀ a ∈ l, ok a) (p : (List UInt8) → Bool) : BRet Tryz.prog 120 [] [.d (.sl 1 (l.map PD.str)), .fn (Kof ok PD.str p)] (.int (idx p l 0)) [] := by
  refine BRet.len 0 (by kernel_rfl) rfl fun hl => ?_
  refine bof Tryz.func120 ?_
  simp only [List.length_map] at hl
  generalize hr : idx p l 0 = r
  refine bgo ?_
  refine b_loop (fun n st => ∃ k : Nat, n = l.length - k ∧ k ≤ l.length ∧ st.tm 0 = .d (.sl 1 (l.map PD.str)) ∧ st.tm 1 = .fn (Kof ok PD.str p) ∧ st.tm 7 = .int l.length ∧ st.tm 8 = .int k ∧ idx p (l.drop k) k = r ∧ ∀ b, st.bx b = none) l.length ⟨0, rfl, Nat.zero_le _, rfl, rfl, rfl, rfl, hr, bxOf_nil⟩ ?_
  clear hr
  rintro n st ⟨k, rfl, hk, t0, t1, t7, t8, hj, hb⟩
  by_cases hlt : k < l.length
  · have hx : l[k]? = some l[k] := List.getElem?_eq_getElem hlt
    refine bgo ?_
    refine b_fnb [PD.str l[k]] rfl rfl rfl (Kof_e str_inj p l[k] (hok _ (List.getElem_mem hlt))) ?_
    refine bgo ?_
    refine ⟨?_, ?_⟩ <;> intro h
    · refine bgo ?_
      rw [idx_step hlt, if_pos h] at hj; rw [← hj]
    · refine bgo ?_
      rw [idx_step hlt, if_neg (by simp [h])] at hj
      exact ⟨_, _, Weak.refl _, by omega, k + 1, rfl, hlt, t0, t1, t7, rfl, hj, hb⟩
  · have hk' : k = l.length := by omega
    subst hk'
    refine bgo ?_
    refine wk_rfl ?_
    refine bgo ?_
    rw [List.drop_length] at hj
    rw [← hj]; rfl
theorem containsFuncStr_b (ok : (List UInt8) → Prop) (l : List (List UInt8)) (hok : ∀ a ∈ l, ok a) (p : (List UInt8) → Bool) : BRet Tryz.prog 124 [] [.d (.sl 1 (l.map PD.str)), .fn (Kof ok PD.str p)] (.bool (l.any p)) [] := by
  refine bof Tryz.func124 ?_
  refine bgo ?_
  refine b_call (indexFuncStr_b ok l hok p) rfl rfl rfl rfl ?_
  refine bgo ?_
  rw [← idx_any p l 0]
theorem indexFuncThesis_b (ok : Th → Prop) (l : List Th) (hok : ∀ a ∈ l, ok a) (p : Th → Bool) : BRet Tryz.prog 136 [] [.d (.sl 2 (l.map Th.e)), .fn (Kof ok Th.e p)] (.int (idx p l 0)) [] := by
  refine BRet.len 0 (by kernel_rfl) rfl fun hl => ?_
  refine bof Tryz.func136 ?_
  simp only [List.length_map] at hl
  generalize hr : idx p l 0 = r
  refine bgo ?_
  refine b_loop (fun n st => ∃ k : Nat, n = l.length - k ∧ k ≤ l.length ∧ st.tm 0 = .d (.sl 2 (l.map Th.e)) ∧ st.tm 1 = .fn (Kof ok Th.e p) ∧ st.tm 7 = .int l.length ∧ st.tm 8 = .int k ∧ idx p (l.drop k) k = r ∧ ∀ b, st.bx b = none) l.length ⟨0, rfl, Nat.zero_le _, rfl, rfl, rfl, rfl, hr, bxOf_nil⟩ ?_
  clear hr
  rintro n st ⟨k, rfl, hk, t0, t1, t7, t8, hj, hb⟩
  by_cases hlt : k < l.length
  · have hx : l[k]? = some l[k] := List.getElem?_eq_getElem hlt
    refine bgo ?_
    refine b_fnb [Th.e l[k]] rfl rfl rfl (Kof_e Th.inj p l[k] (hok _ (List.getElem_mem hlt))) ?_
    refine bgo ?_
    refine ⟨?_, ?_⟩ <;> intro h
    · refine bgo ?_
      rw [idx_step hlt, if_pos h] at hj; rw [← hj]
    · refine bgo ?_
      rw [idx_step hlt, if_neg (by simp [h])] at hj
      exact ⟨_, _, Weak.refl _, by omega, k + 1, rfl, hlt, t0, t1, t7, rfl, hj, hb⟩
  · have hk' : k = l.length := by omega
    subst hk'
    refine bgo ?_
    refine wk_rfl ?_
    refine bgo ?_
    rw [List.drop_length] at hj
    rw [← hj]; rfl
theorem containsFuncThesis_b (ok : Th → Prop) (l : List Th) (hok : ∀ a ∈ l, ok a) (p : Th → Bool) : BRet Tryz.prog 91 [] [.d (.sl 2 (l.map Th.e)), .fn (Kof ok Th.e p)] (.bool (l.any p)) [] := by
  refine bof Tryz.func91 ?_
  refine bgo ?_
  refine b_call (indexFuncThesis_b ok l hok p) rfl rfl rfl rfl ?_
  refine bgo ?_
  rw [← idx_any p l 0]
theorem indexFuncProofRule_b (ok : Ru → Prop) (l : List Ru) (hok : ∀ a ∈ l, ok a) (p : Ru → Bool) : BRet Tryz.prog 143 [] [.d (.sl 5 (l.map Ru.e)), .fn (Kof ok Ru.e p)] (.int (idx p l 0)) [] := by
  refine BRet.len 0 (by kernel_rfl) rfl fun hl => ?_
  refine bof Tryz.func143 ?_
  simp only [List.length_map] at hl
  generalize hr : idx p l 0 = r
  refine bgo ?_
  refine b_loop (fun n st => ∃ k : Nat, n = l.length - k ∧ k ≤ l.length ∧ st.tm 0 = .d (.sl 5 (l.map Ru.e)) ∧ st.tm 1 = .fn (Kof ok Ru.e p) ∧ st.tm 7 = .int l.length ∧ st.tm 8 = .int k ∧ idx p (l.drop k) k = r ∧ ∀ b, st.bx b = none) l.length ⟨0, rfl, Nat.zero_le _, rfl, rfl, rfl, rfl, hr, bxOf_nil⟩ ?_
  clear hr
  rintro n st ⟨k, rfl, hk, t0, t1, t7, t8, hj, hb⟩
  by_cases hlt : k < l.length
  · have hx : l[k]? = some l[k] := List.getElem?_eq_getElem hlt
    refine bgo ?_
    refine b_fnb [Ru.e l[k]] rfl rfl rfl (Kof_e Ru.inj p l[k] (hok _ (List.getElem_mem hlt))) ?_
    refine bgo ?_
    refine ⟨?_, ?_⟩ <;> intro h
    · refine bgo ?_
      rw [idx_step hlt, if_pos h] at hj; rw [← hj]
    · refine bgo ?_
      rw [idx_step hlt, if_neg (by simp [h])] at hj
      exact ⟨_, _, Weak.refl _, by omega, k + 1, rfl, hlt, t0, t1, t7, rfl, hj, hb⟩
  · have hk' : k = l.length := by omega
    subst hk'
    refine bgo ?_
    refine wk_rfl ?_
    refine bgo ?_
    rw [List.drop_length] at hj
    rw [← hj]; rfl
theorem containsFuncProofRule_b (ok : Ru → Prop) (l : List Ru) (hok : ∀ a ∈ l, ok a) (p : Ru → Bool) : BRet Tryz.prog 122 [] [.d (.sl 5 (l.map Ru.e)), .fn (Kof ok Ru.e p)] (.bool (l.any p)) [] := by
  refine bof Tryz.func122 ?_
  refine bgo ?_
  refine b_call (indexFuncProofRule_b ok l hok p) rfl rfl rfl rfl ?_
  refine bgo ?_
  rw [← idx_any p l 0]
theorem indexStr_b (l : List (List UInt8)) (s : List UInt8) : BRet Tryz.prog 139 [] [.d (.sl 1 (l.map .str)), .str s] (.int (idx (fun x => s == x) l 0)) [] := by
  refine BRet.len 0 (by kernel_rfl) rfl fun hl => ?_
  refine bof Tryz.func139 ?_
  simp only [List.length_map] at hl
  generalize hr : idx (fun x => s == x) l 0 = r
  refine bgo ?_
  refine b_loop (fun n st => ∃ k : Nat, n = l.length - k ∧ k ≤ l.length ∧ st.tm 0 = .d (.sl 1 (l.map .str)) ∧ st.tm 1 = .str s ∧ st.tm 7 = .int l.length ∧ st.tm 8 = .int k ∧ idx (fun x => s == x) (l.drop k) k = r ∧ ∀ b, st.bx b = none) l.length ⟨0, rfl, Nat.zero_le _, rfl, rfl, rfl, rfl, hr, bxOf_nil⟩ ?_
  clear hr
  rintro n st ⟨k, rfl, hk, t0, t1, t7, t8, hj, hb⟩
  by_cases hlt : k < l.length
  · have hx : l[k]? = some l[k] := List.getElem?_eq_getElem hlt
    refine bgo ?_
    rw [idx_step hlt] at hj
    refine ⟨?_, ?_⟩ <;> intro h
    · rw [if_pos (by simpa using h)] at hj; rw [← hj]
    · rw [if_neg (by simpa using h)] at hj
      exact ⟨_, _, Weak.refl _, by omega, k + 1, rfl, hlt, t0, t1, t7, rfl, hj, hb⟩
  · have hk' : k = l.length := by omega
    subst hk'
    refine bgo ?_
    refine wk_rfl ?_
    refine bgo ?_
    rw [List.drop_length] at hj
    rw [← hj]; rfl
theorem containsStr_b (l : List (List UInt8)) (s : List UInt8) : BRet Tryz.prog 103 [] [.d (.sl 1 (l.map .str)), .str s] (.bool (l.contains s)) [] := by
  refine bof Tryz.func103 ?_
  refine bgo ?_
  refine b_call (indexStr_b l s) rfl rfl rfl rfl ?_
  refine bgo ?_
  rw [List.contains_eq_any_beq, ← idx_any _ l 0]
theorem slStr : SlT Tryz.prog 47 9 1 16 := ⟨_, _, ty47, rfl, ty9, rfl, rfl, rfl, by decide⟩
theorem slTh : SlT Tryz.prog 24 30 2 24 := ⟨_, _, ty24, rfl, ty30, rfl, rfl, rfl, by decide⟩
theorem slRu : SlT Tryz.prog 25 36 5 80 := ⟨_, _, ty25, rfl, ty36, rfl, rfl, rfl, by decide⟩
theorem slSd : SlT Tryz.prog 26 116 2 24 := ⟨_, _, ty26, rfl, ty116, rfl, rfl, rfl, by decide⟩
theorem strT : StrT Tryz.prog 9 := ⟨_, ty9, rfl⟩
theorem one_str (s : List UInt8) : evBuildSlice Tryz.prog 47 1 [(0, .d (.str s))] = some (.own 9 1 [.str s]) := slStr.build1 _ _ rfl rfl (by decide)
end Go.Bee.C23
namespace Go.Bee.C23s
open Go.Bee.C23
theorem tys : type_of% (And.intro Go.Bee.C23.tys (And.intro strT.facts (And.intro one_str (And.intro slStr.facts (And.intro slTh.facts (And.intro slRu.facts slSd.facts)))))) := (And.intro Go.Bee.C23.tys (And.intro strT.facts (And.intro one_str (And.intro slStr.facts (And.intro slTh.facts (And.intro slRu.facts slSd.facts))))))
end Go.Bee.C23s
namespace Go.Bee.C23s
open Go Go.Bee Go.Proofs Go.Bee.Ty Go.Bee.C23
set_option linter.unusedVariables false
set_option maxRecDepth 20000
attribute [local irreducible] Go.Bee.bwp
theorem cloneThesis_b (l : List Th) (hl : l.length ≤ 1048576) : BRet Tryz.prog 82 [] [.d (.sl 2 (l.map Th.e))] (.own 30 2 (l.map Th.e)) [] := by
  refine BRet.nil0 (by kernel_rfl) (fun h => ?_) ?_
  · rw [h]
    refine bofW Tryz.func82 ?_
    refine bgo ?_
    refine wk_of (Weak.nil_own 30 2 (t := 2) rfl) ?_
    refine bgo ?_
    trivial
  · refine bof Tryz.func82 ?_
    refine bgo ?_
    trivial
end Go.Bee.C23s

/-
A function that ends with a call that writes into a slice of its own. No condition.
-/
namespace Go.Bee
open Go.Sort Go.Shelf Go.Proofs
set_option linter.unusedVariables false

theorem own_block {G : Gh} {w : World} {p : Pos} {e sz : Nat} {l : List PD} {v : Value} (h : OwnAt G w p e sz l v) (hl : l ≠ []) :
    ∃ g o c, v = .slice (some ⟨g, o, none⟩) l.length c ∧ l.length ≤ c ∧ RepRun G.im w g o (flat l) ∧ G.own g = some p ∧ ∃ cs e', w.heap[g]? = some (.cells cs e' (0, 0)) := by
  obtain ⟨hd, hw⟩ := h
  rcases hd.sl_shape with ⟨h1, -⟩ | ⟨g, o, c, rfl, h2, h3, h4⟩ | ⟨h1, -⟩
  · exact absurd h1 hl
  rotate_left
  · exact absurd h1 hl
  refine ⟨g, o, c, rfl, h2, h4, ?_⟩
  rcases hw with ⟨h5, h6⟩ | ⟨vs, h5, h6, h7⟩
  · exact h6 hl g rfl
  · refine ⟨(h7 g rfl).1, ?_⟩
    rcases h5.2 with hn | ⟨g', cap, cur, hv, hb, hgg, rest⟩
    · simp at hn
    · simp only [Value.slice.injEq, Option.some.injEq, Addr.mk.injEq] at hv
      rw [hv.1.1]
      exact ⟨cur, e, hgg⟩

/-- What g makes of a slice of strings, in its place. -/
structure Redo (P : Program) (g : Nat) (f : List (List UInt8) → List (List UInt8)) : Prop where
  fn : isFn P g = true
  nil : f [] = []
  empty : ∀ (w : World) (b : Option Addr) (c : Nat), Calls P g #[.slice b 0 c] w fun e w' => e = .returned (.slice b 0 c) ∧ w'.heap = w.heap ∧ w'.os = w.os ∧ w'.tape = w.tape ∧ w'.output = w.output
  full : ∀ (w : World) (blk off c : Nat) (zs : List (List UInt8)), zs ≠ [] → Holds encStr w blk off zs.toArray → blk < w.heap.size → zs.length ≤ c → zs.length ≤ 140737488355328 →
    Calls P g #[.slice (some ⟨blk, off, none⟩) zs.length c] w fun e w' => ∃ c', e = .returned (.slice (some ⟨blk, off, none⟩) (f zs).length c') ∧ (f zs).length ≤ c' ∧ (∀ (i : Nat) s, (f zs)[i]? = some s → w'.cell? ⟨blk, off + i, none⟩ = some (encStr s)) ∧
      (∀ k, k < w.heap.size → k ≠ blk → w'.heap[k]? = w.heap[k]?) ∧ w.heap.size ≤ w'.heap.size ∧ w'.os = w.os ∧ w'.tape = w.tape ∧ w'.output = w.output ∧ (f zs).length ≤ zs.length ∧ ∀ s ∈ f zs, s ∈ zs

theorem flat_str (zs : List (List UInt8)) : flat (zs.map .str) = zs.map .str := by
  induction zs with
  | nil => rfl
  | cons a l ih => rw [List.map_cons]; unfold flat at ih ⊢; rw [List.flatMap_cons, ih]; rfl

theorem bxOf_nil' (b : BN) : bxOf [] b = none := by cases b <;> simp [bxOf]
/-- All is forgotten but one slot. -/
def only (u : Nat) (x : PV) : St := ⟨fun t => if t = u then x else .junk, fun _ => none⟩

theorem redo_call {P : Program} {F : Fr} {G : Gh} {st : St} {a : Act} {w : World} (h : Rel P F G st a w) (hWr : ∀ g, ¬ F.Wr g) (hZ : ∀ g, ¬ F.Z g) (hS : ∀ g o, F.S0 g o → g < F.w0.heap.size) {g : Nat} {f : List (List UInt8) → List (List UInt8)} (hg : Redo P g f)
    {s v e : Nat} {zs : List (List UInt8)} (hs : st.tm s = .own e 1 (zs.map .str)) (hv : v < F.nt) {o : Oper} {ts : Array TypeId} (ho : o.op = .call ⟨.value (.func g), #[.tmp s], ts⟩) (hod : o.dst = some v)
    {K : Act → World → Prop} {Q : Exit → Act → World → Prop} (hK : ∀ a' w' G', Rel P F G' (only v (.d (.sl 1 ((f zs).map .str)))) a' w' → K a' w') : o.wp P a w K Q := by
  have hrs := h.tm s
  rw [hs] at hrs
  generalize hu : a.tmps.getD s undef = u at hrs
  have hown : OwnAt G w (.t s, 0, 0) e 1 (zs.map .str) u := hrs
  have hrunX : (execOp a.eval o).run P w = .ok (.enter g #[u]) w := by
    have := run_callFunc hg.fn #[u] w
    simp [execOp, ho, resolve, Deferred.ofValue, invoke, Act.eval, hu]
    simpa [Act.eval] using this
  -- what remains to be shown of the end
  have fin : ∀ (r : Value) (w' : World) (im' : Nat → Nat → Prop), RepD im' w' (.sl 1 ((f zs).map .str)) r → (∀ b o, F.S0 b o → im' b o) → (∀ b o, im' b o → F.S0 b o ∨ (F.w0.heap.size ≤ b ∧ b < w'.heap.size)) →
      w.heap.size ≤ w'.heap.size → (∀ k, k < F.w0.heap.size → w'.heap[k]? = w.heap[k]?) → w'.os = w.os → w'.tape = w.tape → w'.output = w.output → K (a.put o.dst r) w' := by
    intro r w' im' hr h1 h2 h3 h4 h5 h6 h7
    have hx := h.sn.ext
    let G' : Gh := { im := im', β := G.β, live := fun _ => False, own := fun _ => none, fz := fun g => g < F.w0.heap.size }
    refine hK _ w' G' ⟨fun t => ?_, ⟨fun b cells hc => (by cases hc), fun b => (by simp [only, G']), fun b b' hl => hl.elim, fun b o hb => ?_, fun b p hp => (by cases hp), fun b hl => hl.elim, fun b hl => hl.elim⟩,
      ⟨⟨h5.trans hx.os, h6.trans hx.tape, h7.trans hx.output, Nat.le_trans hx.size h3, fun b hb hn => (h4 b hb).trans (hx.old b hb hn), fun b o hb => ⟨h1 b o hb, ?_⟩, fun b o hb => ?_⟩, fun b p hp => (by cases hp), fun b hl => hl.elim, h.sn.βa, fun b hb => ⟨hb, hWr b⟩, fun b h1 _ => h1⟩, ?_, ?_, fun g hg => absurd hg (hZ g), h.tab.mono (fun g hg => h4 g (h.sn.fz g hg).1) (fun g hg _ => (h.sn.fz g hg).1)⟩
    · rw [hod]
      by_cases ht : t = v
      · subst ht
        have e1 : ((a.put (some t) r).tmps).getD t undef = r := by
          simp [Act.put, Array.getD_eq_getD_getElem?, h.nt, hv]
        rw [e1]
        show RepT P G' w' (.t t) (if t = t then _ else _) r
        rw [if_pos rfl]
        exact ⟨hr, rfl⟩
      · show RepT P G' w' (.t t) (if t = v then _ else .junk) _
        rw [if_neg ht]
        trivial
    · rcases h2 b o hb with h | h
      · exact Nat.lt_of_lt_of_le (hS b o h) (Nat.le_trans hx.size h3)
      · exact h.2
    · have hb' := hS b o hb
      have : w'.heap[b]? = F.w0.heap[b]? := (h4 b hb').trans (hx.old b hb' (hWr b))
      unfold World.cell?
      simp only [this]
    · rcases h2 b o hb with h | h
      · exact .inl h
      · exact .inr (.inl h.1)
    · rw [hod]; simp [Act.put, h.nt]
    · rw [hod]; exact h.defers
  unfold Oper.wp
  rw [hrunX]
  have hx := h.sn.ext
  by_cases hz : zs = []
  · subst hz
    have hsh : ∃ b c, u = .slice b 0 c ∧ (b = none → c = 0) := by
      rcases hown.1.sl_shape with ⟨-, h2⟩ | ⟨b, o, c, h2, -⟩ | ⟨-, a, c, h2⟩
      · exact ⟨none, 0, h2, fun _ => rfl⟩
      · exact ⟨_, c, h2, fun e => by cases e⟩
      · exact ⟨_, c, h2, fun e => by cases e⟩
    obtain ⟨b, c, rfl, hbc⟩ := hsh
    refine Calls.mono (hg.empty w b c) ?_
    rintro e' w' ⟨rfl, h1, h2, h3, h4⟩
    refine fin _ w' F.S0 ?_ (fun _ _ h => h) (fun _ _ h => .inl h) (by rw [h1]; exact Nat.le_refl _) (fun k _ => by rw [h1]) h2 h3 h4
    rw [hg.nil]
    rcases hown.1.sl_shape with ⟨-, h2⟩ | ⟨b', o', c', h2, h5, h6, h7⟩ | ⟨-, a', c', h2⟩
    · rw [h2]; exact .nil 1
    rotate_left
    · rw [h2]; exact .emp 1 a' c'
    · rw [h2]
      refine .sl 1 [] b' o' c' [] (by simp) (by simp) (by simp) (by simp [flat]) rfl (fun i v hv => by simp at hv) (fun i x v hx hv => by simp at hv)
  · obtain ⟨blk, off, c, rfl, h2, ⟨vs, k1, k2, k3, k4⟩, h4, cs, e', h5⟩ := own_block hown (by simpa using hz)
    rw [flat_str] at k1 k2 k4
    simp only [List.length_map] at h2 k1
    have hblk : blk < w.heap.size := h.hp.ownlt blk _ h4
    have hfresh : F.w0.heap.size ≤ blk := (h.sn.own blk _ h4).resolve_right (hWr blk)
    have hlen : zs.length ≤ 140737488355328 := by simpa using hown.1.len
    have hcell : ∀ (i : Nat) s, zs[i]? = some s → w.cell? ⟨blk, off + i, none⟩ = some (encStr s) ∧ s.length ≤ 140737488355328 := by
      intro i s hi
      have hlt : i < vs.length := by rw [k1]; exact (List.getElem?_eq_some_iff.1 hi).1
      obtain ⟨m1, m2⟩ := k3 i vs[i] (List.getElem?_eq_getElem hlt)
      have m3 := k4 i (.str s) vs[i] (by rw [List.getElem?_map, hi]; rfl) (List.getElem?_eq_getElem hlt)
      rw [m2]
      generalize vs[i] = y at m3
      cases m3 with
      | str _ hb => exact ⟨rfl, hb⟩
    have hH : Holds encStr w blk off zs.toArray := by
      intro j hj
      have hj' : j < zs.length := by simpa using hj
      have e1 : zs.toArray[j]! = zs[j] := by rw [getElem!_pos _ j (by simpa using hj')]; simp
      refine ⟨by rw [e1]; exact (hcell j zs[j] (List.getElem?_eq_getElem hj')).1, by simp [World.frozen?, h5]⟩
    have hc := hg.full w blk off c zs hz hH hblk h2 hlen
    simp only [List.length_map]
    refine Calls.mono hc ?_
    rintro e1 w' ⟨c', rfl, q1, q2, q3, q4, q5, q6, q7, q8, q9⟩
    refine fin _ w' (fun b o => F.S0 b o ∨ (b = blk ∧ off ≤ o ∧ o < off + (f zs).length)) ?_ (fun _ _ h => .inl h) (fun b o hb => hb.imp id (fun ⟨e, _⟩ => e ▸ ⟨hfresh, Nat.lt_of_lt_of_le hblk q4⟩)) q4 (fun k hk => q3 k (Nat.lt_of_lt_of_le hk hx.size) (by omega)) q5 q6 q7
    have e2 : (f zs).length = ((f zs).map PD.str).length := by simp
    rw [e2]
    refine .sl 1 ((f zs).map .str) blk off c' ((f zs).map encStr) (by simp; omega) (by simpa using q1) (fun x hx => by obtain ⟨s, -, rfl⟩ := List.mem_map.1 hx; rfl) (fun x hx => ?_) (by rw [flat_str]; simp) (fun i v hv => ?_) (fun i x v hx hv => ?_)
    · rw [flat_str] at hx; obtain ⟨s, -, rfl⟩ := List.mem_map.1 hx; rfl
    · rw [List.getElem?_map] at hv
      obtain ⟨s, hs', rfl⟩ := Option.map_eq_some_iff.1 hv
      have hlt := (List.getElem?_eq_some_iff.1 hs').1
      exact ⟨.inr ⟨rfl, by omega, by omega⟩, q2 i s hs'⟩
    · rw [flat_str, List.getElem?_map] at hx
      rw [List.getElem?_map] at hv
      obtain ⟨s, hs', rfl⟩ := Option.map_eq_some_iff.1 hv
      rw [hs'] at hx
      cases hx
      have hm := q9 s (List.mem_of_getElem? hs')
      obtain ⟨j, hj⟩ := List.getElem?_of_mem hm
      exact .str s (hcell j s hj).2

/-- A function's text, of which the run is known. -/
theorem body_calls {P : Program} {f : Nat} {fn : Func} {c : Code} (hf : P.funcs[f]? = some fn) (hb : fn.body = some c) {rs : List ResultVar} (hrs : fn.results = rs.toArray)
    {bi bo : List (List PV)} {args : List PV} {r : PV} (ha : args.length ≤ fn.ntmps) {Q : Ex → St → Prop} (hQn : ∀ s, Q .normal s → wk P (retK P rs r bo) s) (hQr : ∀ s, Q .ret s → wk P (retK P rs r bo) s) (hQe : ∀ i s, Q (.exit i) s → False)
    (G : Gh) (w : World) (vs : Array Value) (Wr : Nat → Prop) (hvs : vs.size = args.length) (hargs : ∀ (i : Nat) x u, args[i]? = some x → vs[i]? = some u → RepT P G w (.t i) x u) (hp : Hp P G w (bxOf bi))
    (hown : ∀ g p, G.own g = some p → Wr g) (hbox : ∀ b, G.live b → Wr (G.β b)) (hfz : ∀ g, G.fz g → g < w.heap.size ∧ ¬ Wr g) (hfm : ∀ g, g < w.heap.size → ¬ Wr g → G.fz g) (htb : TabOk P G.fz w)
    (hsem : ∀ F : Fr, F.nt = fn.ntmps → F.S0 = G.im → F.w0 = w → F.Wr = Wr → (∀ g, ¬ F.Z g) → ∀ a, Rel P F G (St.init args bi) a w → c.wp P (lift P F Q) a w) :
    Calls P f vs w fun e w' => ∃ v G', e = .returned v ∧ RepT P G' w' .res r v ∧ Hp P G' w' (bxOf bo) ∧ Ext G.im w G'.im w' Wr ∧ (∀ k, G'.β (.a k) = G.β (.a k)) ∧ (∀ g p, G'.own g = some p → w.heap.size ≤ g ∨ Wr g) := by
  have hrs' : fn.results.toList = rs := by rw [hrs]
  rw [← hrs'] at hQn hQr
  let F : Fr := ⟨fn.ntmps, G.im, w, Wr, fun k => G.β (.a k), fun _ => False⟩
  have hsz : (vs ++ Array.replicate (fn.ntmps - vs.size) undef).size = fn.ntmps := by simp; omega
  have hrel : Rel P F G (St.init args bi) { tmps := vs ++ Array.replicate (fn.ntmps - vs.size) undef, defers := [] } w := by
    refine ⟨fun t => ?_, hp, ⟨Ext.refl _ _ _, fun g p hg => .inr (hown g p hg), fun b hl => .inr (hbox b hl), fun k => rfl, hfz, hfm⟩, hsz, rfl, fun g hg => hg.elim, htb⟩
    by_cases ht : t < args.length
    · have h1 : args[t]? = some args[t] := List.getElem?_eq_getElem ht
      have h2 : vs[t]? = some vs[t] := Array.getElem?_eq_getElem (by omega)
      have h3 : (vs ++ Array.replicate (fn.ntmps - vs.size) undef).getD t undef = vs[t] := by
        rw [Array.getD_eq_getD_getElem?, Array.getElem?_append_left (by omega), h2]; rfl
      have h4 : (St.init args bi).tm t = args[t] := by simp [St.init, h1]
      show RepT P G w (.t t) ((St.init args bi).tm t) ((vs ++ Array.replicate (fn.ntmps - vs.size) undef).getD t undef)
      rw [h3, h4]
      exact hargs t _ _ h1 h2
    · have h4 : (St.init args bi).tm t = .und := by simp [St.init, List.getElem?_eq_none (Nat.le_of_not_lt ht)]
      show RepT P G w (.t t) ((St.init args bi).tm t) ((vs ++ Array.replicate (fn.ntmps - vs.size) undef).getD t undef)
      rw [h4]
      show (vs ++ Array.replicate (fn.ntmps - vs.size) undef).getD t undef = undef
      rw [Array.getD_eq_getD_getElem?, Array.getElem?_append_right (by omega)]
      by_cases h5 : t - vs.size < fn.ntmps - vs.size
      · simp [h5]
      · simp [h5]
  refine calls_of_wp hf hb ?_
  refine wp_mono (hsem F rfl rfl rfl rfl (fun _ h => h) _ hrel) fun e a' w' he => ?_
  have hend : ∀ G1 s, Rel P F G1 s a' w' → wk P (retK P fn.results.toList r bo) s → a'.defers = [] ∧ ∃ v, (results fn a'.tmps).run P w' = .ok v w' ∧
      ∃ v' G', Ending.returned v = .returned v' ∧ RepT P G' w' .res r v' ∧ Hp P G' w' (bxOf bo) ∧ Ext G.im w G'.im w' Wr ∧ (∀ k, G'.β (.a k) = G.β (.a k)) ∧ ∀ g p, G'.own g = some p → w.heap.size ≤ g ∨ Wr g := by
    rintro G0 s0 hR0 ⟨s, hw, hk⟩
    obtain ⟨G1, hR⟩ := hw F G0 a' w' hR0
    obtain ⟨v, G', h1, h2, h3, h4, h5, h6⟩ := ret_sound hR hk
    refine ⟨hR.defers, v, h1, v, G', rfl, h2, h3, by rw [h4]; exact hR.sn.ext, fun k => by rw [h5 k]; exact hR.sn.βa k, fun g p hg => ?_⟩
    obtain ⟨q, hq⟩ := h6 g p hg
    exact hR.sn.own g q hq
  cases e with
  | normal => obtain ⟨G1, s, hR, hk⟩ := he; exact hend G1 s hR (hQn s hk)
  | ret => obtain ⟨G1, s, hR, hk⟩ := he; exact hend G1 s hR (hQr s hk)
  | exit id => obtain ⟨G1, s, hR, hk⟩ := he; exact (hQe id s hk).elim
  | goto l => exact he.elim
  | panic c => exact he.elim
  | outgrown => exact he.elim

/-- An argument that is plain data. -/
def plainArg : PV → Bool
  | .d _ => true
  | .agg l => l.all fun | .d _ => true | _ => false
  | _ => false
theorem BRet.pure {P : Program} {f : Nat} {args : List PV} {r : PV} (hf : isFn P f = true) (hpl : args.all plainArg = true)
    (h : ∀ (G : Gh) (w : World) (vs : Array Value), vs.size = args.length → (∀ (i : Nat) x u, args[i]? = some x → vs[i]? = some u → RepT P G w (.t i) x u) → Hp P G w (bxOf []) → (∀ g, G.own g = none) → (∀ b, ¬ G.live b) → (∀ g, G.fz g ↔ g < w.heap.size) → TabOk P G.fz w →
      Calls P f vs w fun e w' => ∃ v G', e = .returned v ∧ RepT P G' w' .res r v ∧ Hp P G' w' (bxOf []) ∧ Ext G.im w G'.im w' (fun _ => False) ∧ (∀ k, G'.β (.a k) = G.β (.a k)) ∧ (∀ g p, G'.own g = some p → w.heap.size ≤ g ∨ False)) : BRet P f [] args r [] := by
  refine ⟨hf, rfl, fun G w vs Wr hvs hargs hp hown hbox hfz hfm htb => ?_⟩
  let G0 : Gh := { im := G.im, β := G.β, live := fun _ => False, own := fun _ => none, fz := fun g => g < w.heap.size }
  refine Calls.mono (h G0 w vs hvs (fun i x u hx hu => ?_) ⟨fun b cells hc => (by simp [bxOf_nil'] at hc), fun b => (by simp [bxOf_nil', G0]), fun b b' hl => hl.elim, hp.imlt, fun g p hg => (by cases hg), fun b hl => hl.elim, fun b hl => hl.elim⟩ (fun _ => rfl) (fun _ hl => hl) (fun _ => Iff.rfl) (htb.mono (fun _ _ => rfl) (fun g _ h => h))) ?_
  · have hr := hargs i x u hx hu
    have hpx := List.all_eq_true.1 hpl x (List.mem_of_getElem? hx)
    cases x with
    | d y => exact hr
    | agg l =>
      obtain ⟨cs, h1, h2, h3, h4⟩ := hr
      refine ⟨cs, h1, h2, h3, fun j y u hy hu => ?_⟩
      have h5 := h4 j y u hy hu
      have h6 := List.all_eq_true.1 hpx y (List.mem_of_getElem? hy)
      cases y <;> first | exact h5 | simp at h6
    | _ => simp [plainArg] at hpx
  · rintro e w' ⟨v, G', h1, h2, h3, h4, h5, h6⟩
    refine ⟨v, G', h1, h2, h3, ⟨h4.os, h4.tape, h4.output, h4.size, fun b hb _ => h4.old b hb id, h4.keep, fun b o hb => ?_⟩, h5, fun g p hg => (h6 g p hg).imp id False.elim, fun g hg => ?_⟩
    rotate_left
    · have hsame := h4.old g hg.lt id
      refine ⟨.of_heap hsame, by rw [hsame]; exact hg.1, ?_, fun o ho => ?_⟩
      · cases hcase : G'.own g with
        | none => rfl
        | some p =>
          have := hg.lt
          rcases h6 g p hcase with h | h
          · omega
          · exact h.elim
      · have := hg.lt
        rcases h4.new g o ho with h | h | h
        · exact hg.2.2.2.1 o h
        · omega
        · exact h
    rcases h4.new b o hb with h | h | h
    · exact .inl h
    · exact .inr (.inl h)
    · exact h.elim

/-! A text and what comes after it. -/
def plug : Nat → Code → Code → Code
  | n + 1, .seq a b, X => .seq a (plug n b X)
  | _, c, X => .seq c X
/-- The text without its n + 2nd part. -/
def cutN : Nat → Code → Code
  | 0, .seq a b => a
  | n + 1, .seq a b => .seq a (cutN n b)
  | _, c => c
theorem cutN_0 (a b : Code) : cutN 0 (.seq a b) = a := rfl
theorem cutN_s (n : Nat) (a b : Code) : cutN (n + 1) (.seq a b) = .seq a (cutN n b) := rfl
theorem plug_one {P : Program} {H : Nat → List Nat} {F : Fr} (hm : P.follows .mixedOrders = true) {X : Code} {Q : Ex → St → Prop} {Q' : Exit → Act → World → Prop} (hn : ∀ G s a w, Rel P F G s a w → Q .normal s → X.wp P Q' a w)
    (hr : ∀ G s a w, Rel P F G s a w → Q .ret s → Q' .ret a w) (hx : ∀ i s, Q (.exit i) s → False) (c : Code) (G : Gh) (st : St) (a : Act) (w : World) (hd : cOk P H F.nt c = true) (h : bwp P H c Q st) (hR : Rel P F G st a w) : (Code.seq c X).wp P Q' a w := by
  refine wp_seq ?_
  refine wp_mono (bwp_sound hm c _ G st a w hd h hR) fun e a' w' he => ?_
  cases e with
  | normal => obtain ⟨G', s', h', hq⟩ := he; exact hn G' s' a' w' h' hq
  | exit id => obtain ⟨G', s', h', hq⟩ := he; exact (hx id s' hq).elim
  | ret => obtain ⟨G', s', h', hq⟩ := he; exact hr G' s' a' w' h' hq
  | goto l => exact he.elim
  | panic c => exact he.elim
  | outgrown => exact he.elim
theorem plug_sound {P : Program} {H : Nat → List Nat} {F : Fr} (hm : P.follows .mixedOrders = true) {X : Code} {Q : Ex → St → Prop} {Q' : Exit → Act → World → Prop} (hn : ∀ G s a w, Rel P F G s a w → Q .normal s → X.wp P Q' a w)
    (hr : ∀ G s a w, Rel P F G s a w → Q .ret s → Q' .ret a w) (hx : ∀ i s, Q (.exit i) s → False) : ∀ (n : Nat) (c : Code) (G : Gh) (st : St) (a : Act) (w : World), cOk P H F.nt c = true → bwp P H c Q st → Rel P F G st a w → (plug n c X).wp P Q' a w := by
  intro n
  induction n with
  | zero => exact fun c G st a w hd h hR => plug_one hm hn hr hx c G st a w hd h hR
  | succ n ih =>
    intro c G st a w hd h hR
    cases c with
    | seq x y =>
      simp only [cOk, Bool.and_eq_true] at hd
      refine wp_seq ?_
      refine wp_mono (bwp_sound hm x _ G st a w hd.1 h hR) fun e a' w' he => ?_
      cases e with
      | normal => obtain ⟨G', s', h', hq⟩ := he; exact ih y G' s' a' w' hd.2 hq h'
      | exit id => obtain ⟨G', s', h', hq⟩ := he; exact (hx id s' hq).elim
      | ret => obtain ⟨G', s', h', hq⟩ := he; exact hr G' s' a' w' h' hq
      | goto l => exact he.elim
      | panic c => exact he.elim
      | outgrown => exact he.elim
    | _ => exact plug_one hm hn hr hx _ G st a w hd h hR

def tailQ (s e : Nat) (zs : List (List UInt8)) : Ex → St → Prop
  | .normal => fun st => st.tm s = .own e 1 (zs.map .str)
  | _ => fun _ => False
/-- A function that ends with such a call. -/
theorem BRet.tail {P : Program} (H : Nat → List Nat) (hm : P.follows .mixedOrders = true) {f : Nat} {fn : Func} (n : Nat) {A c : Code} (hf : P.funcs[f]? = some fn) {id s u v r g : Nat} {ts : Array TypeId} {ty0 ty1 ty2 : TypeId} {p0 p1 p2 : String} {a0 a1 a2 : Array Edge}
    (hb : fn.body = some c) (hcut : cutN n c = A) (hplug : c = plug n A (.seq (.region id #[⟨some u, .move (.tmp s), ty0, p0, a0, none⟩, ⟨some v, .call ⟨.value (.func g), #[.tmp u], ts⟩, ty1, p1, a1, none⟩, ⟨some r, .assign (.tmp v), ty2, p2, a2, none⟩] false) .ret))
    (hn : (fn.name != "runtime.NumGoroutine") = true) (hd : cOk P H fn.ntmps A = true) (hrs : fn.results = #[.tmp r]) {args : List PV} (ha : args.length ≤ fn.ntmps) (hpl : args.all plainArg = true) (hu : u < fn.ntmps) (hv : v < fn.ntmps) (hr : r < fn.ntmps)
    {f' : List (List UInt8) → List (List UInt8)} (hg : Redo P g f') {e : Nat} {zs : List (List UInt8)} (hA : bwp P H A (tailQ s e zs) (St.init args [])) : BRet P f [] args (.d (.sl 1 ((f' zs).map .str))) [] := by
  refine BRet.pure (by simp [isFn, hf, hb, hn]) hpl fun G w vs hvs hargs hp hown hlive hfz htb => ?_
  refine body_calls hf hb (rs := [.tmp r]) hrs ha (Q := endW P [.tmp r] (.d (.sl 1 ((f' zs).map .str))) []) (fun s hs => hs) (fun s hs => hs) (fun i s hs => hs) G w vs (fun _ => False) hvs hargs hp (fun g p hg => by rw [hown g] at hg; cases hg) (fun b hl => (hlive b hl)) (fun g hg => ⟨(hfz g).1 hg, fun h => h⟩) (fun g h1 _ => (hfz g).2 h1) htb ?_
  intro F hF1 hF2 hF3 hF4 hF5 a hR
  rw [hplug]
  refine plug_sound (Q := tailQ s e zs) hm (fun G1 s1 a1 w1 h1 hq => ?_) (fun G1 s1 a1 w1 h1 hq => hq.elim) (fun i s1 hq => hq) n A G _ a w (by rw [hF1]; exact hd) hA hR
  refine wp_seq ?_
  refine wp_region ?_
  have hlow : ∀ g o, F.S0 g o → g < F.w0.heap.size := by rw [hF2, hF3]; exact hp.imlt
  have hWr : ∀ g, ¬ F.Wr g := by rw [hF4]; exact fun _ h => h
  show wpOps P _ _ [0, 1, 2] a1 w1
  rw [wpOps_cons]
  unfold wpOp
  simp only [List.getElem?_toArray, List.getElem?_cons_zero, Region.wanted, if_true]
  have hq' : s1.tm s = .own e 1 (zs.map .str) := hq
  refine .inl (ev1_sound h1 (fl := ⟨true, true, true⟩) (v := .own e 1 (zs.map .str)) (B' := s1.bx) (fun d' hd' => by cases hd'; rw [hF1]; exact hu) (by simp [ev1, mvd, St.ev, hq', vz]) ?_)
  rintro a2 w2 ⟨G2, h2⟩
  rw [wpOps_cons]
  unfold wpOp
  simp only [List.getElem?_toArray, List.getElem?_cons_succ, List.getElem?_cons_zero, Region.wanted, if_true]
  refine .inl (redo_call h2 hWr hF5 hlow hg (s := u) (v := v) (e := e) (zs := zs) (by simp [St.after, St.upd]) (by rw [hF1]; exact hv) rfl rfl ?_)
  intro a3 w3 G3 h3
  rw [wpOps_cons]
  unfold wpOp
  simp only [List.getElem?_toArray, List.getElem?_cons_succ, List.getElem?_cons_zero, Region.wanted, if_true]
  refine .inl (ev1_sound h3 (fl := ⟨true, true, true⟩) (v := .d (.sl 1 ((f' zs).map .str))) (B' := fun _ => none) (fun d' hd' => by cases hd'; rw [hF1]; exact hr) (by simp [ev1, mvd, St.ev, only, vz]) ?_)
  rintro a4 w4 ⟨G4, h4⟩
  refine wp_ret ⟨G4, _, h4, _, Weak.refl _, ?_⟩
  rw [ret_1]
  refine ⟨?_, ?_, ?_⟩ <;> simp [St.after, St.upd, PV.gives2, PV.gives1, PV.pass1, only]

/-! Steps by hand. -/
theorem raw_call {P : Program} {a : Act} {w : World} {o : Oper} {f s : Nat} {u : Value} {ts : Array TypeId} {K : Act → World → Prop} {Q : Exit → Act → World → Prop} (hfn : isFn P f = true) (ho : o.op = .call ⟨.value (.func f), #[.tmp s], ts⟩) (hu : a.tmps.getD s undef = u)
    (hc : Calls P f #[u] w fun e w' => ∃ r, e = .returned r ∧ K (a.put o.dst r) w') : o.wp P a w K Q := by
  have hrunX : (execOp a.eval o).run P w = .ok (.enter f #[u]) w := by
    have := run_callFunc hfn #[u] w
    simp [execOp, ho, resolve, Deferred.ofValue, invoke, Act.eval, hu]
    simpa [Act.eval] using this
  unfold Oper.wp
  rw [hrunX]
  refine Calls.mono hc ?_
  rintro e w' ⟨r, rfl, h⟩
  exact h
theorem raw_move {P : Program} {a : Act} {w : World} {o : Oper} {x : Operand} {K : Act → World → Prop} {Q : Exit → Act → World → Prop} (ho : o.op = .move x) (h : K (a.put o.dst (a.eval x)) w) : o.wp P a w K Q :=
  wp_value (by simp [execOp, ho]) h
theorem raw_assign {P : Program} {a : Act} {w : World} {o : Oper} {x : Operand} {K : Act → World → Prop} {Q : Exit → Act → World → Prop} (ho : o.op = .assign x) (h : K (a.put o.dst (a.eval x)) w) : o.wp P a w K Q :=
  wp_value (by simp [execOp, ho]) h
theorem raw_at {P : Program} {ops : Array Oper} {i : Nat} {o : Oper} {l : List Nat} {a : Act} {w : World} {Q : Exit → Act → World → Prop} (ho : ops[i]? = some o) (hg : o.guard = none) (h : o.wp P a w (wpOps P ops Q l) Q) : wpOps P ops Q (i :: l) a w := by
  rw [wpOps_cons]
  unfold wpOp
  rw [ho]
  simp only [Region.wanted, hg, if_true]
  exact .inl h
end Go.Bee

/- Sorted, and each once. -/
namespace Go.Proofs
open Go.Shelf
def YtkgjplamdmakpaaGreatDoorSrt.lays190_ren : Go.Shelf.Ren := ⟨fun | 190 => 149 | 125 => 156 | 258 => 155 | 128 => 171 | 129 => 172 | 302 => 162 | 303 => 163 | 304 => 164 | 305 => 165 | 306 => 166 | 307 => 167 | 308 => 168 | 309 => 169 | 310 => 170 | 333 => 175 | 329 => 176 | 330 => 177 | 334 => 178 | 335 => 179 | 336 => 180 | 344 => 181 | n => n, fun | 31 => 47 | 9 => 9 | 3 => 3 | 46 => 159 | 0 => 0 | 51 => 175 | 53 => 103 | 4 => 4 | 183 => 168 | 182 => 167 | 131 => 33 | 5 => 5 | 218 => 183 | 222 => 187 | 228 => 189 | 229 => 190 | n => n, fun | n => n⟩
theorem YtkgjplamdmakpaaGreatDoorSrt.lays190 : Go.Proofs.Lays.n190 Tryz.prog YtkgjplamdmakpaaGreatDoorSrt.lays190_ren := {
  mixed := by kernel_rfl
  f125 := Tryz.func156.trans (congrArg some (by kernel_rfl))
  f128 := Tryz.func171.trans (congrArg some (by kernel_rfl))
  f129 := Tryz.func172.trans (congrArg some (by kernel_rfl))
  f190 := Tryz.func149.trans (congrArg some (by kernel_rfl))
  f258 := Tryz.func155.trans (congrArg some (by kernel_rfl))
  f302 := Tryz.func162.trans (congrArg some (by kernel_rfl))
  f303 := Tryz.func163.trans (congrArg some (by kernel_rfl))
  f304 := Tryz.func164.trans (congrArg some (by kernel_rfl))
  f305 := Tryz.func165.trans (congrArg some (by kernel_rfl))
  f306 := Tryz.func166.trans (congrArg some (by kernel_rfl))
  f307 := Tryz.func167.trans (congrArg some (by kernel_rfl))
  f308 := Tryz.func168.trans (congrArg some (by kernel_rfl))
  f309 := Tryz.func169.trans (congrArg some (by kernel_rfl))
  f310 := Tryz.func170.trans (congrArg some (by kernel_rfl))
  f329 := Tryz.func176.trans (congrArg some (by kernel_rfl))
  f330 := Tryz.func177.trans (congrArg some (by kernel_rfl))
  f333 := Tryz.func175.trans (congrArg some (by kernel_rfl))
  f334 := Tryz.func178.trans (congrArg some (by kernel_rfl))
  f335 := Tryz.func179.trans (congrArg some (by kernel_rfl))
  f336 := Tryz.func180.trans (congrArg some (by kernel_rfl))
  f344 := Tryz.func181.trans (congrArg some (by kernel_rfl))
  t0 := Tryz.underlying0
  a0 := Tryz.isAgg0
  z0 := Tryz.sizeOf0
  v0 := Tryz.zeroValue0
  t3 := Tryz.underlying3
  a3 := Tryz.isAgg3
  z3 := Tryz.sizeOf3
  v3 := Tryz.zeroValue3
  t4 := Tryz.underlying4
  a4 := Tryz.isAgg4
  z4 := Tryz.sizeOf4
  v4 := Tryz.zeroValue4
  t5 := Tryz.underlying5
  a5 := Tryz.isAgg5
  z5 := Tryz.sizeOf5
  v5 := Tryz.zeroValue5
  t9 := Tryz.underlying9
  a9 := Tryz.isAgg9
  z9 := Tryz.sizeOf9
  v9 := Tryz.zeroValue9
  t31 := Tryz.underlying47
  a31 := Tryz.isAgg47
  z31 := Tryz.sizeOf47
  v31 := Tryz.zeroValue47
  t46 := Tryz.underlying159
  a46 := Tryz.isAgg159
  z46 := Tryz.sizeOf159
  v46 := Tryz.zeroValue159
  t51 := Tryz.underlying175
  a51 := Tryz.isAgg175
  z51 := Tryz.sizeOf175
  v51 := Tryz.zeroValue175
  t53 := Tryz.underlying103
  a53 := Tryz.isAgg103
  z53 := Tryz.sizeOf103
  v53 := Tryz.zeroValue103
  t131 := Tryz.underlying33
  a131 := Tryz.isAgg33
  z131 := Tryz.sizeOf33
  v131 := Tryz.zeroValue33
  t182 := Tryz.underlying167
  a182 := Tryz.isAgg167
  z182 := Tryz.sizeOf167
  v182 := Tryz.zeroValue167
  t183 := Tryz.underlying168
  a183 := Tryz.isAgg168
  z183 := Tryz.sizeOf168
  v183 := Tryz.zeroValue168
  t218 := Tryz.underlying183
  a218 := Tryz.isAgg183
  z218 := Tryz.sizeOf183
  v218 := Tryz.zeroValue183
  t222 := Tryz.underlying187
  a222 := Tryz.isAgg187
  z222 := Tryz.sizeOf187
  v222 := Tryz.zeroValue187
  t228 := Tryz.underlying189
  a228 := Tryz.isAgg189
  z228 := Tryz.sizeOf189
  v228 := Tryz.zeroValue189
  t229 := Tryz.underlying190
  a229 := Tryz.isAgg190
  z229 := Tryz.sizeOf190
  v229 := Tryz.zeroValue190 }
def YtkgjplamdmakpaaGreatDoorSrt.lays194_ren : Go.Shelf.Ren := ⟨fun | 194 => 150 | n => n, fun | 31 => 47 | 9 => 9 | 3 => 3 | 4 => 4 | 0 => 0 | n => n, fun | n => n⟩
theorem YtkgjplamdmakpaaGreatDoorSrt.lays194 : Go.Proofs.Lays.n194 Tryz.prog YtkgjplamdmakpaaGreatDoorSrt.lays194_ren := {
  mixed := by kernel_rfl
  f194 := Tryz.func150.trans (congrArg some (by kernel_rfl))
  t0 := Tryz.underlying0
  a0 := Tryz.isAgg0
  z0 := Tryz.sizeOf0
  v0 := Tryz.zeroValue0
  t3 := Tryz.underlying3
  a3 := Tryz.isAgg3
  z3 := Tryz.sizeOf3
  v3 := Tryz.zeroValue3
  t4 := Tryz.underlying4
  a4 := Tryz.isAgg4
  z4 := Tryz.sizeOf4
  v4 := Tryz.zeroValue4
  t9 := Tryz.underlying9
  a9 := Tryz.isAgg9
  z9 := Tryz.sizeOf9
  v9 := Tryz.zeroValue9
  t31 := Tryz.underlying47
  a31 := Tryz.isAgg47
  z31 := Tryz.sizeOf47
  v31 := Tryz.zeroValue47 }
end Go.Proofs
namespace Go.Bee.C23s
open Go Go.Bee Go.Proofs Go.Bee.Ty Go.Bee.C23 Go.Sort
set_option maxRecDepth 100000
set_option linter.unusedVariables false
def srt (zs : List (List UInt8)) : List (List UInt8) := Lib.compact (zs.mergeSort fun x y => decide (x ≤ y))
theorem srt_mem {zs : List (List UInt8)} {s : List UInt8} (h : s ∈ srt zs) : s ∈ zs := by
  unfold srt Lib.compact Lib.compactUpTo at h
  obtain ⟨j, hj, rfl⟩ := List.mem_map.1 h
  have hj' : j < (zs.mergeSort fun x y => decide (x ≤ y)).length := List.mem_range.1 (List.mem_filter.1 hj).1
  rw [getElem!_pos _ j (by simpa using hj')]
  have : (zs.mergeSort fun x y => decide (x ≤ y))[j] ∈ zs.mergeSort fun x y => decide (x ≤ y) := List.getElem_mem _
  simpa using (List.mem_mergeSort.1 this)
theorem srt_len (zs : List (List UInt8)) : (srt zs).length ≤ zs.length := by
  have := Lib.compact_length_le (zs.mergeSort fun x y => decide (x ≤ y))
  rw [List.length_mergeSort] at this
  exact this
theorem other_block {w : World} {n blk off k : Nat} {d : Array (List UInt8)} (h : k ≠ blk) : (putRow encStr (Sort.ahead w n) blk off d).heap[k]? = w.heap[k]? := by
  unfold putRow mapBlock
  simp only [Array.getElem?_modify]
  rw [if_neg (fun e => h e.symm)]
  rfl
theorem put_size {w : World} {n blk off : Nat} {d : Array (List UInt8)} : (putRow encStr (Sort.ahead w n) blk off d).heap.size = w.heap.size := by
  simp [putRow, mapBlock, Sort.ahead]
theorem sorted_run {w : World} {u : Value} {R : Ending → World → Prop} (h : Calls Tryz.prog 149 #[u] w fun e w' => e = .returned (.tuple #[]) ∧ Calls Tryz.prog 150 #[u] w' fun e w'' => ∃ r, e = .returned r ∧ R (.returned r) w'') : Calls Tryz.prog 142 #[u] w R := by
  refine calls_of_wp Tryz.func142 rfl ?_
  refine wp_seq (wp_region ?_)
  refine raw_at rfl rfl (raw_assign rfl ?_)
  refine wp_seq (wp_region ?_)
  refine raw_at rfl rfl (raw_move rfl ?_)
  refine raw_at rfl rfl (raw_call (u := u) (by kernel_rfl) rfl (by simp [Act.put, Act.eval]) (h.mono ?_))
  rintro e w' ⟨rfl, h2⟩
  refine ⟨_, rfl, ?_⟩
  refine wp_seq (wp_region ?_)
  refine raw_at rfl rfl (raw_move rfl ?_)
  refine raw_at rfl rfl (raw_call (u := u) (by kernel_rfl) rfl (by simp [Act.put, Act.eval]) (h2.mono ?_))
  rintro e w'' ⟨r, rfl, h3⟩
  refine ⟨_, rfl, ?_⟩
  refine raw_at rfl rfl (raw_assign rfl ?_)
  refine wp_ret ?_
  refine ⟨rfl, r, ?_, h3⟩
  rw [results_eq]
  simp [show f142.results = #[.tmp 2] from rfl, resSem, Act.put, Act.eval]
theorem sorted_redo : Redo Tryz.prog 142 srt := by
  refine ⟨by kernel_rfl, by simp [srt, Lib.compact, Lib.compactUpTo], fun w b c => ?_, fun w blk off c zs hz hH hblk hlc hlen => ?_⟩
  · refine sorted_run ((Any.slices_Sort_string_none YtkgjplamdmakpaaGreatDoorSrt.lays190 b c w).mono ?_)
    rintro e w' ⟨rfl, rfl⟩
    refine ⟨rfl, (Any.slices_Compact_string_empty YtkgjplamdmakpaaGreatDoorSrt.lays194 b c w').mono ?_⟩
    rintro e w'' ⟨rfl, rfl⟩
    exact ⟨_, rfl, rfl, rfl, rfl, rfl, rfl⟩
  · refine sorted_run ((Any.slices_Sort_string YtkgjplamdmakpaaGreatDoorSrt.lays190 blk off c zs w hH hblk (by omega)).mono ?_)
    rintro e w' ⟨rfl, n, os, rfl⟩
    generalize hS : (zs.mergeSort fun x y => decide (x ≤ y)) = S
    have hSl : S.length = zs.length := by rw [← hS]; simp
    have hblk1 : blk < (putRow encStr (Sort.ahead w n) blk off S.toArray).heap.size := by rw [put_size]; exact hblk
    have hH1 : Holds encStr (grow (putRow encStr (Sort.ahead w n) blk off S.toArray) os) blk off S.toArray := holds_grow _ _ os _ _ _ hblk1 (holds_putRow encStr _ blk off zs.toArray S.toArray (holds_ahead _ _ _ _ _ _ hH) (by simp [hSl]))
    refine ⟨rfl, ?_⟩
    have hc := Any.slices_Compact_string YtkgjplamdmakpaaGreatDoorSrt.lays194 blk off c S _ hH1 (by omega) (by omega)
    rw [hSl] at hc
    refine hc.mono ?_
    rintro e w'' ⟨rfl, q, rfl⟩
    have hsz : (Lib.compact S ++ List.replicate (zs.length - (Lib.compact S).length) []).toArray.size = S.toArray.size := by
      have := Lib.compact_length_le S
      simp; omega
    have hH2 := holds_putRow encStr _ blk off S.toArray _ (holds_ahead encStr _ q blk off _ hH1) hsz
    have hsrt : srt zs = Lib.compact S := by rw [← hS]; rfl
    refine ⟨_, rfl, c, by rw [hsrt], ?_, ?_, ?_, ?_, rfl, rfl, rfl, srt_len zs, fun s hs => srt_mem hs⟩
    · have := srt_len zs; omega
    · intro i s hi
      have hlt := (List.getElem?_eq_some_iff.1 hi).1
      have := (hH2 i (by rw [hsz]; have := srt_len zs; simp [hSl]; omega)).1
      rw [this]
      congr 1
      congr 1
      rw [getElem!_pos _ i (by rw [hsz]; have := srt_len zs; simp [hSl]; omega)]
      rw [hsrt] at hi hlt
      simp only [List.getElem_toArray]
      rw [List.getElem_append_left hlt]
      exact (List.getElem?_eq_some_iff.1 hi).2
    · intro k hk hne
      rw [other_block hne, heap_grow_old _ _ (by rw [put_size]; exact hk), other_block hne]
    · rw [put_size]
      simp only [grow, Array.size_append, put_size]
      omega
end Go.Bee.C23s

/- Chapter 23: the names of a case. -/
namespace Go.Bee.C23s
open Go Go.Bee Go.Proofs Go.Bee.Ty Go.Bee.C23
set_option linter.unusedVariables false
set_option maxRecDepth 20000
attribute [local irreducible] Go.Bee.bwp
def nb (r : Ru) : List (List UInt8) := (r.ps ++ r.es).map Th.n
def allN (c : Cs) : List (List UInt8) := c.fs.map Th.n ++ c.rs.flatMap fun r => nb r ++ [r.c.n]
theorem str_map (l : List (List UInt8)) (s : List UInt8) : l.map PD.str ++ [PD.str s] = (l ++ [s]).map PD.str := by simp
theorem namesBefore_b (r : Ru) (h : RuOk r) : BRet Tryz.prog 125 [] [.agg [.d (.sl 2 (r.ps.map Th.e)), .d (.sl 2 (r.es.map Th.e)), .str r.c.n, .bool r.c.g, .int r.wt]] (.own 9 1 ((nb r).map .str)) [] := by
  obtain ⟨h1, h2⟩ := h
  refine bof Tryz.func125 ?_
  refine bgo ?_
  refine b_call (cloneThesis_b _ h1) rfl rfl rfl rfl ?_
  refine bgo ?_
  rw [← List.map_append]
  generalize hl : r.ps ++ r.es = l
  have hn : nb r = l.map Th.n := by rw [← hl]; rfl
  have hll : l.length ≤ 2097152 := by rw [← hl, List.length_append]; omega
  rw [hn]
  have he : (r.ps.length : Int) + r.es.length = l.length := by rw [← hl]; simp
  clear hn hl
  refine b_loop (fun n st => ∃ k : Nat, n = l.length - k ∧ k ≤ l.length ∧ st.tm 3 = .own 9 1 (((l.take k).map Th.n).map .str) ∧ st.tm 12 = .own 30 2 (l.map Th.e) ∧ st.tm 13 = .int l.length ∧ st.tm 14 = .int k ∧
      ∀ b, b ≠ .t 1 → st.bx b = none) l.length ⟨0, rfl, Nat.zero_le _, rfl, rfl, by simp [tm_put], rfl, fun b hb => by simp [bx_put, bx_strip1, bx_sbx, bx_init, bxOf_nil, hb]⟩ ?_
  rintro n st ⟨k, rfl, hk, t3, t12, t13, t14, hb⟩
  clear he
  have b5 := hb (.t 5) (by simp)
  have ba : ∀ k, st.bx (.a k) = none := fun k => hb _ (by simp)
  by_cases hlt : k < l.length
  · have hx : l[k]? = some l[k] := List.getElem?_eq_getElem hlt
    have hkl : (l.take k).length ≤ 2097152 := by rw [List.length_take]; omega
    refine bgo ?_
    refine ⟨_, _, Weak.drop (.t 5), by omega, k + 1, rfl, hlt, ?_, ?_, ?_, rfl, fun b hne => ?_⟩
    · show PV.own _ _ (_ ++ _) = _
      rw [List.take_succ_eq_append_getElem hlt, List.map_append, List.map_append]; rfl
    · show (st.tm 12).kill _ = _; rw [t12]; rfl
    · show (st.tm 13).kill _ = _; rw [t13]; rfl
    · rw [bx_drop]
      split
      · rfl
      · rename_i h5; simp [bx_put, bx_strip1, bx_sbx, h5, hb b hne]
  · have hk' : k = l.length := by omega
    subst hk'
    refine bgo ?_
    refine wk_rfl ?_
    refine bgo ?_
    rw [List.take_length]
/-- The rules' names. -/
def ruN (r : Ru) : List (List UInt8) := nb r ++ [r.c.n]
theorem allN_eq (c : Cs) : allN c = c.fs.map Th.n ++ c.rs.flatMap ruN := rfl
theorem preN_len (c : Cs) (k : Nat) (hk : k < c.rs.length) : (c.fs.map Th.n ++ (c.rs.take k).flatMap ruN).length + (nb c.rs[k]).length + 1 ≤ (allN c).length := by
  have h1 : c.rs = c.rs.take k ++ c.rs[k] :: c.rs.drop (k + 1) := by rw [← List.drop_eq_getElem_cons hk, List.take_append_drop]
  have h2 : (allN c).length = c.fs.length + ((c.rs.take k ++ c.rs[k] :: c.rs.drop (k + 1)).flatMap ruN).length := by rw [← h1, allN_eq, List.length_append, List.length_map]
  rw [h2, List.flatMap_append, List.flatMap_cons]
  simp only [List.length_append, List.length_map, ruN, List.length_cons, List.length_nil]
  omega
theorem ruN_len : ∀ l : List Ru, l.length ≤ (l.flatMap ruN).length
  | [] => Nat.le_refl _
  | r :: l => by
    have := ruN_len l
    rw [List.flatMap_cons, List.length_append, List.length_cons]
    simp only [ruN, List.length_append, List.length_cons, List.length_nil] at this ⊢
    omega
theorem caseNames_b (c : Cs) (h : ∀ r ∈ c.rs, RuOk r) (hN : (allN c).length ≤ 1048576) : BRet Tryz.prog 119 [] [.agg [.d (.sl 2 (c.fs.map Th.e)), .d (.sl 5 (c.rs.map Ru.e)), .d (.sl 2 (c.ss.map Sd.e))]] (.d (.sl 1 ((srt (allN c)).map .str))) [] := by
  refine BRet.tail (fun _ => []) Ty.mixed 3 Tryz.func119 (s := 3) (e := 9) rfl rfl rfl (by kernel_rfl) (by kernel_rfl) rfl (Nat.le_of_ble_eq_true rfl) rfl (Nat.le_of_ble_eq_true rfl) (Nat.le_of_ble_eq_true rfl) (Nat.le_of_ble_eq_true rfl) sorted_redo ?_
  dsimp only [cutN_0, cutN_s]
  have hf : c.fs.length ≤ 1048576 := by rw [allN_eq, List.length_append, List.length_map] at hN; omega
  refine bgo ?_
  refine b_loop (fun n st => ∃ (k : Nat) (out : List (List UInt8)), n = c.fs.length - k ∧ k ≤ c.fs.length ∧ (c.fs.take k).map Th.n = out ∧ st.tm 3 = .own 9 1 (out.map .str) ∧ st.tm 1 = .ptr (.t 1) 0 ∧ st.tm 10 = .d (.sl 2 (c.fs.map Th.e)) ∧ st.tm 11 = .int c.fs.length ∧ st.tm 12 = .int k ∧
      st.bx (.t 1) = some [.d (.sl 2 (c.fs.map Th.e)), .d (.sl 5 (c.rs.map Ru.e)), .d (.sl 2 (c.ss.map Sd.e))] ∧ ∀ b, b ≠ .t 1 → st.bx b = none) c.fs.length ⟨0, [], rfl, Nat.zero_le _, rfl, rfl, rfl, rfl, rfl, rfl, rfl, fun b hb => by simp [bx_put, bx_strip1, bx_sbx, bx_init, bxOf_nil, hb]⟩ ?_
  rintro n st ⟨k, out, rfl, hk, ho, t3, t1, t10, t11, t12, b1, hb⟩
  have hol : out.length ≤ 1048576 := by rw [← ho, List.length_map, List.length_take]; omega
  have b5 := hb (.t 5) (by simp)
  by_cases hlt : k < c.fs.length
  · have hx : c.fs[k]? = some c.fs[k] := List.getElem?_eq_getElem hlt
    refine bgo ?_
    refine ⟨_, _, Weak.drop (.t 5), by omega, k + 1, out ++ [c.fs[k].n], rfl, hlt, ?_, ?_, ?_, ?_, ?_, rfl, ?_, fun b hne => ?_⟩
    · rw [List.take_succ_eq_append_getElem hlt, List.map_append, ho]; rfl
    · show PV.own _ _ (_ ++ _) = _
      rw [List.map_append]; rfl
    · show (st.tm 1).kill _ = _; rw [t1]; rfl
    · show (st.tm 10).kill _ = _; rw [t10]; rfl
    · show (st.tm 11).kill _ = _; rw [t11]; rfl
    · rw [bx_drop]; simp only [bx_put, bx_strip1, bx_sbx, reduceCtorEq, BN.t.injEq, Nat.reduceEqDiff, if_false, b1]; rfl
    · rw [bx_drop]
      split
      · rfl
      · rename_i h5; simp [bx_put, bx_strip1, bx_sbx, h5, hb b hne]
  · have hk' : k = c.fs.length := by omega
    subst hk'
    rw [List.take_length] at ho
    refine bgo ?_
    refine wk_rfl ?_
    refine bgo ?_
    refine b_loop (fun n st => ∃ (k : Nat) (out : List (List UInt8)), n = c.rs.length - k ∧ k ≤ c.rs.length ∧ c.fs.map Th.n ++ (c.rs.take k).flatMap ruN = out ∧ st.tm 3 = .own 9 1 (out.map .str) ∧ st.tm 1 = .ptr (.t 1) 0 ∧ st.tm 23 = .d (.sl 5 (c.rs.map Ru.e)) ∧ st.tm 24 = .int c.rs.length ∧ st.tm 25 = .int k ∧
      st.bx (.t 1) = some [.d (.sl 2 (c.fs.map Th.e)), .d (.sl 5 (c.rs.map Ru.e)), .d (.sl 2 (c.ss.map Sd.e))] ∧ ∀ b, b ≠ .t 1 → st.bx b = none) c.rs.length ⟨0, out, rfl, Nat.zero_le _, by simpa using ho, t3, t1, rfl, rfl, rfl, b1, hb⟩ ?_
    have hrl : c.rs.length ≤ 1048576 := by have := ruN_len c.rs; rw [allN_eq, List.length_append] at hN; omega
    clear hol b5 hlt hk t12 t11 t10 t3 t1 b1 hb ho st out
    rintro n st ⟨k, out, rfl, hk, ho, t3, t1, t23, t24, t25, b1, hb⟩
    have b7 := hb (.t 7) (by simp)
    by_cases hlt : k < c.rs.length
    · have hx : c.rs[k]? = some c.rs[k] := List.getElem?_eq_getElem hlt
      have hol : out.length + (nb c.rs[k]).length + 1 ≤ 1048576 := by have := preN_len c k hlt; rw [ho] at this; omega
      have hr := h _ (List.getElem_mem hlt)
      refine bgo ?_
      refine b_call (namesBefore_b _ hr) rfl rfl rfl rfl ?_
      refine bgo ?_
      refine ⟨_, _, Weak.drop (.t 7), by omega, k + 1, out ++ ruN c.rs[k], rfl, hlt, ?_, ?_, ?_, ?_, ?_, rfl, ?_, fun b hne => ?_⟩
      · rw [List.take_succ_eq_append_getElem hlt, List.flatMap_append, ← List.append_assoc, ho]; simp
      · show PV.own _ _ (_ ++ _) = _
        simp [ruN]
      · show (st.tm 1).kill _ = _; rw [t1]; rfl
      · show (st.tm 23).kill _ = _; rw [t23]; rfl
      · show (st.tm 24).kill _ = _; rw [t24]; rfl
      · rw [bx_drop]; simp only [bx_put, bx_strip1, bx_sbx, reduceCtorEq, BN.t.injEq, Nat.reduceEqDiff, if_false, b1]; rfl
      · rw [bx_drop]
        split
        · rfl
        · rename_i h5; simp [bx_put, bx_strip1, bx_sbx, h5, hb b hne]
    · have hk' : k = c.rs.length := by omega
      subst hk'
      rw [List.take_length, ← allN_eq] at ho
      subst ho
      refine bgo ?_
      refine wk_rfl ?_
      exact t3
end Go.Bee.C23s

/- Chapter 23: the order of decisions, as the code reckons it. -/
namespace Go.Bee.C23s
open Go Go.Bee Go.Proofs Go.Bee.Ty Go.Bee.C23
set_option linter.unusedVariables false
set_option maxRecDepth 20000
attribute [local irreducible] Go.Bee.bwp
def waits (out : List (List UInt8)) (name : List UInt8) (r : Ru) : Bool := r.c.n == name && (nb r).any fun o => !out.contains o
def ready (c : Cs) (out : List (List UInt8)) (name : List UInt8) : Bool := !out.contains name && !c.rs.any (waits out name)
theorem f47_b (o : List UInt8) (out : List (List UInt8)) : BRet Tryz.prog 126 [] [.str o, .eptr [.sl 1 (out.map .str)]] (.bool (!out.contains o)) [] := by
  refine bof Tryz.func126 ?_
  refine bgo ?_
  refine b_call (containsStr_b _ _) rfl rfl rfl rfl ?_
  refine bgo ?_
  trivial
theorem f44_b (r : Ru) (h : RuOk r) (name : List UInt8) (out : List (List UInt8)) : BRet Tryz.prog 123 [] [.agg [.d (.sl 2 (r.ps.map Th.e)), .d (.sl 2 (r.es.map Th.e)), .str r.c.n, .bool r.c.g, .int r.wt], .eptr [.str name], .eptr [.sl 1 (out.map .str)]] (.bool (waits out name r)) [] := by
  refine bof Tryz.func123 ?_
  cases hn : (r.c.n == name)
  · refine bgo ?_
    simp [waits, hn]
  · refine bgo ?_
    refine b_call (namesBefore_b _ h) rfl rfl rfl rfl ?_
    refine bgo ?_
    refine b_callc2 (containsFuncStr_b (fun _ => True) _ (fun _ _ => trivial) (fun o => !out.contains o)) rfl rfl rfl rfl (by exact Kof_ok rfl (by kernel_rfl) fun o _ => f47_b o out) rfl ?_
    refine bgo ?_
    simp [waits, hn]
theorem f42_b (c : Cs) (h : ∀ r ∈ c.rs, RuOk r) (name : List UInt8) (out : List (List UInt8)) : BRet Tryz.prog 121 [] [.str name, .eptr [.sl 1 (out.map .str)], .eptr [.sl 2 (c.fs.map Th.e), .sl 5 (c.rs.map Ru.e), .sl 2 (c.ss.map Sd.e)]] (.bool (ready c out name)) [] := by
  refine bof Tryz.func121 ?_
  refine bgo ?_
  refine b_call (containsStr_b _ _) rfl rfl rfl rfl ?_
  cases hn : (out.contains name)
  · refine bgo ?_
    refine b_callc2 (containsFuncProofRule_b RuOk _ h (waits out name)) rfl rfl rfl rfl (by exact Kof_ok rfl (by kernel_rfl) fun r hr => f44_b r hr name out) rfl ?_
    refine bgo ?_
    show _ = PV.bool (!out.contains name && !c.rs.any (waits out name))
    rw [hn]; rfl
  · refine bgo ?_
    show _ = PV.bool (!out.contains name && _)
    rw [hn]; rfl
theorem caps2 {fl : AF} {B : Bx} {b b' : BN} {cells cells' : List PV} {ys ys' : List PD} (hf : fl.bt = true ∨ fl.be = true) (h1 : B b = some cells) (h2 : B b' = some cells') (e1 : pdL cells = some ys) (e2 : pdL cells' = some ys') :
    capsOf (vz fl B) [.ptr b 0, .ptr b' 0] = some [.eptr ys, .eptr ys'] := by
  have hv : vz fl B = B := by simp [vz, hf]
  simp [hv, capsOf, capOf, h1, h2, e1, e2]
def goO (c : Cs) (names : List (List UInt8)) : Nat → List (List UInt8) → Option (List (List UInt8))
  | 0, out => some out
  | n + 1, out => match names.find? (ready c out) with
    | none => none
    | some x => goO c names n (out ++ [x])
def order (c : Cs) : Option (List (List UInt8)) := goO c (srt (allN c)) (srt (allN c)).length []
def orderV : Option (List (List UInt8)) → PV
  | none => .tup [.nilS, .bool false]
  | some o => .tup [.own 9 1 (o.map .str), .bool true]
theorem decisionOrder_b (c : Cs) (h : ∀ r ∈ c.rs, RuOk r) (hN : (allN c).length ≤ 1048576) : BRet Tryz.prog 74 [] [.agg [.d (.sl 2 (c.fs.map Th.e)), .d (.sl 5 (c.rs.map Ru.e)), .d (.sl 2 (c.ss.map Sd.e))]] (orderV (order c)) [] := by
  refine bof Tryz.func74 ?_
  refine bgo ?_
  refine b_call (caseNames_b c h hN) rfl rfl rfl rfl ?_
  have hnl : (srt (allN c)).length ≤ 1048576 := Nat.le_trans (srt_len _) hN
  generalize ho : order c = res
  unfold order at ho
  generalize srt (allN c) = names at ho hnl ⊢
  refine bgo ?_
  refine b_loop (fun n st => ∃ out : List (List UInt8), n = names.length - out.length ∧ out.length ≤ names.length ∧ goO c names n out = res ∧ st.tm 4 = .d (.sl 1 (names.map .str)) ∧ st.tm 5 = .ptr (.t 5) 0 ∧ st.tm 1 = .ptr (.t 1) 0 ∧
      st.bx (.t 5) = some [.own 9 1 (out.map .str)] ∧ st.bx (.t 1) = some [.d (.sl 2 (c.fs.map Th.e)), .d (.sl 5 (c.rs.map Ru.e)), .d (.sl 2 (c.ss.map Sd.e))] ∧ ∀ b, b ≠ .t 1 → b ≠ .t 5 → st.bx b = none) names.length
    ⟨[], rfl, Nat.zero_le _, ho, rfl, rfl, rfl, rfl, rfl, fun b h1 h5 => by simp [bx_put, bx_strip1, bx_sbx, bx_init, bxOf_nil, h1, h5]⟩ ?_
  clear ho
  rintro n st ⟨out, hn, hle, hgo, t4, t5, t1, b5, b1, hb⟩
  have ba : ∀ k, st.bx (.a k) = none := fun k => hb _ (by simp) (by simp)
  by_cases hlt : out.length < names.length
  · obtain ⟨m, rfl⟩ : ∃ m, n = m + 1 := ⟨names.length - out.length - 1, by omega⟩
    have hm : names.length - (out.length + 1) = m := by omega
    clear hn
    refine bgo ?_
    refine b_callc2 (indexFuncStr_b (fun _ => True) names (fun _ _ => trivial) (ready c out)) rfl rfl rfl rfl (by exact Kof_ok (caps2 (.inr rfl) b5 b1 rfl rfl) (by kernel_rfl) fun name _ => f42_b c h name out) rfl ?_
    rcases idx_find (ready c out) names 0 with ⟨e1, e2⟩ | ⟨i, e1, e2, e3⟩
    · rw [e1]
      have hres : res = none := by rw [← hgo]; simp [goO, e2]
      subst hres
      clear hgo e1 e2
      refine bgo ?_
      rfl
    · rw [e1, Nat.zero_add]
      have hx : names[i]? = some names[i] := List.getElem?_eq_getElem e2
      have hf : names.find? (ready c out) = some names[i] := by rw [← e3]; exact hx
      have hgo2 : goO c names m (out ++ [names[i]]) = res := by rw [← hgo]; simp [goO, hf]
      clear hgo e1 e3 hf
      refine bgo ?_
      refine ⟨rfl, ?_⟩
      refine ⟨rfl, m, _, Weak.refl _, by omega, out ++ [names[i]], by simp; omega, by simp; omega, hgo2, t4, ?_, t1, ?_, ?_, fun b h1 h5 => ?_⟩
      · show ((st.tm 5).bT).bT = _
        rw [t5]; rfl
      · show some [PV.own _ _ (_ ++ _)] = _
        rw [List.map_append]; rfl
      · simpa [bx_put, bx_strip1, bx_sbx] using b1
      · simpa [bx_put, bx_strip1, bx_sbx, h5] using hb b h1 h5
  · have hz : n = 0 := by omega
    subst hz
    have he : out.length = names.length := by omega
    clear hn
    have hres : res = some out := by rw [← hgo]; rfl
    subst hres
    clear hgo
    refine bgo ?_
    refine wk_rfl ?_
    refine bgo ?_
    rfl
end Go.Bee.C23s

/- Names. -/
namespace Go.Bee.C23s
open Go Go.Bee Go.Proofs Go.Bee.Ty Go.Bee.C23
set_option linter.unusedVariables false
set_option maxRecDepth 20000
attribute [local irreducible] Go.Bee.bwp
def inB (n a b : Int) : Bool := decide (n ≥ a) && decide (n ≤ b)
theorem within_b (n a b : Int) : BRet Tryz.prog 93 [] [.int n, .int a, .int b] (.bool (inB n a b)) [] := by
  refine bof Tryz.func93 ?_
  refine bgo ?_
  refine ⟨fun h => ?_, fun h => ?_⟩ <;> simp [inB] <;> omega
theorem l1In_b (n a b : Int) : BRet Tryz.prog 108 [] [.int n, .int a, .int b] (.bool (inB n a b)) [] := by
  refine bof Tryz.func108 ?_
  refine bgo ?_
  refine ⟨fun h => ?_, fun h => ?_⟩ <;> simp [inB] <;> omega
def sg (b : UInt8) : Bool := inB b.toNat 97 122 || inB b.toNat 48 57
theorem l5Sign_b (b : UInt8) : BRet Tryz.prog 110 [] [.d (.int .u8 b.toNat)] (.bool (sg b)) [] := by
  refine bof Tryz.func110 ?_
  refine bgo ?_
  by_cases h1 : (b.toNat : Int) ≥ 97 <;> by_cases h2 : (b.toNat : Int) ≤ 122 <;> by_cases h3 : (b.toNat : Int) ≥ 48 <;> by_cases h4 : (b.toNat : Int) ≤ 57 <;> simp_all [sg, inB] <;> omega
def words : List (List UInt8) := [[116, 114, 117, 101], [102, 114, 111, 109], [110, 111, 116], [97, 110, 100], [111, 114], [98, 111, 116, 104], [101, 105, 116, 104, 101, 114], [105, 116], [105, 110]]
def headOk : List UInt8 → Bool
  | [] => false
  | a :: _ => inB a.toNat 97 122
def vName (s : List UInt8) : Bool := inB s.length 1 8 && headOk s && s.all sg && !words.contains s
theorem l5Name_b (s : List UInt8) : BRet Tryz.prog 63 [] [.str s] (.bool (vName s)) [] := by
  refine BRet.slen 0 (by kernel_rfl) rfl fun hl => ?_
  refine bof Tryz.func63 ?_
  refine bgo ?_
  refine b_call (l1In_b _ _ _) rfl rfl rfl rfl ?_
  cases hw : inB s.length 1 8
  · refine bgo ?_
    simp [vName, hw]
  · obtain ⟨a, tl, rfl⟩ : ∃ a tl, s = a :: tl := by
      cases s with
      | nil => simp [inB] at hw
      | cons a tl => exact ⟨a, tl, rfl⟩
    have h0 : (a :: tl)[0]? = some a := rfl
    refine bgo ?_
    refine ⟨fun h1 => ⟨fun h2 => ?_, fun h2 => ?_⟩, fun h1 => ?_⟩
    · have : headOk (a :: tl) = false := by simp [headOk, inB]; omega
      simp [vName, this]
    · have hh : headOk (a :: tl) = true := by simp [headOk, inB]; omega
      clear h0 h1 h2
      generalize a :: tl = s at *
      refine b_loop (fun n st => ∃ k : Nat, n = s.length - k ∧ k ≤ s.length ∧ st.tm 0 = .str s ∧ st.tm 3 = .int k ∧ (s.take k).all sg = true ∧ ∀ b, st.bx b = none) s.length ⟨0, rfl, Nat.zero_le _, rfl, rfl, rfl, bxOf_nil⟩ ?_
      rintro n st ⟨k, rfl, hk, t0, t3, hj, hb⟩
      by_cases hlt : k < s.length
      · have hx : s[k]? = some s[k] := List.getElem?_eq_getElem hlt
        refine bgo ?_
        refine b_call (l5Sign_b s[k]) rfl rfl rfl rfl ?_
        cases hs : sg s[k]
        · refine bgo ?_
          have : s.all sg = false := by
            cases h : s.all sg
            · rfl
            · rw [List.all_eq_true.1 h _ (List.getElem_mem hlt)] at hs; cases hs
          simp [vName, this]
        · refine bgo ?_
          refine ⟨_, _, Weak.refl _, by omega, k + 1, rfl, hlt, t0, rfl, ?_, hb⟩
          rw [List.take_succ_eq_append_getElem hlt, List.all_append, hj]; simp [hs]
      · have hk' : k = s.length := by omega
        subst hk'
        rw [List.take_length] at hj
        have hv : vName s = !words.contains s := by simp [vName, hw, hh, hj]
        rw [hv]
        clear hv hj hw hh
        refine bgo ?_
        refine wk_rfl ?_
        refine bgo ?_
        refine ⟨fun _ => rfl, fun h1 => ⟨fun _ => rfl, fun h2 => ⟨fun _ => rfl, fun h3 => ⟨fun _ => rfl, fun h4 => ⟨fun _ => rfl, fun h5 => ⟨fun _ => rfl, fun h6 => ⟨fun _ => rfl, fun h7 => ⟨fun _ => rfl, fun h8 => ⟨fun _ => rfl, fun h9 => ?_⟩⟩⟩⟩⟩⟩⟩⟩⟩
        simp [words, h1, h2, h3, h4, h5, h6, h7, h8, h9]
    · have : headOk (a :: tl) = false := by simp [headOk, inB]; omega
      simp [vName, this]
theorem l5Has_b (l : List (List UInt8)) (s : List UInt8) : BRet Tryz.prog 115 [] [.d (.sl 1 (l.map .str)), .str s] (.bool (l.contains s)) [] := by
  refine BRet.len 0 (by kernel_rfl) rfl fun hl => ?_
  refine bof Tryz.func115 ?_
  simp only [List.length_map] at hl
  generalize hr : l.contains s = r
  refine bgo ?_
  refine b_loop (fun n st => ∃ k : Nat, n = l.length - k ∧ k ≤ l.length ∧ st.tm 0 = .d (.sl 1 (l.map .str)) ∧ st.tm 1 = .str s ∧ st.tm 5 = .int k ∧ (l.drop k).contains s = r ∧ ∀ b, st.bx b = none) l.length ⟨0, rfl, Nat.zero_le _, rfl, rfl, rfl, hr, bxOf_nil⟩ ?_
  clear hr
  rintro n st ⟨k, rfl, hk, t0, t1, t5, hj, hb⟩
  by_cases hlt : k < l.length
  · have hx : l[k]? = some l[k] := List.getElem?_eq_getElem hlt
    rw [List.drop_eq_getElem_cons hlt, List.contains_cons] at hj
    refine bgo ?_
    refine ⟨fun h => ?_, fun h => ⟨_, _, Weak.refl _, by omega, k + 1, rfl, hlt, t0, t1, rfl, ?_, hb⟩⟩
    · rw [← hj, h]; simp
    · rw [← hj]
      have : (s == l[k]) = false := by simpa using fun e => h e.symm
      rw [this]; rfl
  · have hk' : k = l.length := by omega
    subst hk'
    refine bgo ?_
    refine wk_rfl ?_
    refine bgo ?_
    rw [List.drop_length] at hj
    rw [← hj]; rfl
end Go.Bee.C23s

/- Chapter 23: the model's words. -/
namespace Go.Bee.C23s
open Go Go.Bee Go.Proofs Go.Bee.Ty Go.Bee.C23
set_option linter.unusedVariables false
set_option maxRecDepth 20000
attribute [local irreducible] Go.Bee.bwp vName
def thOk (l : List Th) (m : Int) : Bool := (l.all fun t => vName t.n) && decide ((l.length : Int) ≤ m)
theorem all_bad {α : Type} {p : α → Bool} {l : List α} {k : Nat} (hk : k < l.length) (h : p l[k] = false) : l.all p = false := by
  cases e : l.all p
  · rfl
  · rw [List.all_eq_true.1 e _ (List.getElem_mem hk)] at h; cases h
theorem all_step {α : Type} {p : α → Bool} {l : List α} {k : Nat} (hk : k < l.length) (hj : (l.take k).all p = true) (h : p l[k] = true) : (l.take (k + 1)).all p = true := by
  rw [List.take_succ_eq_append_getElem hk, List.all_append, hj]; simp [h]
theorem l23Theses_b (l : List Th) (m : Int) : BRet Tryz.prog 107 [] [.d (.sl 2 (l.map Th.e)), .int m] (.bool (thOk l m)) [] := by
  refine BRet.len 0 (by kernel_rfl) rfl fun hl => ?_
  refine bof Tryz.func107 ?_
  simp only [List.length_map] at hl
  refine bgo ?_
  refine b_loop (fun n st => ∃ k : Nat, n = l.length - k ∧ k ≤ l.length ∧ st.tm 0 = .d (.sl 2 (l.map Th.e)) ∧ st.tm 1 = .int m ∧ st.tm 5 = .int k ∧ ((l.take k).all fun t => vName t.n) = true ∧ ∀ b, st.bx b = none) l.length ⟨0, rfl, Nat.zero_le _, rfl, rfl, rfl, rfl, bxOf_nil⟩ ?_
  rintro n st ⟨k, rfl, hk, t0, t1, t5, hj, hb⟩
  by_cases hlt : k < l.length
  · have hx : l[k]? = some l[k] := List.getElem?_eq_getElem hlt
    refine bgo ?_
    refine b_call (l5Name_b l[k].n) rfl rfl rfl rfl ?_
    cases hs : vName l[k].n
    · refine bgo ?_
      simp only [thOk, all_bad (p := fun t => vName t.n) hlt hs]; rfl
    · refine bgo ?_
      refine ⟨_, _, Weak.refl _, by omega, k + 1, rfl, hlt, t0, t1, rfl, ?_, hb⟩
      exact all_step (p := fun t => vName t.n) hlt hj hs
  · have hk' : k = l.length := by omega
    subst hk'
    rw [List.take_length] at hj
    refine bgo ?_
    refine wk_rfl ?_
    refine bgo ?_
    simp only [thOk, hj]; rfl
/-- How many items at the head are less than s. -/
def pos (s : List UInt8) : List (List UInt8) → Nat
  | [] => 0
  | a :: l => if Op.bytesLess a s = true then pos s l + 1 else 0
def put (l : List (List UInt8)) (s : List UInt8) : List (List UInt8) := if l[pos s l]? = some s then l else l.take (pos s l) ++ s :: l.drop (pos s l)
theorem pos_step {s : List UInt8} {l : List (List UInt8)} {k : Nat} (hk : k < l.length) : pos s (l.drop k) = if Op.bytesLess l[k] s = true then pos s (l.drop (k + 1)) + 1 else 0 := by
  rw [List.drop_eq_getElem_cons hk]; rfl
theorem l5Put_b (l : List (List UInt8)) (s : List UInt8) (hl : l.length ≤ 1048576) : BRet Tryz.prog 141 [] [.d (.sl 1 (l.map .str)), .str s] (.d (.sl 1 ((put l s).map .str))) [] := by
  refine bofW Tryz.func141 ?_
  refine bgo ?_
  refine b_loop (fun n st => ∃ k : Nat, n = l.length - k ∧ k ≤ l.length ∧ st.tm 0 = .d (.sl 1 (l.map .str)) ∧ st.tm 1 = .str s ∧ st.tm 5 = .int k ∧ pos s (l.drop k) + k = pos s l ∧ ∀ b, st.bx b = none) l.length ⟨0, rfl, Nat.zero_le _, rfl, rfl, rfl, rfl, bxOf_nil⟩ ?_
  rintro n st ⟨k, rfl, hk, t0, t1, t5, hj, hb⟩
  by_cases hlt : k < l.length
  · have hx : l[k]? = some l[k] := List.getElem?_eq_getElem hlt
    cases hs : Op.bytesLess l[k] s
    · have hp : pos s l = k := by rw [← hj, pos_step hlt, if_neg (by simp [hs])]; omega
      clear hj
      refine bgo ?_
      refine wk_rfl ?_
      have hput : put l s = if l[k] = s then l else l.take k ++ s :: l.drop k := by simp [put, hp, hx]
      clear hp
      refine bgo ?_
      refine ⟨fun h => ?_, fun h => ?_⟩
      · refine wk_rfl ?_
        refine bgo ?_
        trivial
      · refine wk_of (Weak.own_d (t := 4) rfl) ?_
        refine bgo ?_
        simp
    · refine bgo ?_
      refine ⟨_, _, Weak.refl _, by omega, k + 1, rfl, hlt, t0, t1, rfl, ?_, hb⟩
      rw [pos_step hlt, if_pos hs] at hj
      omega
  · have hk' : k = l.length := by omega
    subst hk'
    have hp : pos s l = l.length := by rw [← hj, List.drop_length]; simp [pos]
    have hput : put l s = l ++ [s] := by simp [put, hp]
    rw [hput]
    clear hj hp hput
    refine bgo ?_
    refine wk_rfl ?_
    refine bgo ?_
    refine wk_of (Weak.own_d (t := 4) rfl) ?_
    refine bgo ?_
    simp [List.take_of_length_le, List.drop_eq_nil_of_le]
end Go.Bee.C23s
