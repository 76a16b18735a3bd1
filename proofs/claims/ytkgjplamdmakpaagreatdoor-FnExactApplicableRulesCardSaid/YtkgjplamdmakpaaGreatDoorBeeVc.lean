/- Chapter 23: a valid case, as the code reckons it. -/
import Derived.Test.YtkgjplamdmakpaaGreatDoorBeeVn
namespace Go.Bee.C23s
open Go Go.Bee Go.Proofs Go.Bee.Ty Go.Bee.C23
set_option linter.unusedVariables false
set_option maxRecDepth 20000
attribute [local irreducible] Go.Bee.bwp vName
def rall (p : Nat → Bool) (n : Nat) : Bool := (List.range n).all p
theorem rall_step {p : Nat → Bool} {k : Nat} (h : rall p k = true) (hk : p k = true) : rall p (k + 1) = true := by
  unfold rall at *; rw [List.range_succ, List.all_append, h]; simp [hk]
theorem rall_bad {p : Nat → Bool} {n k : Nat} (hk : k < n) (h : p k = false) : rall p n = false := by
  cases e : rall p n
  · rfl
  · rw [List.all_eq_true.1 e k (List.mem_range.2 hk)] at h; cases h
def nd1 (l : List Th) (i : Nat) : Bool := !((l.take i).any fun o => o.n == (l.getD i ⟨[], false⟩).n)
def nd (l : List Th) : Bool := rall (nd1 l) l.length
theorem nd1_at {l : List Th} {i : Nat} (h : i < l.length) : nd1 l i = !((l.take i).any fun o => o.n == l[i].n) := by
  unfold nd1; rw [List.getD_eq_getElem?_getD, List.getElem?_eq_getElem h]; rfl
def ruOk (r : Ru) : Bool := thOk r.ps 4 && thOk r.es 4 && vName r.c.n && inB r.wt 1 1000
def sdOk1 (l : List Sd) (i : Nat) : Bool := vName (l.getD i ⟨[], 0⟩).n && inB (l.getD i ⟨[], 0⟩).k 1 4 && (decide (i = 0) || Op.bytesLess (l.getD (i - 1) ⟨[], 0⟩).n (l.getD i ⟨[], 0⟩).n)
def sdOk (l : List Sd) : Bool := rall (sdOk1 l) l.length
theorem sdOk1_at {l : List Sd} {i : Nat} (h : i < l.length) : sdOk1 l i = (vName l[i].n && inB l[i].k 1 4 && (decide (i = 0) || Op.bytesLess l[i - 1].n l[i].n)) := by
  have h2 : i - 1 < l.length := by omega
  unfold sdOk1; rw [List.getD_eq_getElem?_getD, List.getElem?_eq_getElem h, List.getD_eq_getElem?_getD, List.getElem?_eq_getElem h2]; rfl
def head (c : Cs) : Bool := thOk c.fs 12 && decide ((c.rs.length : Int) ≤ 10) && decide ((c.ss.length : Int) ≤ 12) && nd c.fs && c.rs.all ruOk && sdOk c.ss
theorem less_lt : ∀ a b : List UInt8, (Op.bytesLess a b || a == b) = !(Op.bytesLess b a)
  | [], [] => rfl
  | [], _ :: _ => rfl
  | _ :: _, [] => rfl
  | a :: x, b :: y => by
    have ih := less_lt x y
    simp only [Op.bytesLess]
    by_cases h1 : a < b
    · have h2 : ¬ b < a := fun h => by have := UInt8.lt_iff_toNat_lt.1 h; have := UInt8.lt_iff_toNat_lt.1 h1; omega
      have h3 : ¬ b = a := fun e => by subst e; exact h2 h1
      simp [h1, h2, h3]
    · by_cases h2 : a = b
      · subst h2
        simp [h1]
        exact ih
      · have h3 : b < a := by
          rw [UInt8.lt_iff_toNat_lt] at h1 ⊢
          have : a.toNat ≠ b.toNat := fun e => h2 (UInt8.toNat_inj.1 e)
          omega
        simp [h1, h2, h3]
theorem thOk_all {l : List Th} {m : Int} (h : thOk l m = true) : (l.length : Int) ≤ m ∧ ∀ t ∈ l, vName t.n = true := by
  simp only [thOk, Bool.and_eq_true, List.all_eq_true, decide_eq_true_eq] at h
  exact ⟨h.2, h.1⟩
theorem f36_b (t : Th) : BRet Tryz.prog 135 [] [.agg [.str t.n, .bool t.g]] (.bool (!vName t.n)) [] := by
  refine bof Tryz.func135 ?_
  refine bgo ?_
  refine b_call (IsValidName_b _) rfl rfl rfl rfl ?_
  refine bgo ?_
  trivial
theorem areTheses_b (l : List Th) (m : Int) : BRet Tryz.prog 90 [] [.d (.sl 2 (l.map Th.e)), .int m] (.bool (thOk l m)) [] := by
  refine BRet.len 0 (by kernel_rfl) rfl fun hl => ?_
  refine bof Tryz.func90 ?_
  simp only [List.length_map] at hl
  have ht : thOk l m = (!(l.any fun t => !vName t.n) && decide ((l.length : Int) ≤ m)) := by
    unfold thOk; rw [List.any_eq_not_all_not]; simp
  by_cases h : (l.length : Int) ≤ m
  · have hr : thOk l m = !(l.any fun t => !vName t.n) := by rw [ht]; simp [h]
    rw [hr]
    clear ht hr
    refine bgo ?_
    refine b_callc2 (containsFuncThesis_b (fun _ => True) l (fun _ _ => trivial) (fun t => !vName t.n)) rfl rfl rfl rfl (by exact Kof_ok rfl (by kernel_rfl) fun t _ => f36_b t) rfl ?_
    refine bgo ?_
    trivial
  · have hr : thOk l m = false := by rw [ht]; simp [h]
    rw [hr]
    clear ht hr
    refine bgo ?_
    trivial
theorem f18_b (o t : Th) : BRet Tryz.prog 92 [] [.agg [.str o.n, .bool o.g], .eptr [.str t.n, .bool t.g]] (.bool (o.n == t.n)) [] := by
  refine bof Tryz.func92 ?_
  refine bgo ?_
  trivial
theorem allN_len (c : Cs) (h : head c = true) : (∀ r ∈ c.rs, RuOk r) ∧ (allN c).length ≤ 1048576 := by
  simp only [head, Bool.and_eq_true, decide_eq_true_eq, List.all_eq_true] at h
  obtain ⟨⟨⟨⟨⟨h1, h2⟩, h3⟩, h4⟩, h5⟩, h6⟩ := h
  have hr : ∀ r ∈ c.rs, r.ps.length ≤ 4 ∧ r.es.length ≤ 4 := fun r hr => by
    have := h5 r hr
    simp only [ruOk, Bool.and_eq_true] at this
    have a := (thOk_all this.1.1.1).1
    have b := (thOk_all this.1.1.2).1
    omega
  refine ⟨fun r hr' => ⟨by have := hr r hr'; omega, by have := hr r hr'; omega⟩, ?_⟩
  have hf := (thOk_all h1).1
  have key : ∀ l : List Ru, (∀ r ∈ l, r.ps.length ≤ 4 ∧ r.es.length ≤ 4) → (l.flatMap ruN).length ≤ 9 * l.length := by
    intro l
    induction l with
    | nil => simp
    | cons r l ih =>
      intro h
      have a := h r (List.mem_cons_self ..)
      have b := ih fun x hx => h x (List.mem_cons_of_mem _ hx)
      rw [List.flatMap_cons, List.length_append, List.length_cons]
      simp only [ruN, nb, List.length_append, List.length_map, List.length_cons, List.length_nil]
      omega
  have := key c.rs hr
  rw [allN_eq, List.length_append, List.length_map]
  omega
def okI (c : Cs) : Bool := (order c).isSome
theorem caps1 {fl : AF} {B : Bx} {b : BN} {cells : List PV} {ys : List PD} (hf : fl.bt = true ∨ fl.be = true) (h1 : B b = some cells) (e1 : pdL cells = some ys) :
    capsOf (vz fl B) [.ptr b 0] = some [.eptr ys] := by
  have hv : vz fl B = B := by simp [vz, hf]
  simp [hv, capsOf, capOf, h1, e1]
theorem IsValidCase_b (c : Cs) : BRet Tryz.prog 40 [] [.agg [.d (.sl 2 (c.fs.map Th.e)), .d (.sl 5 (c.rs.map Ru.e)), .d (.sl 2 (c.ss.map Sd.e))]] (.bool (head c && okI c)) [] := by
  refine BRet.alen 0 0 (by kernel_rfl) rfl rfl fun hl0 => ?_
  refine BRet.alen 0 1 (by kernel_rfl) rfl rfl fun hl1 => ?_
  refine BRet.alen 0 2 (by kernel_rfl) rfl rfl fun hl2 => ?_
  refine bof Tryz.func40 ?_
  simp only [List.length_map] at hl0 hl1 hl2
  have hbad : head c = false → (head c && okI c) = false := fun h => by rw [h]; rfl
  have hgood : head c = true → (head c && okI c) = okI c := fun h => by rw [h]; rfl
  generalize (head c && okI c) = res at *
  refine bgo ?_
  refine b_call (areTheses_b _ _) rfl rfl rfl rfl ?_
  cases h1 : thOk c.fs 12
  · rw [hbad (by simp [head, h1])]
    clear hgood hbad
    refine bgo ?_
    trivial
  by_cases h2 : (c.rs.length : Int) > 10
  · rw [hbad (by simp only [head, decide_eq_false (show ¬ (c.rs.length : Int) ≤ 10 by omega), Bool.and_false, Bool.false_and])]
    clear hgood hbad
    refine bgo ?_
    trivial
  by_cases h3 : (c.ss.length : Int) > 12
  · rw [hbad (by simp only [head, decide_eq_false (show ¬ (c.ss.length : Int) ≤ 12 by omega), Bool.and_false, Bool.false_and])]
    clear hgood hbad
    refine bgo ?_
    trivial
  have hh : head c = (nd c.fs && c.rs.all ruOk && sdOk c.ss) := by
    unfold head; rw [h1, decide_eq_true (show (c.rs.length : Int) ≤ 10 by omega), decide_eq_true (show (c.ss.length : Int) ≤ 12 by omega)]; simp only [Bool.true_and]
  have hal := allN_len c
  rw [hh] at hbad hgood hal
  clear hh h1
  refine bgo ?_
  refine b_lp (ι := Nat) (fun k => [(1, .ptr (.t 1) 0), (28, .d (.sl 2 (c.fs.map Th.e))), (29, .int c.fs.length), (30, .int k)]) (fun _ => [(.t 1, [.d (.sl 2 (c.fs.map Th.e)), .d (.sl 5 (c.rs.map Ru.e)), .d (.sl 2 (c.ss.map Sd.e))])])
    (fun k => k ≤ c.fs.length ∧ rall (nd1 c.fs) k = true) (fun k => c.fs.length - k) 0 hs ⟨Nat.zero_le _, rfl⟩ ?_
  rintro k ⟨hk, hj⟩ I nx
  by_cases hlt : k < c.fs.length
  · have hx : c.fs[k]? = some c.fs[k] := List.getElem?_eq_getElem hlt
    have hp := nd1_at hlt
    have hstep := rall_step (p := nd1 c.fs) (k := k) hj
    have hb2 : nd1 c.fs k = false → res = false := fun h => hbad (by unfold nd; rw [rall_bad hlt h]; rfl)
    clear hgood hal hj hbad
    refine bgo ?_
    rw [← List.map_take]
    refine b_callc2 (containsFuncThesis_b (fun _ => True) (c.fs.take k) (fun _ _ => trivial) (fun o => o.n == c.fs[k].n)) rfl rfl rfl rfl (by exact Kof_ok (caps1 (.inr rfl) rfl rfl) (by kernel_rfl) fun o _ => f18_b o c.fs[k]) rfl ?_
    cases hd : (c.fs.take k).any fun o => o.n == c.fs[k].n
    · have := hstep (by rw [hp, hd]; rfl)
      clear hstep hb2 hp hd
      refine bgo ?_
      exact nx.go (k + 1) ⟨hlt, this⟩ (by omega) hs
    · have := hb2 (by rw [hp, hd]; rfl)
      clear hstep hb2 hp hd
      subst this
      refine bgo ?_
      trivial
  have hk' : k = c.fs.length := by omega
  subst hk'
  have hnd : nd c.fs = true := hj
  rw [hnd, Bool.true_and] at hbad hgood hal
  clear hj hnd hlt hk nx
  refine bgo ?_
  refine wk_rfl ?_
  refine bgo ?_
  refine b_lp (ι := Nat) (fun k => [(1, .ptr (.t 1) 0), (43, .d (.sl 5 (c.rs.map Ru.e))), (44, .int c.rs.length), (45, .int k)]) (fun _ => [(.t 1, [.d (.sl 2 (c.fs.map Th.e)), .d (.sl 5 (c.rs.map Ru.e)), .d (.sl 2 (c.ss.map Sd.e))])])
    (fun k => k ≤ c.rs.length ∧ (c.rs.take k).all ruOk = true) (fun k => c.rs.length - k) 0 hs ⟨Nat.zero_le _, rfl⟩ ?_
  clear I
  rintro k ⟨hk, hj⟩ I nx
  by_cases hlt : k < c.rs.length
  · have hx : c.rs[k]? = some c.rs[k] := List.getElem?_eq_getElem hlt
    have hstep := all_step (p := ruOk) hlt hj
    have hb2 : ruOk c.rs[k] = false → res = false := fun h => hbad (by rw [all_bad hlt h]; rfl)
    clear hgood hal hj hbad
    refine bgo ?_
    refine b_call (areTheses_b _ _) rfl rfl rfl rfl ?_
    cases q1 : thOk c.rs[k].ps 4
    · rw [hb2 (by simp [ruOk, q1])]
      clear hstep hb2
      refine bgo ?_
      trivial
    refine bgo ?_
    refine b_call (areTheses_b _ _) rfl rfl rfl rfl ?_
    cases q2 : thOk c.rs[k].es 4
    · rw [hb2 (by simp [ruOk, q2])]
      clear hstep hb2
      refine bgo ?_
      trivial
    refine bgo ?_
    refine b_call (IsValidName_b _) rfl rfl rfl rfl ?_
    cases q3 : vName c.rs[k].c.n
    · rw [hb2 (by simp [ruOk, q3])]
      clear hstep hb2
      refine bgo ?_
      trivial
    refine bgo ?_
    refine b_call (within_b _ _ _) rfl rfl rfl rfl ?_
    cases q4 : inB c.rs[k].wt 1 1000
    · rw [hb2 (by simp [ruOk, q4])]
      clear hstep hb2
      refine bgo ?_
      trivial
    have := hstep (by simp [ruOk, q1, q2, q3, q4])
    clear hstep hb2
    refine bgo ?_
    exact nx.go (k + 1) ⟨hlt, this⟩ (by omega) hs
  have hk' : k = c.rs.length := by omega
  subst hk'
  rw [List.take_length] at hj
  rw [hj, Bool.true_and] at hbad hgood hal
  clear hj hlt hk nx
  refine bgo ?_
  refine wk_rfl ?_
  refine bgo ?_
  refine b_lp (ι := Nat) (fun k => [(1, .ptr (.t 1) 0), (74, .d (.sl 2 (c.ss.map Sd.e))), (75, .int c.ss.length), (76, .int k)]) (fun _ => [(.t 1, [.d (.sl 2 (c.fs.map Th.e)), .d (.sl 5 (c.rs.map Ru.e)), .d (.sl 2 (c.ss.map Sd.e))])])
    (fun k => k ≤ c.ss.length ∧ rall (sdOk1 c.ss) k = true) (fun k => c.ss.length - k) 0 hs ⟨Nat.zero_le _, rfl⟩ ?_
  clear I
  rintro k ⟨hk, hj⟩ I nx
  by_cases hlt : k < c.ss.length
  · have hx : c.ss[k]? = some c.ss[k] := List.getElem?_eq_getElem hlt
    have hp := sdOk1_at hlt
    have hstep := rall_step (p := sdOk1 c.ss) (k := k) hj
    have hb2 : sdOk1 c.ss k = false → res = false := fun h => hbad (by unfold sdOk; rw [rall_bad hlt h])
    clear hgood hal hj hbad
    refine bgo ?_
    refine b_call (IsValidName_b _) rfl rfl rfl rfl ?_
    cases q1 : vName c.ss[k].n
    · rw [hb2 (by rw [hp, q1]; rfl)]
      clear hstep hb2 hp
      refine bgo ?_
      trivial
    refine bgo ?_
    refine b_call (within_b _ _ _) rfl rfl rfl rfl ?_
    cases q2 : inB c.ss[k].k 1 4
    · rw [hb2 (by rw [hp, q1, q2]; rfl)]
      clear hstep hb2 hp
      refine bgo ?_
      trivial
    rw [q1, q2] at hp
    cases k with
    | zero =>
      have := hstep (by rw [hp]; rfl)
      clear hstep hb2 hp
      refine bgo ?_
      exact nx.go 1 ⟨hlt, this⟩ (by omega) hs
    | succ j =>
      have hp2 : sdOk1 c.ss (j + 1) = Op.bytesLess c.ss[j].n c.ss[j + 1].n := by rw [hp]; simp
      have hy : c.ss[j]? = some c.ss[j] := List.getElem?_eq_getElem (by omega)
      have e0 : ((j + 1 : Nat) : Int) > 0 := by omega
      have e1 : ((j + 1 : Nat) : Int) - 1 = j := by omega
      have e2 := less_lt c.ss[j + 1].n c.ss[j].n
      cases q3 : Op.bytesLess c.ss[j].n c.ss[j + 1].n
      · rw [q3] at e2
        rw [hb2 (by rw [hp2, q3])]
        clear hstep hb2 hp hp2 q3
        refine bgo ?_
        trivial
      · rw [q3] at e2
        have := hstep (by rw [hp2, q3])
        clear hstep hb2 hp hp2 q3
        refine bgo ?_
        exact nx.go (j + 2) ⟨hlt, this⟩ (by omega) hs
  have hk' : k = c.ss.length := by omega
  subst hk'
  have hsd : sdOk c.ss = true := hj
  have hres := hgood hsd
  obtain ⟨hr, hN⟩ := hal hsd
  subst hres
  clear hj hsd hlt hk nx hbad hgood hal
  refine bgo ?_
  refine wk_rfl ?_
  refine bgo ?_
  have hg : (orderV (order c)).gives = true := by cases order c <;> rfl
  refine b_call (decisionOrder_b c hr hN) rfl rfl rfl hg ?_
  unfold okI
  cases order c with
  | none =>
    unfold orderV
    refine bgo ?_
    trivial
  | some o =>
    unfold orderV
    refine bgo ?_
    trivial
end Go.Bee.C23s
