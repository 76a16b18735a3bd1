/-
The logic and the walks, part 9. No condition.
-/
import Derived.Test.YtbhmeompdbokdaaGreatDoorBeeG0FEPEh
import Derived.Test.YtbhmeompdbokdaaGreatDoorProg
import Derived.Shelf.Strconv.ErrVarAll
import Derived.Shelf.Strings.Replace
import Derived.Below
import Derived.Lib.IndexAny
namespace Go.Proofs
open Go.Shelf
def YtbhmeompdbokdaaGreatDoorStr.lays172_ren : Go.Shelf.Ren := ⟨fun | 172 => 94 | 244 => 136 | 245 => 137 | 247 => 169 | 279 => 170 | 280 => 171 | 281 => 172 | 282 => 173 | 287 => 187 | 316 => 188 | 171 => 144 | 205 => 189 | 321 => 194 | 322 => 195 | 243 => 176 | 246 => 191 | 283 => 196 | 284 => 197 | 285 => 198 | 286 => 199 | 129 => 201 | 317 => 200 | 318 => 202 | 319 => 203 | 320 => 204 | 337 => 205 | 338 => 206 | n => n, fun | 9 => 9 | 3 => 3 | 75 => 95 | 76 => 96 | 4 => 4 | 5 => 5 | 167 => 150 | 37 => 37 | 0 => 0 | 85 => 151 | 2 => 2 | 168 => 153 | 53 => 82 | 175 => 159 | 46 => 145 | 210 => 162 | 127 => 126 | 145 => 176 | 143 => 174 | 21 => 21 | 171 => 177 | 173 => 180 | 212 => 183 | 51 => 170 | 20 => 20 | 213 => 184 | 232 => 187 | 233 => 188 | 80 => 61 | n => n, fun | 15 => 1 | 16 => 2 | 17 => 5 | 18 => 6 | 19 => 7 | n => n⟩
theorem YtbhmeompdbokdaaGreatDoorStr.lays172 : Go.Proofs.LaysC.n172 Tryz.prog YtbhmeompdbokdaaGreatDoorStr.lays172_ren := {
  mixed := by kernel_rfl
  f129 := Tryz.func201.trans (congrArg some (by kernel_rfl))
  f171 := Tryz.func144.trans (congrArg some (by kernel_rfl))
  f172 := Tryz.func94.trans (congrArg some (by kernel_rfl))
  f205 := Tryz.func189.trans (congrArg some (by kernel_rfl))
  f243 := Tryz.func176.trans (congrArg some (by kernel_rfl))
  f244 := Tryz.func136.trans (congrArg some (by kernel_rfl))
  f245 := Tryz.func137.trans (congrArg some (by kernel_rfl))
  f246 := Tryz.func191.trans (congrArg some (by kernel_rfl))
  f247 := Tryz.func169.trans (congrArg some (by kernel_rfl))
  f279 := Tryz.func170.trans (congrArg some (by kernel_rfl))
  f280 := Tryz.func171.trans (congrArg some (by kernel_rfl))
  f281 := Tryz.func172.trans (congrArg some (by kernel_rfl))
  f282 := Tryz.func173.trans (congrArg some (by kernel_rfl))
  f283 := Tryz.func196.trans (congrArg some (by kernel_rfl))
  f284 := Tryz.func197.trans (congrArg some (by kernel_rfl))
  f285 := Tryz.func198.trans (congrArg some (by kernel_rfl))
  f286 := Tryz.func199.trans (congrArg some (by kernel_rfl))
  f287 := Tryz.func187.trans (congrArg some (by kernel_rfl))
  f316 := Tryz.func188.trans (congrArg some (by kernel_rfl))
  f317 := Tryz.func200.trans (congrArg some (by kernel_rfl))
  f318 := Tryz.func202.trans (congrArg some (by kernel_rfl))
  f319 := Tryz.func203.trans (congrArg some (by kernel_rfl))
  f320 := Tryz.func204.trans (congrArg some (by kernel_rfl))
  f321 := Tryz.func194.trans (congrArg some (by kernel_rfl))
  f322 := Tryz.func195.trans (congrArg some (by kernel_rfl))
  f337 := Tryz.func205.trans (congrArg some (by kernel_rfl))
  f338 := Tryz.func206.trans (congrArg some (by kernel_rfl))
  t0 := Tryz.underlying0
  a0 := Tryz.isAgg0
  z0 := Tryz.sizeOf0
  v0 := Tryz.zeroValue0
  t2 := Tryz.underlying2
  a2 := Tryz.isAgg2
  z2 := Tryz.sizeOf2
  v2 := Tryz.zeroValue2
  t3 := Tryz.underlying3
  a3 := Tryz.isAgg3
  z3 := Tryz.sizeOf3
  v3 := Tryz.zeroValue3
  t4 := Tryz.underlying4
  a4 := Tryz.isAgg4
  z4 := Tryz.sizeOf4
  v4 := Tryz.zeroValue4
  t5 := Tryz.underlying5
  a5 := Tryz.isAgg5
  z5 := Tryz.sizeOf5
  v5 := Tryz.zeroValue5
  t9 := Tryz.underlying9
  a9 := Tryz.isAgg9
  z9 := Tryz.sizeOf9
  v9 := Tryz.zeroValue9
  t20 := Tryz.underlying20
  a20 := Tryz.isAgg20
  z20 := Tryz.sizeOf20
  v20 := Tryz.zeroValue20
  t21 := Tryz.underlying21
  a21 := Tryz.isAgg21
  z21 := Tryz.sizeOf21
  v21 := Tryz.zeroValue21
  t37 := Tryz.underlying37
  a37 := Tryz.isAgg37
  z37 := Tryz.sizeOf37
  v37 := Tryz.zeroValue37
  t46 := Tryz.underlying145
  a46 := Tryz.isAgg145
  z46 := Tryz.sizeOf145
  v46 := Tryz.zeroValue145
  t51 := Tryz.underlying170
  a51 := Tryz.isAgg170
  z51 := Tryz.sizeOf170
  v51 := Tryz.zeroValue170
  t53 := Tryz.underlying82
  a53 := Tryz.isAgg82
  z53 := Tryz.sizeOf82
  v53 := Tryz.zeroValue82
  t75 := Tryz.underlying95
  a75 := Tryz.isAgg95
  z75 := Tryz.sizeOf95
  v75 := Tryz.zeroValue95
  t76 := Tryz.underlying96
  a76 := Tryz.isAgg96
  z76 := Tryz.sizeOf96
  v76 := Tryz.zeroValue96
  t85 := Tryz.underlying151
  a85 := Tryz.isAgg151
  z85 := Tryz.sizeOf151
  v85 := Tryz.zeroValue151
  t127 := Tryz.underlying126
  a127 := Tryz.isAgg126
  z127 := Tryz.sizeOf126
  v127 := Tryz.zeroValue126
  t143 := Tryz.underlying174
  a143 := Tryz.isAgg174
  z143 := Tryz.sizeOf174
  v143 := Tryz.zeroValue174
  t145 := Tryz.underlying176
  a145 := Tryz.isAgg176
  z145 := Tryz.sizeOf176
  v145 := Tryz.zeroValue176
  t167 := Tryz.underlying150
  a167 := Tryz.isAgg150
  z167 := Tryz.sizeOf150
  v167 := Tryz.zeroValue150
  t168 := Tryz.underlying153
  a168 := Tryz.isAgg153
  z168 := Tryz.sizeOf153
  v168 := Tryz.zeroValue153
  t171 := Tryz.underlying177
  a171 := Tryz.isAgg177
  z171 := Tryz.sizeOf177
  v171 := Tryz.zeroValue177
  t173 := Tryz.underlying180
  a173 := Tryz.isAgg180
  z173 := Tryz.sizeOf180
  v173 := Tryz.zeroValue180
  t175 := Tryz.underlying159
  a175 := Tryz.isAgg159
  z175 := Tryz.sizeOf159
  v175 := Tryz.zeroValue159
  t210 := Tryz.underlying162
  a210 := Tryz.isAgg162
  z210 := Tryz.sizeOf162
  v210 := Tryz.zeroValue162
  t212 := Tryz.underlying183
  a212 := Tryz.isAgg183
  z212 := Tryz.sizeOf183
  v212 := Tryz.zeroValue183
  t213 := Tryz.underlying184
  a213 := Tryz.isAgg184
  z213 := Tryz.sizeOf184
  t232 := Tryz.underlying187
  a232 := Tryz.isAgg187
  z232 := Tryz.sizeOf187
  v232 := Tryz.zeroValue187
  t233 := Tryz.underlying188
  a233 := Tryz.isAgg188
  z233 := Tryz.sizeOf188
  v233 := Tryz.zeroValue188
  g15 := by kernel_rfl
  g16 := by kernel_rfl
  g17 := by kernel_rfl
  g18 := by kernel_rfl
  g19 := by kernel_rfl
  t80 := Tryz.underlying61
  a80 := Tryz.isAgg61
  z80 := Tryz.sizeOf61
  v80 := Tryz.zeroValue61
  i0 := by kernel_rfl
  i2 := by kernel_rfl
  i3 := by kernel_rfl
  i4 := by kernel_rfl
  i5 := by kernel_rfl
  i9 := by kernel_rfl
  i20 := by kernel_rfl
  i21 := by kernel_rfl
  i37 := by kernel_rfl
  i46 := by kernel_rfl
  i51 := by kernel_rfl
  i53 := by kernel_rfl
  i75 := by kernel_rfl
  i76 := by kernel_rfl
  i80 := by kernel_rfl
  i85 := by kernel_rfl
  i127 := by kernel_rfl
  i143 := by kernel_rfl
  i145 := by kernel_rfl
  i167 := by kernel_rfl
  i168 := by kernel_rfl
  i171 := by kernel_rfl
  i173 := by kernel_rfl
  i175 := by kernel_rfl
  i210 := by kernel_rfl
  i212 := by kernel_rfl
  i232 := by kernel_rfl
  i233 := by kernel_rfl
  m15 := by kernel_rfl
  m16 := by kernel_rfl
  m17 := by kernel_rfl
  m18 := by kernel_rfl
  m19 := by kernel_rfl
  c0 := by kernel_rfl
  c2 := by kernel_rfl
  c3 := by kernel_rfl
  c4 := by kernel_rfl
  c5 := by kernel_rfl
  c9 := by kernel_rfl
  c20 := by kernel_rfl
  c21 := by kernel_rfl
  c37 := by kernel_rfl
  c46 := by kernel_rfl
  c51 := by kernel_rfl
  c53 := by kernel_rfl
  c75 := by kernel_rfl
  c76 := by kernel_rfl
  c80 := by kernel_rfl
  c85 := by kernel_rfl
  c127 := by kernel_rfl
  c143 := by kernel_rfl
  c145 := by kernel_rfl
  c167 := by kernel_rfl
  c168 := by kernel_rfl
  c171 := by kernel_rfl
  c173 := by kernel_rfl
  c175 := by kernel_rfl
  c210 := by kernel_rfl
  c212 := by kernel_rfl
  c213 := by kernel_rfl
  c232 := by kernel_rfl
  c233 := by kernel_rfl }
def YtbhmeompdbokdaaGreatDoorStr.lays154_ren : Go.Shelf.Ren := ⟨fun | 154 => 99 | 138 => 134 | 165 => 142 | 143 => 135 | 166 => 74 | 197 => 143 | 169 => 75 | 195 => 166 | 218 => 167 | 240 => 128 | 241 => 174 | 219 => 168 | 260 => 175 | 276 => 164 | 277 => 190 | 217 => 185 | 225 => 180 | 224 => 179 | 267 => 186 | 266 => 192 | 314 => 193 | n => n, fun | 9 => 9 | 3 => 3 | 4 => 4 | 72 => 93 | 0 => 0 | 76 => 96 | 105 => 134 | 21 => 21 | 5 => 5 | 70 => 91 | 20 => 20 | 37 => 37 | 75 => 95 | 127 => 126 | 164 => 147 | 46 => 145 | 119 => 165 | 139 => 168 | 138 => 167 | 146 => 171 | 51 => 170 | 80 => 61 | n => n, fun | 1 => 0 | 3 => 3 | 4 => 4 | n => n⟩
theorem YtbhmeompdbokdaaGreatDoorStr.lays154 : Go.Proofs.Lays.n154 Tryz.prog YtbhmeompdbokdaaGreatDoorStr.lays154_ren := {
  mixed := by kernel_rfl
  f138 := Tryz.func134.trans (congrArg some (by kernel_rfl))
  f143 := Tryz.func135.trans (congrArg some (by kernel_rfl))
  f154 := Tryz.func99.trans (congrArg some (by kernel_rfl))
  f165 := Tryz.func142.trans (congrArg some (by kernel_rfl))
  f166 := Tryz.func74.trans (congrArg some (by kernel_rfl))
  f169 := Tryz.func75.trans (congrArg some (by kernel_rfl))
  f195 := Tryz.func166.trans (congrArg some (by kernel_rfl))
  f197 := Tryz.func143.trans (congrArg some (by kernel_rfl))
  f217 := Tryz.func185.trans (congrArg some (by kernel_rfl))
  f218 := Tryz.func167.trans (congrArg some (by kernel_rfl))
  f219 := Tryz.func168.trans (congrArg some (by kernel_rfl))
  f224 := Tryz.func179.trans (congrArg some (by kernel_rfl))
  f225 := Tryz.func180.trans (congrArg some (by kernel_rfl))
  f240 := Tryz.func128.trans (congrArg some (by kernel_rfl))
  f241 := Tryz.func174.trans (congrArg some (by kernel_rfl))
  f260 := Tryz.func175.trans (congrArg some (by kernel_rfl))
  f266 := Tryz.func192.trans (congrArg some (by kernel_rfl))
  f267 := Tryz.func186.trans (congrArg some (by kernel_rfl))
  f276 := Tryz.func164.trans (congrArg some (by kernel_rfl))
  f277 := Tryz.func190.trans (congrArg some (by kernel_rfl))
  f314 := Tryz.func193.trans (congrArg some (by kernel_rfl))
  t0 := Tryz.underlying0
  a0 := Tryz.isAgg0
  z0 := Tryz.sizeOf0
  v0 := Tryz.zeroValue0
  t3 := Tryz.underlying3
  a3 := Tryz.isAgg3
  z3 := Tryz.sizeOf3
  v3 := Tryz.zeroValue3
  t4 := Tryz.underlying4
  a4 := Tryz.isAgg4
  z4 := Tryz.sizeOf4
  v4 := Tryz.zeroValue4
  t5 := Tryz.underlying5
  a5 := Tryz.isAgg5
  z5 := Tryz.sizeOf5
  v5 := Tryz.zeroValue5
  t9 := Tryz.underlying9
  a9 := Tryz.isAgg9
  z9 := Tryz.sizeOf9
  v9 := Tryz.zeroValue9
  t20 := Tryz.underlying20
  a20 := Tryz.isAgg20
  z20 := Tryz.sizeOf20
  v20 := Tryz.zeroValue20
  t21 := Tryz.underlying21
  a21 := Tryz.isAgg21
  z21 := Tryz.sizeOf21
  v21 := Tryz.zeroValue21
  t37 := Tryz.underlying37
  a37 := Tryz.isAgg37
  z37 := Tryz.sizeOf37
  v37 := Tryz.zeroValue37
  t46 := Tryz.underlying145
  a46 := Tryz.isAgg145
  z46 := Tryz.sizeOf145
  v46 := Tryz.zeroValue145
  t51 := Tryz.underlying170
  a51 := Tryz.isAgg170
  z51 := Tryz.sizeOf170
  v51 := Tryz.zeroValue170
  t70 := Tryz.underlying91
  a70 := Tryz.isAgg91
  z70 := Tryz.sizeOf91
  v70 := Tryz.zeroValue91
  t72 := Tryz.underlying93
  a72 := Tryz.isAgg93
  z72 := Tryz.sizeOf93
  v72 := Tryz.zeroValue93
  t75 := Tryz.underlying95
  a75 := Tryz.isAgg95
  z75 := Tryz.sizeOf95
  v75 := Tryz.zeroValue95
  t76 := Tryz.underlying96
  a76 := Tryz.isAgg96
  z76 := Tryz.sizeOf96
  v76 := Tryz.zeroValue96
  t105 := Tryz.underlying134
  a105 := Tryz.isAgg134
  z105 := Tryz.sizeOf134
  v105 := Tryz.zeroValue134
  t119 := Tryz.underlying165
  a119 := Tryz.isAgg165
  z119 := Tryz.sizeOf165
  t127 := Tryz.underlying126
  a127 := Tryz.isAgg126
  z127 := Tryz.sizeOf126
  v127 := Tryz.zeroValue126
  t138 := Tryz.underlying167
  a138 := Tryz.isAgg167
  z138 := Tryz.sizeOf167
  v138 := Tryz.zeroValue167
  t139 := Tryz.underlying168
  a139 := Tryz.isAgg168
  z139 := Tryz.sizeOf168
  v139 := Tryz.zeroValue168
  t146 := Tryz.underlying171
  a146 := Tryz.isAgg171
  z146 := Tryz.sizeOf171
  v146 := Tryz.zeroValue171
  t164 := Tryz.underlying147
  a164 := Tryz.isAgg147
  z164 := Tryz.sizeOf147
  v164 := Tryz.zeroValue147
  g1 := by kernel_rfl
  g3 := by kernel_rfl
  g4 := by kernel_rfl }
theorem YtbhmeompdbokdaaGreatDoorStr.extra154 : Builder.Extra Tryz.prog YtbhmeompdbokdaaGreatDoorStr.lays154_ren where
  sizeBuilder := by kernel_rfl
  liesBuilder := by kernel_rfl
  t5 := YtbhmeompdbokdaaGreatDoorStr.lays154.t5
  a5 := YtbhmeompdbokdaaGreatDoorStr.lays154.a5
  z5 := YtbhmeompdbokdaaGreatDoorStr.lays154.z5
  v5 := YtbhmeompdbokdaaGreatDoorStr.lays154.v5
  infoByte := by kernel_rfl
  cellsByte := by kernel_rfl
  sizeByte := by kernel_rfl
  neB5 := by decide
end Go.Proofs
namespace Go.Bee.C24r
open Go.RowKit (Below)
open Go Go.Bee Go.Proofs Go.Bee.Ty Go.Bee.C23 Go.Bee.C23s Go.Bee.Da Go.Bee.C24 Go.Bee.C24c Go.Bee.C24d
set_option linter.unusedVariables false
set_option maxRecDepth 20000
attribute [local irreducible] Go.Bee.bwp
theorem BRet.below {P : Program} {f : Nat} {args : List PV} {r : PV} (hf : isFn P f = true) (hpl : args.all plainArg = true)
    (h : ∀ (G : Gh) (w : World) (vs : Array Value), vs.size = args.length → (∀ (i : Nat) x u, args[i]? = some x → vs[i]? = some u → RepT P G w (.t i) x u) → TabOk P G.fz w →
      Calls P f vs w fun e w' => ∃ v, e = .returned v ∧ (∀ G' w2, RepT P G' w2 .res r v) ∧ Below w.heap.size w w') : BRet P f [] args r [] := by
  refine BRet.pure hf hpl fun G w vs hvs hargs hp ho hl hz htb => ?_
  refine (h G w vs hvs hargs htb).mono ?_
  rintro e w' ⟨v, rfl, hv, hb⟩
  refine ⟨v, G, rfl, hv G w', ⟨fun b cells hc => (by simp [bxOf_nil'] at hc), hp.live, hp.inj, fun g o hg => Nat.lt_of_lt_of_le (hp.imlt g o hg) hb.size, fun g p hg => (by rw [ho g] at hg; cases hg), hp.boxim, hp.boxown⟩,
    ⟨hb.os, hb.tape, hb.output, hb.size, fun b hb' _ => hb.block b hb', fun b o hbo => ⟨hbo, cell_of_heap (hb.block b (hp.imlt b o hbo)) o⟩, fun b o hb => .inl hb⟩, fun _ => rfl, fun g p hg => (by rw [ho g] at hg; cases hg)⟩
def atV (l : Tx) : Int := match Lib.atoiAll l with
  | .ok v => v
  | .range => Lib.atoiSat l
  | _ => 0
def atE (l : Tx) : Bool := match Lib.atoiAll l with
  | .ok _ => true
  | _ => false
theorem er_rep {P : Program} (n : Int) {b : Bool} {v : Value} (h : isEr b v) (G : Gh) (w : World) : RepT P G w .res (.tup [.int n, .er b]) (.tuple #[.int .i64 n, v]) := by
  refine ⟨_, rfl, rfl, fun i x u hx hu => ?_⟩
  match i, hx, hu with
  | 0, hx, hu => simp at hx hu; subst hx; subst hu; exact ⟨.int _ _, rfl⟩
  | 1, hx, hu => simp at hx hu; subst hx; subst hu; exact h
  | n + 2, hx, hu => simp at hx
theorem atoi_b (s : Tx) : BRet Tryz.prog 94 [] [.str s] (.tup [.int (atV s), .er (atE s)]) [] := by
  refine BRet.slen 0 (by kernel_rfl) rfl fun hl => ?_
  refine BRet.below (by kernel_rfl) rfl fun G w vs hvs hargs htb => ?_
  have hv0 := hargs 0 _ (vs[0]'(by simp at hvs; omega)) rfl (Array.getElem?_eq_getElem _)
  have hv : vs = #[.string ⟨s.toArray⟩] := by
    apply Array.ext (by simpa using hvs)
    intro i hi hj
    obtain rfl : i = 0 := by simp at hj; omega
    obtain ⟨h, -⟩ := hv0; generalize vs[0] = v at h; cases h; rfl
  rw [hv]
  have es : (⟨s.toArray⟩ : ByteArray).data.toList = s := by simp
  have ez : (⟨s.toArray⟩ : ByteArray).size = s.length := by simp [ByteArray.size]
  obtain ⟨t1, p1, hs1⟩ := (htb ("strconv.ErrSyntax", .err) (by simp [tabs]) 1 (by kernel_rfl)).2
  obtain ⟨t2, p2, hs2⟩ := (htb ("strconv.ErrRange", .err) (by simp [tabs]) 2 (by kernel_rfl)).2
  unfold atV atE
  cases h : Lib.atoiAll s
  · rename_i v
    refine (Any.strconv_Atoi_ok { YtbhmeompdbokdaaGreatDoorStr.lays172 with } ⟨s.toArray⟩ (by rw [ez]; omega) v (by rw [es]; exact h) w).mono ?_
    rintro e w' ⟨rfl, hw⟩
    refine ⟨_, rfl, er_rep v (.inl ⟨rfl, rfl⟩), ?_⟩
    rcases hw with rfl | ⟨t, rfl⟩
    · exact Below.refl _ _
    · exact Lib.bytesWorld_below w _ _
  · refine (Any.strconv_Atoi_syntax_var YtbhmeompdbokdaaGreatDoorStr.lays172 ⟨s.toArray⟩ (by rw [ez]; omega) (by rw [es]; exact h) t1 p1 w hs1).mono ?_
    rintro e w' ⟨n, rfl, -, -, hw⟩
    exact ⟨_, rfl, er_rep 0 (.inr ⟨rfl, _, _, rfl⟩), hw⟩
  · refine (Any.strconv_Atoi_range_var YtbhmeompdbokdaaGreatDoorStr.lays172 ⟨s.toArray⟩ (by rw [ez]; omega) (by rw [es]; exact h) t2 p2 w hs2).mono ?_
    rintro e w' ⟨n, rfl, -, -, hw⟩
    rw [es]
    exact ⟨_, rfl, er_rep _ (.inr ⟨rfl, _, _, rfl⟩), hw⟩
theorem at_short {l : Tx} (hl : l.length ≤ 18) : atV l = (Lib.atoi l).getD 0 ∧ atE l = (Lib.atoi l).isSome := by
  unfold atV atE
  rw [Lib.atoiAll_short l hl]
  cases Lib.atoi l <;> exact ⟨rfl, rfl⟩
theorem rep1_none : ∀ {s : Tx}, (∀ b ∈ s, b ≠ 46) → rep1 s = s
  | [], _ => rfl
  | b :: s, h => by rw [rep1, if_neg (h b (List.mem_cons_self ..)), rep1_none fun c hc => h c (List.mem_cons_of_mem _ hc)]
theorem rep1_idx : ∀ s : Tx, (Lib.indexByte s 46 = -1 ∧ rep1 s = s) ∨ ∃ i : Nat, Lib.indexByte s 46 = i ∧ rep1 s = s.take i ++ s.drop (i + 1)
  | [] => .inl ⟨rfl, rfl⟩
  | b :: l => by
    unfold Lib.indexByte
    by_cases hb : b = 46
    · subst hb
      exact .inr ⟨0, by simp, by simp [rep1]⟩
    · rw [rep1, if_neg hb, if_neg (by simpa using hb)]
      rcases rep1_idx l with ⟨h1, h2⟩ | ⟨i, h1, h2⟩
      · rw [h1, h2]; exact .inl ⟨by simp, rfl⟩
      · rw [h1, h2]
        refine .inr ⟨i + 1, ?_, by simp⟩
        have : ¬ ((i : Int) == -1) = true := by simp
        rw [if_neg this]; rfl
theorem rep_one (s : Tx) : Lib.replace s [46] [] 1 = rep1 s := by
  unfold Lib.replace
  rw [if_neg (by decide)]
  unfold Lib.replaceNum
  rw [Lib.count_one]
  by_cases hc : s.count 46 = 0
  · rw [if_pos (by omega), hc, Lib.replaceK]
    have hm : (46 : UInt8) ∉ s := List.count_eq_zero.1 hc
    exact (rep1_none fun b hb e => hm (e ▸ hb)).symm
  · rw [if_neg (by omega)]
    show Lib.replaceK [46] [] 1 s = _
    rw [Lib.replaceK, Lib.index_one]
    rcases rep1_idx s with ⟨h1, h2⟩ | ⟨i, h1, h2⟩
    · rw [h1, h2]; rfl
    · rw [h1, h2, if_neg (by simp), Lib.replaceK]
      simp
theorem rep1_len : ∀ s : Tx, (rep1 s).length ≤ s.length
  | [] => Nat.le_refl _
  | b :: l => by
    have := rep1_len l
    rw [rep1]
    split <;> simp only [List.length_cons] <;> omega
theorem replace_b (s : Tx) (hl : s.length ≤ 1048576) : BRet Tryz.prog 99 [] [.str s, .str [46], .str [], .int 1] (.str (rep1 s)) [] := by
  refine BRet.below (by kernel_rfl) rfl fun G w vs hvs hargs htb => ?_
  have hv : vs = #[.string ⟨s.toArray⟩, .string ⟨#[46]⟩, .string ⟨#[]⟩, .int .i64 1] := by
    apply Array.ext (by simpa using hvs)
    intro i hi hj
    have hr := fun x hx => hargs i x vs[i] hx (Array.getElem?_eq_getElem hi)
    generalize vs[i] = v at *
    match i, hj with
    | 0, _ => obtain ⟨h, -⟩ := hr _ rfl; cases h; rfl
    | 1, _ => obtain ⟨h, -⟩ := hr _ rfl; cases h; rfl
    | 2, _ => obtain ⟨h, -⟩ := hr _ rfl; cases h; rfl
    | 3, _ => obtain ⟨h, -⟩ := hr _ rfl; cases h; rfl
    | n + 4, h => have h : n + 4 < 4 := h; omega
  rw [hv]
  have es : (⟨s.toArray⟩ : ByteArray).data.toList = s := by simp
  have ez : (⟨s.toArray⟩ : ByteArray).size = s.length := by simp [ByteArray.size]
  obtain ⟨m, hm⟩ := (htb ("internal/bytealg.MaxLen", .num) (by simp [tabs]) 0 (by kernel_rfl)).2
  have hm' : w.cell? ⟨0, 0, none⟩ = some (.int .i64 m) := by
    have := World.var?_cell (P := Tryz.prog) (n := "internal/bytealg.MaxLen") (g := 0) (by kernel_rfl) hm 0
    simpa using this
  refine (Any.strings_Replace YtbhmeompdbokdaaGreatDoorStr.lays154 YtbhmeompdbokdaaGreatDoorStr.extra154 ⟨s.toArray⟩ ⟨#[46]⟩ ⟨#[]⟩ 1 m w (by rw [ez]; omega) hm' (by decide) (by rw [ez]; show _ + _ * 0 ≤ _; omega)).mono ?_
  rintro e w' ⟨rfl, hw⟩
  have e1 : Lib.replace (⟨s.toArray⟩ : ByteArray).data.toList (⟨#[46]⟩ : ByteArray).data.toList (⟨#[]⟩ : ByteArray).data.toList 1 = rep1 s := by rw [es]; exact rep_one s
  rw [e1]
  have := rep1_len s
  exact ⟨_, rfl, fun G' w2 => ⟨.str _ (by omega), rfl⟩, hw⟩
end Go.Bee.C24r


namespace Go.Bee.C24r
open Go Go.Bee Go.Proofs Go.Bee.Ty Go.Bee.C23 Go.Bee.C23s Go.Bee.Da Go.Bee.C24 Go.Bee.C24c Go.Bee.C24d
theorem ifErr : isIf Tryz.prog 95 = true := by kernel_rfl
theorem bDt0 : ∀ (a b c : Int), evBuild Tryz.prog 111 [(0, .d (.int .i64 a)), (1, .d (.int .i64 b)), (2, .d (.int .i64 c))] = some (.agg [.d (.int .i64 a), .d (.int .i64 b), .d (.int .i64 c)]) := fun a b c => by kernel_rfl
theorem cvI : ∀ (k : IntKind) (n : Int), evConv Tryz.prog 3 (.d (.int k n)) = some (.d (.int .i64 (IntKind.i64.wrap n))) := fun k n => by kernel_rfl
theorem tys : type_of% (And.intro Go.Bee.C24d.tys (And.intro ifErr (And.intro bDt0 cvI))) := And.intro Go.Bee.C24d.tys (And.intro ifErr (And.intro bDt0 cvI))
end Go.Bee.C24r
namespace Go.Bee.C24r
open Go Go.Bee Go.Proofs Go.Bee.Ty Go.Bee.C23 Go.Bee.C23s Go.Bee.Da Go.Bee.C24 Go.Bee.C24c Go.Bee.C24d
set_option linter.unusedVariables false
set_option maxRecDepth 20000
attribute [local irreducible] Go.Bee.bwp
theorem okDt_eq (y m d : Int) : okDt y m d = (inB y 2000 2099 && inB m 1 12 && inB d 1 (mlen y m)) := by
  unfold okDt inB
  rw [Bool.eq_iff_iff]
  simp only [Bool.and_eq_true, decide_eq_true_eq]
  omega
theorem IsValidDate_b (y m d : Int) : BRet Tryz.prog 95 [] [.agg [.int y, .int m, .int d]] (.bool (okDt y m d)) [] := by
  have h1 := within_b y 2000 2099
  have h2 := within_b m 1 12
  have h3 := within_b d 1 (mlen y m)
  have h4 := daysIn_b y m
  rw [okDt_eq]
  refine bof Tryz.func95 ?_
  generalize inB d 1 (mlen y m) = c3 at *
  generalize mlen y m = q at *
  cases e1 : inB y 2000 2099
  · rw [e1] at h1
    refine bgo ?_
    refine b_call h1 rfl rfl rfl rfl ?_
    refine bgo ?_
    trivial
  rw [e1] at h1
  cases e2 : inB m 1 12
  · rw [e2] at h2
    refine bgo ?_
    refine b_call h1 rfl rfl rfl rfl ?_
    refine bgo ?_
    refine b_call h2 rfl rfl rfl rfl ?_
    refine bgo ?_
    trivial
  rw [e2] at h2
  refine bgo ?_
  refine b_call h1 rfl rfl rfl rfl ?_
  refine bgo ?_
  refine b_call h2 rfl rfl rfl rfl ?_
  refine bgo ?_
  refine b_call h4 rfl rfl rfl rfl ?_
  refine bgo ?_
  refine b_call h3 rfl rfl rfl rfl ?_
  refine bgo ?_
  trivial
theorem l3Valid_b (y m d : Int) : BRet Tryz.prog 104 [] [.agg [.int y, .int m, .int d]] (.bool (okDt y m d)) [] := by
  have h1 := l1In_b y 2000 2099
  have h2 := l1In_b m 1 12
  have h3 := l1In_b d 1 (mlen y m)
  have h4 := l3Length_b y m
  rw [okDt_eq]
  refine bof Tryz.func104 ?_
  generalize inB d 1 (mlen y m) = c3 at *
  generalize mlen y m = q at *
  cases e1 : inB y 2000 2099
  · rw [e1] at h1
    refine bgo ?_
    refine b_call h1 rfl rfl rfl rfl ?_
    refine bgo ?_
    trivial
  rw [e1] at h1
  cases e2 : inB m 1 12
  · rw [e2] at h2
    refine bgo ?_
    refine b_call h1 rfl rfl rfl rfl ?_
    refine bgo ?_
    refine b_call h2 rfl rfl rfl rfl ?_
    refine bgo ?_
    trivial
  rw [e2] at h2
  refine bgo ?_
  refine b_call h1 rfl rfl rfl rfl ?_
  refine bgo ?_
  refine b_call h2 rfl rfl rfl rfl ?_
  refine bgo ?_
  refine b_call h4 rfl rfl rfl rfl ?_
  refine bgo ?_
  refine b_call h3 rfl rfl rfl rfl ?_
  refine bgo ?_
  trivial
theorem dayOf_b (y m d : Int) (k j : Nat) (hy : y = 2000 + k) (hm : m = j + 1) (hk : k ≤ 200) (hj : j ≤ 20) (hd : 0 ≤ d ∧ d ≤ 100) : BRet Tryz.prog 97 [] [.agg [.int y, .int m, .int d]] (.int (ycum k + mcum y j + d - 1)) [] := by
  refine bof Tryz.func97 ?_
  have hy2 : 2000 ≤ y ∧ y ≤ 2200 := by omega
  have hm2 : 1 ≤ m ∧ m ≤ 21 := by omega
  have hy' : Go.RowKit.Hid (y = 2000 + k) := hy
  have hm' : Go.RowKit.Hid (m = j + 1) := hm
  clear hy hm
  obtain ⟨r, hr⟩ : ∃ r, Go.RowKit.Hid (ycum k + mcum y j + d - 1 = r) := ⟨_, rfl⟩
  rw [hr.out]
  refine bgo ?_
  refine b_lp (ι := Nat × Int × Int) (fun i => [(1, .ptr (.t 1) 0), (3, .int i.2.2), (4, .int i.2.1)]) (fun _ => [(.t 1, [.int y, .int m, .int d])]) (fun i => i.1 ≤ k ∧ i.2.1 = 2000 + i.1 ∧ i.2.2 = d - 1 + ycum i.1) (fun i => k - i.1) (0, 2000, d - 1) hs ⟨Nat.zero_le _, rfl, by dsimp only; rw [ycum_eq 0]; omega⟩ ?_
  rintro ⟨i, yi, t⟩ ⟨hi, hyi, ht⟩ I nx
  dsimp only at hi hyi ht ⊢
  have hyy := hy'.out
  have hyb := ycum_in i
  by_cases hlt : yi < y
  · have hyl := ylen_in yi
    have hij : i + 1 ≤ k := by omega
    have hn : Go.RowKit.Hid (t + ylen yi = d - 1 + ycum ((i + 1 : Nat) : Int)) := by
      show _ = _
      rw [show ((i + 1 : Nat) : Int) = (i : Int) + 1 by omega, ycum_succ, ht, ← hyi]; omega
    have hyi2 : Go.RowKit.Hid (yi + 1 = 2000 + ((i + 1 : Nat) : Int)) := by show _ = _; omega
    have hcl := daysOf_b yi
    generalize ylen yi = q at *
    have htb : -10 ≤ t ∧ t ≤ 1000000 := by omega
    have hyi3 : 2000 ≤ yi ∧ yi ≤ 2300 := by omega
    clear hyi hyy ht hyb
    refine bgo ?_
    refine b_call hcl rfl rfl rfl rfl ?_
    refine bgo ?_
    exact nx.go (i + 1, yi + 1, t + q) ⟨hij, hyi2.out, hn.out⟩ (by dsimp only; omega) hs
  · have hik : i = k := by omega
    subst hik
    have htb : -10 ≤ t ∧ t ≤ 100000 := by omega
    have ht' : Go.RowKit.Hid (t = d - 1 + ycum i) := ht
    clear hyi hyy ht nx hyb
    refine bgo ?_
    refine wk_rfl ?_
    refine bgo ?_
    refine b_lp (ι := Nat × Int × Int) (fun i => [(1, .ptr (.t 1) 0), (3, .int i.2.2), (5, .int i.2.1)]) (fun _ => [(.t 1, [.int y, .int m, .int d])]) (fun i => i.1 ≤ j ∧ i.2.1 = i.1 + 1 ∧ i.2.2 = t + mcum y i.1) (fun i => j - i.1) (0, 1, t) hs ⟨Nat.zero_le _, rfl, by dsimp only; rw [mcum]; omega⟩ ?_
    clear hlt hi
    rintro ⟨a, mi, u⟩ ⟨ha, hmi, hu⟩ I nx
    dsimp only at ha hmi hu ⊢
    have hmm := hm'.out
    by_cases hlt : mi < m
    · have hml := mlen_in y mi
      have hmc := mcum_in y a
      have hn : Go.RowKit.Hid (u + mlen y mi = t + mcum y (a + 1)) := by show _ = _; rw [hu, mcum, hmi]; omega
      have hcl := daysIn_b y mi
      generalize mlen y mi = q at *
      generalize mcum y a = mc at *
      have hij : a + 1 ≤ j := by omega
      have hmi2 : Go.RowKit.Hid (mi + 1 = ((a + 1 : Nat) : Int) + 1) := by show _ = _; omega
      have hub : -100 ≤ u ∧ u ≤ 1000000 := by omega
      have hmi3 : 0 ≤ mi ∧ mi ≤ 100 := by omega
      clear hmi hmm hu
      refine bgo ?_
      refine b_call hcl rfl rfl rfl rfl ?_
      refine bgo ?_
      exact nx.go (a + 1, mi + 1, u + q) ⟨hij, hmi2.out, hn.out⟩ (by dsimp only; omega) hs
    · have hak : a = j := by omega
      subst hak
      obtain rfl : r = u := by rw [← hr.out, hu, ht'.out]; omega
      clear hmi hmm hu nx
      refine bgo ?_
      refine wk_rfl ?_
      refine bgo ?_
      trivial
theorem dayOf_ok {y m d : Int} (h : okDt y m d = true) : BRet Tryz.prog 97 [] [.agg [.int y, .int m, .int d]] (.int (dayN y m d)) [] := by
  unfold okDt at h
  rw [decide_eq_true_eq] at h
  have hml := mlen_in y m
  have := dayOf_b y m d (y - 2000).toNat (m - 1).toNat (by omega) (by omega) (by omega) (by omega) (by omega)
  rw [show (((y - 2000).toNat : Nat) : Int) = y - 2000 by omega] at this
  exact this
theorem l3Day_ok {y m d : Int} (h : okDt y m d = true) : BRet Tryz.prog 105 [] [.agg [.int y, .int m, .int d]] (.int (dayN y m d)) [] := by
  unfold okDt at h
  rw [decide_eq_true_eq] at h
  have hml := mlen_in y m
  have := l3Day_b y m d (y - 2000).toNat (m - 1).toNat (by omega) (by omega) (by omega) (by omega) (by omega)
  rw [show (((y - 2000).toNat : Nat) : Int) = y - 2000 by omega] at this
  exact this
def dV (o : Option Int) : Int := o.getD 0
theorem ParseDate_b (s : Tx) : BRet Tryz.prog 40 [] [.str s] (.tup [.int (dV (iDate s)), .bool (iDate s).isSome]) [] := by
  refine BRet.slen 0 (by kernel_rfl) rfl fun hl => ?_
  obtain ⟨o, ho⟩ : ∃ o, Go.RowKit.Hid (iDate s = o) := ⟨_, rfl⟩
  rw [ho.out]
  refine bof Tryz.func40 ?_
  by_cases hlen : (s.length : Int) = 10
  rotate_left
  · obtain rfl : o = none := by rw [← ho.out]; unfold iDate; rw [if_neg (by omega)]
    have q : ((s.length : Int) != 10) = true := by rw [bne_iff_ne]; exact hlen
    clear hlen
    refine bgo ?_
    trivial
  have q : ((s.length : Int) != 10) = false := by rw [hlen]; rfl
  have hln : s.length = 10 := by omega
  have t1 : (s.take 4).length = 4 := by simp; omega
  have t2 : ((s.drop 5).take 2).length = 2 := by simp; omega
  have t3 : (s.drop 8).length = 2 := by simp; omega
  have a1 := atoi_b (s.take 4)
  have a2 := atoi_b ((s.drop 5).take 2)
  have a3 := atoi_b (s.drop 8)
  rw [(at_short (by omega)).1, (at_short (by omega)).2] at a1 a2 a3
  replace ho : Go.RowKit.Hid (dt3 s (Lib.atoi (s.take 4)) (Lib.atoi ((s.drop 5).take 2)) (Lib.atoi (s.drop 8)) = o) := by show _ = o; rw [← ho.out]; unfold iDate; rw [if_pos hln]
  have b1 : 4 ≤ s.length := by omega
  have b2 : 5 ≤ 7 ∧ 7 ≤ s.length := by omega
  have b3 : 8 ≤ s.length := by omega
  clear t1 t2 t3 hlen
  replace hln : Go.RowKit.Hid (s.length = 10) := hln
  generalize Lib.atoi (s.take 4) = A at *
  generalize Lib.atoi ((s.drop 5).take 2) = B at *
  generalize Lib.atoi (s.drop 8) = C at *
  rw [show (s.drop 5).take 2 = (s.take 7).drop 5 from List.take_drop] at a2
  cases A with
  | none =>
    obtain rfl : o = none := by rw [← ho.out]; cases B <;> cases C <;> rfl
    refine bgo ?_
    refine b_call a1 rfl rfl rfl rfl ?_
    refine bgo ?_
    refine b_call a2 rfl rfl rfl rfl ?_
    refine bgo ?_
    refine b_call a3 rfl rfl rfl rfl ?_
    refine bgo ?_
    trivial
  | some y =>
  cases B with
  | none =>
    obtain rfl : o = none := by rw [← ho.out]; cases C <;> rfl
    refine bgo ?_
    refine b_call a1 rfl rfl rfl rfl ?_
    refine bgo ?_
    refine b_call a2 rfl rfl rfl rfl ?_
    refine bgo ?_
    refine b_call a3 rfl rfl rfl rfl ?_
    refine bgo ?_
    trivial
  | some m =>
  cases C with
  | none =>
    obtain rfl : o = none := by rw [← ho.out]; rfl
    refine bgo ?_
    refine b_call a1 rfl rfl rfl rfl ?_
    refine bgo ?_
    refine b_call a2 rfl rfl rfl rfl ?_
    refine bgo ?_
    refine b_call a3 rfl rfl rfl rfl ?_
    refine bgo ?_
    trivial
  | some d =>
  have hv := IsValidDate_b y m d
  have e1 : dt3 s (some y) (some m) (some d) = if okDt y m d = true then (if dateT (dayN y m d) = s then some (dayN y m d) else none) else none := rfl
  rw [e1] at ho
  clear e1
  cases hk : okDt y m d
  · obtain rfl : o = none := by rw [← ho.out, hk]; rfl
    rw [hk] at hv
    refine bgo ?_
    refine b_call a1 rfl rfl rfl rfl ?_
    refine bgo ?_
    refine b_call a2 rfl rfl rfl rfl ?_
    refine bgo ?_
    refine b_call a3 rfl rfl rfl rfl ?_
    refine bgo ?_
    refine b_call hv rfl rfl rfl rfl ?_
    refine bgo ?_
    trivial
  have hd := dayOf_ok hk
  have hdn := dayN_in hk
  have ht := dateText_b (dayN y m d) hdn.1 hdn.2
  rw [hk] at hv
  rw [hk, if_pos rfl] at ho
  clear hdn hk
  generalize dayN y m d = n at *
  generalize dateT n = T at *
  by_cases he : T = s
  · obtain rfl : o = some n := by rw [← ho.out, if_pos he]
    subst he
    refine bgo ?_
    refine b_call a1 rfl rfl rfl rfl ?_
    refine bgo ?_
    refine b_call a2 rfl rfl rfl rfl ?_
    refine bgo ?_
    refine b_call a3 rfl rfl rfl rfl ?_
    refine bgo ?_
    refine b_call hv rfl rfl rfl rfl ?_
    refine bgo ?_
    refine b_call hd rfl rfl rfl rfl ?_
    refine bgo ?_
    refine b_call ht rfl rfl rfl rfl ?_
    refine bgo ?_
    refine b_call hd rfl rfl rfl rfl ?_
    refine bgo ?_
    trivial
  · obtain rfl : o = none := by rw [← ho.out, if_neg he]
    refine bgo ?_
    refine b_call a1 rfl rfl rfl rfl ?_
    refine bgo ?_
    refine b_call a2 rfl rfl rfl rfl ?_
    refine bgo ?_
    refine b_call a3 rfl rfl rfl rfl ?_
    refine bgo ?_
    refine b_call hv rfl rfl rfl rfl ?_
    refine bgo ?_
    refine b_call hd rfl rfl rfl rfl ?_
    refine bgo ?_
    refine b_call ht rfl rfl rfl rfl ?_
    refine bgo ?_
    trivial
theorem u8_wrap {n : Int} (h0 : 0 ≤ n) (h1 : n < 256) : IntKind.u8.wrap n = n := by
  simp only [IntKind.wrap]
  simp [IntKind.bits, IntKind.signed]
  omega
theorem l3Digits_b (s : Tx) (hl : s.length ≤ 10) : BRet Tryz.prog 103 [] [.str s] (.int (digN 0 s)) [] := by
  obtain ⟨r, hr⟩ : ∃ r, Go.RowKit.Hid (digN 0 s = r) := ⟨_, rfl⟩
  rw [hr.out]
  refine bof Tryz.func103 ?_
  refine bgo ?_
  refine b_lp (ι := Nat × Int) (fun i => [(0, .str s), (3, .int i.2), (4, .int i.1)]) (fun _ => []) (fun i => i.1 ≤ s.length ∧ digN i.2 (s.drop i.1) = r ∧ 0 ≤ i.2 ∧ i.2 < 10 ^ i.1) (fun i => s.length - i.1) (0, 0) hs ⟨Nat.zero_le _, hr.out, by decide, by decide⟩ ?_
  clear hr
  rintro ⟨k, a⟩ ⟨hk, hj, ha0, ha1⟩ I nx
  dsimp only at hk hj ha0 ha1 ⊢
  have hp : (10 : Int) ^ k ≤ 10 ^ 10 := by
    have : (10 : Nat) ^ k ≤ 10 ^ 10 := Nat.pow_le_pow_right (by decide) (by omega)
    exact_mod_cast this
  have hab : a < 10000000000 := Int.lt_of_lt_of_le ha1 (Int.le_trans hp (by decide))
  by_cases hlt : k < s.length
  · have hx : s[k]? = some s[k] := List.getElem?_eq_getElem hlt
    have hb : s[k].toNat < 256 := UInt8.toNat_lt _
    rw [List.drop_eq_getElem_cons hlt, digN] at hj
    generalize s[k] = x at *
    have hst : 0 ≤ 10 * a + ((x.toNat : Int) - 48) ∧ 10 * a + ((x.toNat : Int) - 48) < 10 ^ (k + 1) ∨ ¬ (48 ≤ x.toNat ∧ x.toNat ≤ 57) := by
      by_cases hd : 48 ≤ x.toNat ∧ x.toNat ≤ 57
      · refine .inl ⟨by omega, ?_⟩
        rw [Int.pow_succ]; omega
      · exact .inr hd
    clear hp ha1
    by_cases h1 : (x.toNat : Int) < 48
    · rw [if_neg (by omega)] at hj
      subst hj
      clear hst
      refine bgo ?_
      trivial
    by_cases h2 : (x.toNat : Int) > 57
    · rw [if_neg (by omega)] at hj
      subst hj
      clear hst
      refine bgo ?_
      trivial
    rw [if_pos (by omega)] at hj
    rcases hst with ⟨hst1, hst2⟩ | hst
    rotate_left
    · omega
    have hju : Go.RowKit.Hid (digN (10 * a + ((x.toNat : Int) - 48)) (s.drop (k + 1)) = r) := hj
    have hst2 : Go.RowKit.Hid (10 * a + ((x.toNat : Int) - 48) < 10 ^ (k + 1)) := hst2
    have hw := u8_wrap (n := (x.toNat : Int) - 48) (by omega) (by omega)
    have hxb : 0 ≤ (x.toNat : Int) - 48 ∧ (x.toNat : Int) - 48 ≤ 9 := by omega
    clear hj
    refine bgo ?_
    exact nx.go (k + 1, 10 * a + ((x.toNat : Int) - 48)) ⟨hlt, hju.out, hst1, hst2.out⟩ (by dsimp only; omega) hs
  · have hk' : k = s.length := by omega
    subst hk'
    rw [List.drop_length, digN] at hj
    subst hj
    clear hp ha1
    refine bgo ?_
    refine wk_rfl ?_
    refine bgo ?_
    trivial
theorem u8_45 (c : UInt8) : (c.toNat : Int) = 45 ↔ c = 45 := by
  constructor
  · intro h
    have h2 : c.toNat = (45 : UInt8).toNat := by show c.toNat = 45; omega
    exact UInt8.toNat_inj.1 h2
  · rintro rfl; rfl
theorem specParseDate_b (s : Tx) : BRet Tryz.prog 50 [] [.str s] (.tup [.int (dV (sDate s)), .bool (sDate s).isSome]) [] := by
  refine BRet.slen 0 (by kernel_rfl) rfl fun hl => ?_
  obtain ⟨o, ho⟩ : ∃ o, Go.RowKit.Hid (sDate s = o) := ⟨_, rfl⟩
  rw [ho.out]
  refine bof Tryz.func50 ?_
  by_cases hlen : (s.length : Int) = 10
  rotate_left
  · obtain rfl : o = none := by rw [← ho.out]; unfold sDate; rw [if_neg (by omega)]
    have q : ((s.length : Int) != 10) = true := by rw [bne_iff_ne]; exact hlen
    clear hlen
    refine bgo ?_
    trivial
  have q : ((s.length : Int) != 10) = false := by rw [hlen]; rfl
  have hln : s.length = 10 := by omega
  have x4 : s[4]? = some s[4] := List.getElem?_eq_getElem (by omega)
  have x7 : s[7]? = some s[7] := List.getElem?_eq_getElem (by omega)
  have t1 : (s.take 4).length = 4 := by simp; omega
  have t2 : ((s.drop 5).take 2).length = 2 := by simp; omega
  have t3 : (s.drop 8).length = 2 := by simp; omega
  have a1 := l3Digits_b (s.take 4) (by omega)
  have a2 := l3Digits_b ((s.drop 5).take 2) (by omega)
  have a3 := l3Digits_b (s.drop 8) (by omega)
  have b1 : 4 ≤ s.length := by omega
  have b2 : 5 ≤ 7 ∧ 7 ≤ s.length := by omega
  have b3 : 8 ≤ s.length := by omega
  have l4 : (4 : Int) < s.length := by omega
  have l7 : (7 : Int) < s.length := by omega
  unfold sDate at ho
  generalize digN 0 (s.take 4) = y at *
  generalize digN 0 ((s.drop 5).take 2) = m at *
  generalize digN 0 (s.drop 8) = d at *
  rw [show (s.drop 5).take 2 = (s.take 7).drop 5 from List.take_drop] at a2
  have hv := l3Valid_b y m d
  rw [x4, x7] at ho
  generalize s[4] = c4 at *
  generalize s[7] = c7 at *
  clear t1 t2 t3 hlen
  have e4 := u8_45
  by_cases h4 : c4 = 45
  rotate_left
  · obtain rfl : o = none := by rw [← ho.out, if_neg]; rintro ⟨-, h, -⟩; exact h4 (Option.some.inj h)
    have g4 : ((c4.toNat : Int) != 45) = true := by rw [bne_iff_ne]; exact fun h => h4 ((e4 c4).1 h)
    clear hln e4
    refine bgo ?_
    trivial
  have g4 : ((c4.toNat : Int) != 45) = false := by rw [h4]; rfl
  by_cases h7 : c7 = 45
  rotate_left
  · obtain rfl : o = none := by rw [← ho.out, if_neg]; rintro ⟨-, -, h⟩; exact h7 (Option.some.inj h)
    have g7 : ((c7.toNat : Int) != 45) = true := by rw [bne_iff_ne]; exact fun h => h7 ((e4 c7).1 h)
    clear hln e4 h4
    refine bgo ?_
    trivial
  have g7 : ((c7.toNat : Int) != 45) = false := by rw [h7]; rfl
  rw [if_pos ⟨hln, by rw [h4], by rw [h7]⟩] at ho
  clear hln e4 h4 h7
  cases hk : okDt y m d
  · obtain rfl : o = none := by rw [← ho.out, hk]; rfl
    rw [hk] at hv
    refine bgo ?_
    refine b_call a1 rfl rfl rfl rfl ?_
    refine bgo ?_
    refine b_call a2 rfl rfl rfl rfl ?_
    refine bgo ?_
    refine b_call a3 rfl rfl rfl rfl ?_
    refine bgo ?_
    refine ⟨rfl, rfl, ?_⟩
    refine b_call hv rfl rfl rfl rfl ?_
    refine bgo ?_
    trivial
  have hd := l3Day_ok hk
  rw [hk] at hv
  obtain rfl : o = some (dayN y m d) := by rw [← ho.out, hk]; rfl
  clear hk
  generalize dayN y m d = n at *
  refine bgo ?_
  refine b_call a1 rfl rfl rfl rfl ?_
  refine bgo ?_
  refine b_call a2 rfl rfl rfl rfl ?_
  refine bgo ?_
  refine b_call a3 rfl rfl rfl rfl ?_
  refine bgo ?_
  refine ⟨rfl, rfl, ?_⟩
  refine b_call hv rfl rfl rfl rfl ?_
  refine bgo ?_
  refine b_call hd rfl rfl rfl rfl ?_
  refine bgo ?_
  trivial
end Go.Bee.C24r


namespace Go.Bee.C24r
open Go Go.Bee Go.Proofs Go.Bee.Ty Go.Bee.C23 Go.Bee.C23s Go.Bee.Da Go.Bee.C24 Go.Bee.C24c Go.Bee.C24d
set_option linter.unusedVariables false
set_option maxRecDepth 20000
attribute [local irreducible] Go.Bee.bwp
theorem amtT_neg {x : Int} (h : x < 0) : amtT x = [45] ++ num (-x / 100) ++ [46] ++ two (-x % 100) := by
  unfold amtT absI
  rw [if_pos h, if_pos h]
theorem amountTextN_b (x : Int) (h0 : x < 0) (h1 : -1000000000 ≤ x) : BRet Tryz.prog 101 [] [.int x] (.str (amtT x)) [] := by
  rw [amtT_neg h0]
  have hsz := size_b x (by omega)
  have ha : absI x = -x := by unfold absI; rw [if_pos h0]
  rw [ha] at hsz
  have hi := itoaN_b (-x / 100) (by omega) (by omega)
  have hp := paddedTwo_b (-x % 100) (by omega) (by omega)
  have h2 := num_le (n := -x / 100) (by omega) (by omega)
  have h3 := two_len (n := -x % 100) (by omega) (by omega)
  have hq : (-x).tdiv 100 = -x / 100 := Int.tdiv_eq_ediv_of_nonneg (by omega)
  have hr : (-x).tmod 100 = -x % 100 := Int.tmod_eq_emod_of_nonneg (by omega)
  have hz : ¬ ((100 : Int) = 0) := by decide
  generalize num (-x / 100) = t at *
  generalize two (-x % 100) = u at *
  have hb0 : 1 + t.length ≤ 140737488355328 := by omega
  have hb1 : 1 + t.length + 1 ≤ 140737488355328 := by omega
  have hb2 : 1 + t.length + 1 + 2 ≤ 140737488355328 := by omega
  have hb3 : t.length + 1 ≤ 140737488355328 := by omega
  have hb4 : t.length + 1 + 1 ≤ 140737488355328 := by omega
  have hb5 : t.length + 1 + 1 + 2 ≤ 140737488355328 := by omega
  have hqb : 0 ≤ -x / 100 ∧ -x / 100 ≤ 10000000 := by omega
  have hrb : 0 ≤ -x % 100 ∧ -x % 100 < 100 := by omega
  have hyb : 0 ≤ -x ∧ -x ≤ 1000000000 := by omega
  generalize -x / 100 = q at *
  generalize -x % 100 = r at *
  generalize -x = y at *
  clear ha h1
  refine bof Tryz.func101 ?_
  refine bgo ?_
  refine b_call hsz rfl rfl rfl rfl ?_
  refine bgo ?_
  refine b_call hi rfl rfl rfl rfl ?_
  refine bgo ?_
  refine b_call hsz rfl rfl rfl rfl ?_
  refine bgo ?_
  refine b_call hp rfl rfl rfl rfl ?_
  refine bgo ?_
  trivial
theorem amountTextZ_b (x : Int) (h0 : -1000000000 ≤ x) (h1 : x ≤ 1000000000) : BRet Tryz.prog 101 [] [.int x] (.str (amtT x)) [] := by
  by_cases h : x < 0
  · exact amountTextN_b x h h0
  · rw [← amtN_T (by omega)]; exact amountText_b x (by omega) h1
theorem l2FormatN_b (x : Int) (h0 : x < 0) (h1 : -1000000000 ≤ x) : BRet Tryz.prog 112 [] [.int x] (.str (amtT x)) [] := by
  rw [amtT_neg h0, show -x = 0 - x by omega]
  have hi := l1Num_b ((0 - x) / 100) (by omega) (by omega)
  have hp := l1Num_b ((0 - x) % 100) (by omega) (by omega)
  have h2 := num_le (n := (0 - x) / 100) (by omega) (by omega)
  have h3 := num_le (n := (0 - x) % 100) (by omega) (by omega)
  have hq : (0 - x).tdiv 100 = (0 - x) / 100 := Int.tdiv_eq_ediv_of_nonneg (by omega)
  have hr : (0 - x).tmod 100 = (0 - x) % 100 := Int.tmod_eq_emod_of_nonneg (by omega)
  have hz : ¬ ((100 : Int) = 0) := by decide
  unfold two
  have hqb : 0 ≤ (0 - x) / 100 ∧ (0 - x) / 100 ≤ 10000000 := by omega
  have hrb : 0 ≤ (0 - x) % 100 ∧ (0 - x) % 100 < 100 := by omega
  have hyb : 0 ≤ 0 - x ∧ 0 - x ≤ 1000000000 := by omega
  generalize num ((0 - x) / 100) = t at *
  generalize num ((0 - x) % 100) = u at *
  have hb0 : 1 + t.length ≤ 140737488355328 := by omega
  have hb1 : t.length + 1 ≤ 140737488355328 := by omega
  have hb3 : t.length + 1 + 1 ≤ 140737488355328 := by omega
  have hb5 : t.length + 1 + 1 + 1 ≤ 140737488355328 := by omega
  have hb2 : t.length + 1 + 1 + u.length ≤ 140737488355328 := by omega
  have hb4 : t.length + 1 + 1 + 1 + u.length ≤ 140737488355328 := by omega
  generalize (0 - x) / 100 = q at *
  generalize (0 - x) % 100 = r at *
  generalize hneg : 0 - x = y at *
  clear h1
  refine bof Tryz.func112 ?_
  by_cases h : r < 10
  · rw [if_pos h]
    rw [show [45] ++ t ++ [46] ++ 48 :: u = [45] ++ t ++ [46] ++ [48] ++ u by simp]
    refine bgo ?_
    refine b_call hi rfl rfl rfl rfl ?_
    refine bgo ?_
    refine b_call hp rfl rfl rfl rfl ?_
    refine bgo ?_
    trivial
  · rw [if_neg h]
    refine bgo ?_
    refine b_call hi rfl rfl rfl rfl ?_
    refine bgo ?_
    refine b_call hp rfl rfl rfl rfl ?_
    refine bgo ?_
    trivial
theorem l2FormatZ_b (x : Int) (h0 : -1000000000 ≤ x) (h1 : x ≤ 1000000000) : BRet Tryz.prog 112 [] [.int x] (.str (amtT x)) [] := by
  by_cases h : x < 0
  · exact l2FormatN_b x h h0
  · rw [← amtN_T (by omega)]; exact l2Format_b x (by omega) h1
theorem isAmount_b (x : Int) : BRet Tryz.prog 100 [] [.int x] (.bool (inB x (-1000000000) 1000000000)) [] := by
  refine bof Tryz.func100 ?_
  refine bgo ?_
  refine b_call (within_b _ _ _) rfl rfl rfl rfl ?_
  refine bgo ?_
  trivial
theorem l2AmountZ_b (x : Int) : BRet Tryz.prog 147 [] [.int x] (.bool (inB x (-1000000000) 1000000000)) [] := by
  refine bof Tryz.func147 ?_
  refine bgo ?_
  refine b_call (l1In_b _ _ _) rfl rfl rfl rfl ?_
  refine bgo ?_
  trivial
theorem inB_iff {x a b : Int} : inB x a b = true ↔ a ≤ x ∧ x ≤ b := by
  unfold inB
  simp only [Bool.and_eq_true, decide_eq_true_eq]
theorem inB_not {x a b : Int} (h : inB x a b = false) : ¬ (a ≤ x ∧ x ≤ b) := fun k => by rw [inB_iff.2 k] at h; cases h
def ia2 (s : Tx) : Lib.NumEnd Int → Option Int
  | .ok x => if (-1000000000 ≤ x ∧ x ≤ 1000000000) then (if amtT x = s then some x else none) else none
  | _ => none
theorem iAmt_eq (s : Tx) : iAmt s = ia2 s (Lib.atoiAll (rep1 s)) := by
  unfold iAmt ia2
  cases Lib.atoiAll (rep1 s) <;> rfl
theorem ParseAmount_b (s : Tx) (hl : s.length ≤ 1048576) : BRet Tryz.prog 45 [] [.str s] (.tup [.int (dV (iAmt s)), .bool (iAmt s).isSome]) [] := by
  rw [iAmt_eq]
  have h1 := replace_b s hl
  have h2 := atoi_b (rep1 s)
  unfold atV atE at h2
  obtain ⟨o, ho⟩ : ∃ o, Go.RowKit.Hid (ia2 s (Lib.atoiAll (rep1 s)) = o) := ⟨_, rfl⟩
  rw [ho.out]
  generalize Lib.atoiSat (rep1 s) = sat at *
  generalize Lib.atoiAll (rep1 s) = e at *
  generalize rep1 s = u at *
  refine bof Tryz.func45 ?_
  rcases e with x | _ | _
  rotate_left
  · obtain rfl : o = none := ho.out.symm
    dsimp only at h2
    refine bgo ?_
    refine b_call h1 rfl rfl rfl rfl ?_
    refine bgo ?_
    refine b_call h2 rfl rfl rfl rfl ?_
    refine bgo ?_
    trivial
  · obtain rfl : o = none := ho.out.symm
    dsimp only at h2
    refine bgo ?_
    refine b_call h1 rfl rfl rfl rfl ?_
    refine bgo ?_
    refine b_call h2 rfl rfl rfl rfl ?_
    refine bgo ?_
    trivial
  · dsimp only at h2
    have h3 := isAmount_b x
    cases hk : inB x (-1000000000) 1000000000
    · obtain rfl : o = none := by rw [← ho.out, ia2, if_neg (inB_not hk)]
      rw [hk] at h3
      refine bgo ?_
      refine b_call h1 rfl rfl rfl rfl ?_
      refine bgo ?_
      refine b_call h2 rfl rfl rfl rfl ?_
      refine bgo ?_
      refine b_call h3 rfl rfl rfl rfl ?_
      refine bgo ?_
      trivial
    rw [hk] at h3
    have hx := inB_iff.1 hk
    have h4 := amountTextZ_b x hx.1 hx.2
    rw [ia2, if_pos hx] at ho
    clear hk hx
    generalize amtT x = T at *
    by_cases he : T = s
    · obtain rfl : o = some x := by rw [← ho.out, if_pos he]
      subst he
      refine bgo ?_
      refine b_call h1 rfl rfl rfl rfl ?_
      refine bgo ?_
      refine b_call h2 rfl rfl rfl rfl ?_
      refine bgo ?_
      refine b_call h3 rfl rfl rfl rfl ?_
      refine bgo ?_
      refine b_call h4 rfl rfl rfl rfl ?_
      refine bgo ?_
      trivial
    · obtain rfl : o = none := by rw [← ho.out, if_neg he]
      refine bgo ?_
      refine b_call h1 rfl rfl rfl rfl ?_
      refine bgo ?_
      refine b_call h2 rfl rfl rfl rfl ?_
      refine bgo ?_
      refine b_call h3 rfl rfl rfl rfl ?_
      refine bgo ?_
      refine b_call h4 rfl rfl rfl rfl ?_
      refine bgo ?_
      trivial
theorem u8_46 (c : UInt8) : (c.toNat : Int) = 46 ↔ c = 46 := by
  constructor
  · intro h
    have h2 : c.toNat = (46 : UInt8).toNat := by show c.toNat = 46; omega
    exact UInt8.toNat_inj.1 h2
  · rintro rfl; rfl
theorem specParseAmount_b (s : Tx) : BRet Tryz.prog 108 [] [.str s] (.tup [.int (dV (sAmt s)), .bool (sAmt s).isSome]) [] := by
  refine BRet.slen 0 (by kernel_rfl) rfl fun hl => ?_
  obtain ⟨o, ho⟩ : ∃ o, Go.RowKit.Hid (sAmt s = o) := ⟨_, rfl⟩
  rw [ho.out]
  have hin := l1In_b (s.length : Int) 4 12
  refine bof Tryz.func108 ?_
  cases hlen : inB (s.length : Int) 4 12
  · obtain rfl : o = none := by
      have := inB_not hlen
      rw [← ho.out]; unfold sAmt; rw [if_neg (by omega)]
    rw [hlen] at hin
    refine bgo ?_
    refine b_call hin rfl rfl rfl rfl ?_
    refine bgo ?_
    trivial
  have hln := inB_iff.1 hlen
  rw [hlen] at hin
  clear hlen
  have hl4 : 4 ≤ s.length := by omega
  have hl12 : s.length ≤ 12 := by omega
  unfold sAmt at ho
  rw [if_pos ⟨hl4, hl12⟩] at ho
  obtain ⟨L, hL⟩ : ∃ L, Go.RowKit.Hid (amL true 0 s = L) := ⟨_, rfl⟩
  rw [hL.out] at ho
  clear hln hl
  refine bgo ?_
  refine b_call hin rfl rfl rfl rfl ?_
  refine bgo ?_
  refine b_lp (ι := Nat × Int) (fun i => [(0, .str s), (4, .int i.2), (5, .int i.1)]) (fun _ => []) (fun i => i.1 ≤ s.length ∧ amL (decide (i.1 = 0)) i.2 (s.drop i.1) = L ∧ 0 ≤ i.2 ∧ i.2 < 10 ^ i.1) (fun i => s.length - i.1) (0, 0) hs ⟨Nat.zero_le _, hL.out, by decide, by decide⟩ ?_
  clear hL hin
  rintro ⟨k, a⟩ ⟨hk, hj, ha0, ha1⟩ I nx
  dsimp only at hk hj ha0 ha1 ⊢
  have hp : (10 : Int) ^ k ≤ 10 ^ 12 := by
    have : (10 : Nat) ^ k ≤ 10 ^ 12 := Nat.pow_le_pow_right (by decide) (by omega)
    exact_mod_cast this
  have hab : a < 1000000000000 := Int.lt_of_lt_of_le ha1 (Int.le_trans hp (by decide))
  have hpw : (10 : Int) ^ k ≤ 10 ^ (k + 1) := by rw [Int.pow_succ]; omega
  by_cases hlt : k < s.length
  · have hx : s[k]? = some s[k] := List.getElem?_eq_getElem hlt
    have hb : s[k].toNat < 256 := UInt8.toNat_lt _
    rw [List.drop_eq_getElem_cons hlt, amL] at hj
    generalize s[k] = x at *
    have hd0 : decide (k + 1 = 0) = false := by simp
    by_cases h1 : (x.toNat : Int) ≥ 48
    · by_cases h2 : (x.toNat : Int) ≤ 57
      · rw [if_pos (by omega)] at hj
        have hst1 : 0 ≤ 10 * a + ((x.toNat : Int) - 48) := by omega
        have hst2 : Go.RowKit.Hid (10 * a + ((x.toNat : Int) - 48) < 10 ^ (k + 1)) := by show _ < _; rw [Int.pow_succ]; omega
        have hju : Go.RowKit.Hid (amL (decide (k + 1 = 0)) (10 * a + ((x.toNat : Int) - 48)) (s.drop (k + 1)) = L) := by show _ = L; rw [hd0]; exact hj
        have hw := u8_wrap (n := (x.toNat : Int) - 48) (by omega) (by omega)
        have hxb : 0 ≤ (x.toNat : Int) - 48 ∧ (x.toNat : Int) - 48 ≤ 9 := by omega
        clear hj hp ha1 hpw hd0
        refine bgo ?_
        exact nx.go (k + 1, 10 * a + ((x.toNat : Int) - 48)) ⟨hlt, hju.out, hst1, hst2.out⟩ (by dsimp only; omega) hs
      · rw [if_neg (by omega), if_neg (by rintro (h | ⟨h, -⟩) <;> (subst h; exact h2 (by decide)))] at hj
        subst hj
        obtain rfl : o = none := ho.out.symm
        have g1 : ((x.toNat : Int) != 46) = true := by rw [bne_iff_ne]; omega
        have g2 : ((x.toNat : Int) != 45) = true := by rw [bne_iff_ne]; omega
        clear hp ha1 hpw hd0
        refine bgo ?_
        trivial
    · rw [if_neg (by omega)] at hj
      by_cases h46 : x = 46
      · rw [if_pos (.inl h46)] at hj
        have g1 : ((x.toNat : Int) != 46) = false := by rw [h46]; rfl
        have hju : Go.RowKit.Hid (amL (decide (k + 1 = 0)) a (s.drop (k + 1)) = L) := by show _ = L; rw [hd0]; exact hj
        have hst2 : Go.RowKit.Hid (a < 10 ^ (k + 1)) := by show _ < _; omega
        clear hj hp ha1 hpw hd0 h46
        refine bgo ?_
        exact nx.go (k + 1, a) ⟨hlt, hju.out, ha0, hst2.out⟩ (by dsimp only; omega) hs
      have g1 : ((x.toNat : Int) != 46) = true := by rw [bne_iff_ne]; exact fun h => h46 ((u8_46 x).1 h)
      by_cases h45 : x = 45
      · have g2 : ((x.toNat : Int) != 45) = false := by rw [h45]; rfl
        by_cases hk0 : (k : Int) > 0
        · rw [if_neg (by rintro (h | ⟨-, h⟩); exact h46 h; exact absurd (of_decide_eq_true h) (by omega))] at hj
          subst hj
          obtain rfl : o = none := ho.out.symm
          clear hp ha1 hpw hd0 h46 h45
          refine bgo ?_
          trivial
        · rw [if_pos (.inr ⟨h45, decide_eq_true (by omega)⟩)] at hj
          have hju : Go.RowKit.Hid (amL (decide (k + 1 = 0)) a (s.drop (k + 1)) = L) := by show _ = L; rw [hd0]; exact hj
          have hst2 : Go.RowKit.Hid (a < 10 ^ (k + 1)) := by show _ < _; omega
          clear hj hp ha1 hpw hd0 h46 h45
          refine bgo ?_
          exact nx.go (k + 1, a) ⟨hlt, hju.out, ha0, hst2.out⟩ (by dsimp only; omega) hs
      · rw [if_neg (by rintro (h | ⟨h, -⟩); exact h46 h; exact h45 h)] at hj
        subst hj
        obtain rfl : o = none := ho.out.symm
        have g2 : ((x.toNat : Int) != 45) = true := by rw [bne_iff_ne]; exact fun h => h45 ((u8_45 x).1 h)
        clear hp ha1 hpw hd0 h46 h45
        refine bgo ?_
        trivial
  · have hk' : k = s.length := by omega
    subst hk'
    rw [List.drop_length, amL] at hj
    subst hj
    have hx : s[0]? = some s[0] := List.getElem?_eq_getElem (by omega)
    have l0 : (0 : Int) < s.length := by omega
    rw [sAm2] at ho
    have hsg : sgn s a = if s[0] = 45 then 0 - a else a := by
      unfold sgn
      rw [hx]
      by_cases h : s[0] = 45
      · rw [if_pos h, if_pos (by rw [h])]; omega
      · rw [if_neg h, if_neg fun k => h (Option.some.inj k)]
    generalize s[0] = c at *
    obtain ⟨z, hz⟩ : ∃ z, Go.RowKit.Hid (sgn s a = z) := ⟨_, rfl⟩
    rw [hz.out] at ho hsg
    have hzb : -1000000000000 ≤ z ∧ z ≤ 1000000000000 := by rw [hsg]; split <;> omega
    have ham := l2AmountZ_b z
    have htx := fun h1 h2 => l2FormatZ_b z h1 h2
    clear hp ha1 hpw nx hk hz
    by_cases hc : c = 45
    · rw [if_pos hc] at hsg
      have g3 : ((c.toNat : Int) == 45) = true := by rw [hc]; rfl
      have hzz : 0 - a = z := hsg.symm
      clear hc hsg
      cases hk : inB z (-1000000000) 1000000000
      · obtain rfl : o = none := by rw [← ho.out, if_neg fun h => inB_not hk h.1]
        rw [hk] at ham
        clear htx hk
        refine bgo ?_
        refine wk_rfl ?_
        refine bgo ?_
        refine b_call ham rfl rfl rfl rfl ?_
        refine bgo ?_
        trivial
      rw [hk] at ham
      have hx2 := inB_iff.1 hk
      have htx := htx hx2.1 hx2.2
      clear hk
      generalize hT : amtT z = T at *
      by_cases he : T = s
      · obtain rfl : o = some z := by rw [← ho.out, if_pos ⟨hx2, he⟩]
        subst he
        clear hT
        refine bgo ?_
        refine wk_rfl ?_
        refine bgo ?_
        refine b_call ham rfl rfl rfl rfl ?_
        refine bgo ?_
        refine b_call htx rfl rfl rfl rfl ?_
        refine bgo ?_
        trivial
      · obtain rfl : o = none := by rw [← ho.out, if_neg fun h => he h.2]
        clear hT
        refine bgo ?_
        refine wk_rfl ?_
        refine bgo ?_
        refine b_call ham rfl rfl rfl rfl ?_
        refine bgo ?_
        refine b_call htx rfl rfl rfl rfl ?_
        refine bgo ?_
        trivial
    · rw [if_neg hc] at hsg
      have g3 : ((c.toNat : Int) == 45) = false := by rw [beq_eq_false_iff_ne]; exact fun h => hc ((u8_45 c).1 h)
      clear hc
      subst hsg
      cases hk : inB z (-1000000000) 1000000000
      · obtain rfl : o = none := by rw [← ho.out, if_neg fun h => inB_not hk h.1]
        rw [hk] at ham
        clear htx hk
        refine bgo ?_
        refine wk_rfl ?_
        refine bgo ?_
        refine b_call ham rfl rfl rfl rfl ?_
        refine bgo ?_
        trivial
      rw [hk] at ham
      have hx2 := inB_iff.1 hk
      have htx := htx hx2.1 hx2.2
      clear hk
      generalize hT : amtT z = T at *
      by_cases he : T = s
      · obtain rfl : o = some z := by rw [← ho.out, if_pos ⟨hx2, he⟩]
        subst he
        clear hT
        refine bgo ?_
        refine wk_rfl ?_
        refine bgo ?_
        refine b_call ham rfl rfl rfl rfl ?_
        refine bgo ?_
        refine b_call htx rfl rfl rfl rfl ?_
        refine bgo ?_
        trivial
      · obtain rfl : o = none := by rw [← ho.out, if_neg fun h => he h.2]
        clear hT
        refine bgo ?_
        refine wk_rfl ?_
        refine bgo ?_
        refine b_call ham rfl rfl rfl rfl ?_
        refine bgo ?_
        refine b_call htx rfl rfl rfl rfl ?_
        refine bgo ?_
        trivial
end Go.Bee.C24r


namespace Go.Bee.C24r
open Go Go.Bee Go.Proofs Go.Bee.Ty Go.Bee.C23 Go.Bee.C23s Go.Bee.Da Go.Bee.C24 Go.Bee.C24c Go.Bee.C24d
set_option linter.unusedVariables false
set_option maxRecDepth 20000
theorem bofp {f : Nat} {fn : Func} {c : Code} {rs : List ResultVar} {args : List PV} {r : PV} {ci co : List PV} (hf : Tryz.prog.funcs[f]? = some fn) (h : bwp Tryz.prog (fun _ => []) c (endK Tryz.prog rs r [co]) (St.init args [ci])) (hb : fn.body = some c := by exact rfl) (hrs : fn.results = rs.toArray := by exact rfl)
    (hn : (fn.name != "runtime.NumGoroutine") = true := by kernel_rfl) (hd : cOk Tryz.prog (fun _ => []) fn.ntmps c = true := by kernel_rfl) (ha : args.length ≤ fn.ntmps := by exact Nat.le_of_ble_eq_true rfl) : BRet Tryz.prog f [ci] args r [co] :=
  BRet.of_body (fun _ => []) mixed hf hb hn hd hrs rfl ha h
attribute [local irreducible] Go.Bee.bwp
abbrev wrC (ws : List Tx) (f : Bool) : List PV := [.d (.sl 1 (ws.map .str)), .bool f]
theorem sl_one (w : Tx) (t : List Tx) : evSlice Tryz.prog 22 (.d (.sl 1 (.str w :: t.map .str))) (some (.d (.int .i64 1))) none = some (.d (.sl 1 (t.map .str))) := slStr.facts.2.2.2.2.2.2.1 (.str w :: t.map .str) 1 (by simp)
theorem wnext_b (ws : List Tx) (f : Bool) : BRet Tryz.prog 41 [wrC ws f] [.ptr (.a 0) 0] (.str (ws.headD [])) [wrC ws.tail (f || ws.isEmpty)] := by
  refine bofp Tryz.func41 ?_
  cases ws with
  | nil =>
    simp only [List.headD_nil, List.tail_nil, List.isEmpty_nil, Bool.or_true]
    refine bgo ?_
    exact ret_1p rfl rfl rfl (fun k => rfl) rfl
  | cons w t =>
    simp only [List.headD_cons, List.tail_cons, List.isEmpty_cons, Bool.or_false]
    have h0 : ¬ (((t.length + 1 : Nat) : Int) = 0) := by omega
    have hz := sl_one w t
    refine bgo ?_
    exact ret_1p rfl rfl rfl (fun k => rfl) rfl
theorem ret_0p {P : Program} {st : St} {c : List PV} (hb : st.bx (.a 0) = some c) (hk : ∀ k, st.bx (.a (k + 1)) = none) (hc : c.all PV.gives1 = true) : retK P [] (.tup []) [c] st := by
  refine ⟨[], by simp [resAll], by simp [cellsFit], by simp, by simp, by simp [resPV], fun k => ?_, by simpa using hc⟩
  cases k with
  | zero => simpa using hb
  | succ k => simpa using hk k
def tkW (ws : List Tx) (w : Tx) : Bool := decide (ws.head? = some w)
def tkR (ws : List Tx) (w : Tx) : List Tx := if tkW ws w = true then ws.tail else ws
theorem wtake_b (ws : List Tx) (f : Bool) (w : Tx) : BRet Tryz.prog 44 [wrC ws f] [.ptr (.a 0) 0, .str w] (.bool (tkW ws w)) [wrC (tkR ws w) f] := by
  refine bofp Tryz.func44 ?_
  cases ws with
  | nil =>
    have e1 : tkW [] w = false := rfl
    have e2 : tkR [] w = [] := rfl
    rw [e1, e2]
    refine bgo ?_
    exact ret_1p rfl rfl rfl (fun k => rfl) rfl
  | cons x t =>
    have h0 : ¬ (((t.length + 1 : Nat) : Int) = 0) := by omega
    have hz := sl_one x t
    have hb0 : (((t.length + 1 : Nat) : Int) == 0) = false := by rw [beq_eq_false_iff_ne]; omega
    by_cases h : x = w
    · subst h
      have e1 : tkW (x :: t) x = true := by unfold tkW; simp
      have e2 : tkR (x :: t) x = t := by unfold tkR; rw [if_pos e1]; rfl
      rw [e1, e2]
      clear e1 e2
      refine bgo ?_
      exact ret_1p rfl rfl rfl (fun k => rfl) rfl
    · have e1 : tkW (x :: t) w = false := by unfold tkW; exact decide_eq_false fun k => h (Option.some.inj k)
      have e2 : tkR (x :: t) w = x :: t := by unfold tkR; rw [if_neg (by rw [e1]; simp)]
      rw [e1, e2]
      have hq : (x == w) = false := by rw [beq_eq_false_iff_ne]; exact h
      clear e1 e2
      refine bgo ?_
      exact ret_1p rfl rfl rfl (fun k => rfl) rfl
theorem wneed_b (ws : List Tx) (f : Bool) (w : Tx) : BRet Tryz.prog 43 [wrC ws f] [.ptr (.a 0) 0, .str w] (.tup []) [wrC (tkR ws w) (!tkW ws w || f)] := by
  have h1 := wtake_b ws f w
  refine bofp Tryz.func43 ?_
  generalize tkR ws w = r at *
  generalize tkW ws w = b at *
  cases b
  · refine bgo ?_
    refine b_callp h1 rfl rfl rfl rfl rfl rfl rfl rfl rfl rfl ?_
    refine bgo ?_
    exact ret_0p rfl (fun k => rfl) rfl
  · refine bgo ?_
    refine b_callp h1 rfl rfl rfl rfl rfl rfl rfl rfl rfl rfl ?_
    refine bgo ?_
    exact ret_0p rfl (fun k => rfl) rfl
theorem wparty_b (ws : List Tx) (f : Bool) (l : List Tx) : BRet Tryz.prog 42 [wrC ws f] [.ptr (.a 0) 0, .d (.sl 1 (l.map .str))] (.int (max 0 (idx (fun x => ws.headD [] == x) l 0))) [wrC ws.tail ((f || ws.isEmpty) || decide (idx (fun x => ws.headD [] == x) l 0 < 0))] := by
  have h1 := wnext_b ws f
  have h2 := indexStr_b l (ws.headD [])
  refine bofp Tryz.func42 ?_
  generalize idx (fun x => ws.headD [] == x) l 0 = i at *
  generalize (f || ws.isEmpty) = f1 at *
  generalize ws.headD [] = hd at *
  generalize ws.tail = tl at *
  cases f1
  · by_cases hi : i < 0
    · refine bgo ?_
      refine b_callp h1 rfl rfl rfl rfl rfl rfl rfl rfl rfl rfl ?_
      refine bgo ?_
      refine b_call h2 rfl rfl rfl rfl ?_
      refine bgo ?_
      exact ret_1p rfl rfl rfl (fun k => rfl) rfl
    · refine bgo ?_
      refine b_callp h1 rfl rfl rfl rfl rfl rfl rfl rfl rfl rfl ?_
      refine bgo ?_
      refine b_call h2 rfl rfl rfl rfl ?_
      refine bgo ?_
      exact ret_1p rfl rfl rfl (fun k => rfl) rfl
  · refine bgo ?_
    refine b_callp h1 rfl rfl rfl rfl rfl rfl rfl rfl rfl rfl ?_
    refine bgo ?_
    refine b_call h2 rfl rfl rfl rfl ?_
    refine bgo ?_
    exact ret_1p rfl rfl rfl (fun k => rfl) rfl
end Go.Bee.C24r


namespace Go.Bee.C24r
open Go Go.Bee Go.Proofs Go.Bee.Ty
theorem bEv0 : evBuild Tryz.prog 25 [] = some (.agg [.d (.int .i64 0), .d (.int .i64 0), .d (.str []), .d (.int .i64 0)]) := by kernel_rfl
theorem bWr : ∀ (x : PD) (l : List PD), evBuild Tryz.prog 58 [(0, .own 9 1 (x :: l))] = some (.agg [.d (.sl 1 (x :: l)), .d (.bool false)]) := fun x l => by kernel_rfl
end Go.Bee.C24r
namespace Go.Bee.C24s
theorem tys : type_of% (And.intro Go.Bee.C24r.tys (And.intro Go.Bee.C24r.bEv0 Go.Bee.C24r.bWr)) := And.intro Go.Bee.C24r.tys (And.intro Go.Bee.C24r.bEv0 Go.Bee.C24r.bWr)
end Go.Bee.C24s
namespace Go.Bee.C24s
open Go Go.Bee Go.Proofs Go.Bee.Ty Go.Bee.C23 Go.Bee.C23s Go.Bee.Da Go.Bee.C24 Go.Bee.C24c Go.Bee.C24d Go.Bee.C24r
set_option linter.unusedVariables false
set_option maxRecDepth 20000
attribute [local irreducible] Go.Bee.bwp
theorem eventText_b (d : Int) (p : Nat) (a : Tx) (am : Int) (l : List Tx) (h : parOk l = true) (he : evOk d p a am l.length = true) :
    BRet Tryz.prog 47 [] [.agg [.int d, .int p, .str a, .int am], .d (.sl 1 (l.map .str))] (.str (evX d (l.getD p []) a am)) [] := by
  unfold evOk inB at he
  simp only [Bool.and_eq_true, decide_eq_true_eq] at he
  obtain ⟨⟨⟨⟨d0, d1⟩, ⟨p0, p1⟩⟩, ha⟩, ⟨m0, m1⟩⟩ := he
  have hlt : p < l.length := by omega
  have hpn := (vName_len (parOk_name h hlt)).2
  have han := (vName_len ha).2
  have hd := dateText_b d d0 d1
  have hdl := dateT_len d0 d1
  have hm := amountText_b am m0 (by omega)
  have hml := amtN_len m0 (by omega)
  have hx : l[p]? = some (l.getD p []) := by simp [hlt]
  have hpb : (p : Int) ≤ 1000000 ∧ (p : Int) < l.length := by
    have : l.length ≤ 4 := by
      unfold parOk inB at h
      simp only [Bool.and_eq_true, decide_eq_true_eq] at h
      omega
    omega
  clear h ha
  unfold evX t_sdoes t_spay
  generalize l.getD p [] = q at *
  generalize dateT d = t at *
  generalize amtN am = u at *
  refine bof Tryz.func47 ?_
  by_cases h0 : am > 0
  · rw [if_pos h0]
    refine bgo ?_
    refine b_call hd rfl rfl rfl rfl ?_
    refine bgo ?_
    repeat (refine ifK (by omega) ?_; refine bgo ?_)
    refine b_call hm rfl rfl rfl rfl ?_
    refine bgo ?_
    repeat (refine ifK (by omega) ?_; refine bgo ?_)
    first
      | trivial
      | simp
  · rw [if_neg h0, List.append_nil]
    refine bgo ?_
    refine b_call hd rfl rfl rfl rfl ?_
    refine bgo ?_
    repeat (refine ifK (by omega) ?_; refine bgo ?_)
    trivial
theorem l7Event_b (d : Int) (p : Nat) (a : Tx) (am : Int) (l : List Tx) (h : parOk l = true) (he : evOk d p a am l.length = true) :
    BRet Tryz.prog 72 [] [.agg [.int d, .int p, .str a, .int am], .d (.sl 1 (l.map .str))] (.str (evX d (l.getD p []) a am)) [] := by
  unfold evOk inB at he
  simp only [Bool.and_eq_true, decide_eq_true_eq] at he
  obtain ⟨⟨⟨⟨d0, d1⟩, ⟨p0, p1⟩⟩, ha⟩, ⟨m0, m1⟩⟩ := he
  have hlt : p < l.length := by omega
  have hpn := (vName_len (parOk_name h hlt)).2
  have han := (vName_len ha).2
  have hd := l3Text_b d d0 d1
  have hdl := dateT_len d0 d1
  have hm := l2Format_b am m0 (by omega)
  have hml := amtN_len m0 (by omega)
  have hx : l[p]? = some (l.getD p []) := by simp [hlt]
  have hpb : (p : Int) ≤ 1000000 ∧ (p : Int) < l.length := by
    have : l.length ≤ 4 := by
      unfold parOk inB at h
      simp only [Bool.and_eq_true, decide_eq_true_eq] at h
      omega
    omega
  clear h ha
  unfold evX t_sdoes t_spay
  generalize l.getD p [] = q at *
  generalize dateT d = t at *
  generalize amtN am = u at *
  refine bof Tryz.func72 ?_
  by_cases h0 : am > 0
  · rw [if_pos h0]
    refine bgo ?_
    refine b_call hd rfl rfl rfl rfl ?_
    refine bgo ?_
    repeat (refine ifK (by omega) ?_; refine bgo ?_)
    refine b_call hm rfl rfl rfl rfl ?_
    refine bgo ?_
    repeat (refine ifK (by omega) ?_; refine bgo ?_)
    first
      | trivial
      | simp
  · rw [if_neg h0, List.append_nil]
    refine bgo ?_
    refine b_call hd rfl rfl rfl rfl ?_
    refine bgo ?_
    repeat (refine ifK (by omega) ?_; refine bgo ?_)
    trivial
theorem splitC_memlen (c : UInt8) : ∀ (s : Tx), ∀ w ∈ splitC c s, w.length ≤ s.length
  | [], w, h => by
    have h : w ∈ ([[]] : List Tx) := h
    rw [List.mem_singleton.1 h]; exact Nat.le_refl _
  | a :: l, w, h => by
    have ih := splitC_memlen c l
    rw [splitC_c] at h
    split at h
    · rcases List.mem_cons.1 h with e | e
      · rw [e]; exact Nat.zero_le _
      · have := ih w e; simp only [List.length_cons]; omega
    · split at h
      · rename_i x t he
        rcases List.mem_cons.1 h with e | e
        · have := ih x (by rw [he]; exact List.mem_cons_self ..)
          rw [e]; simp only [List.length_cons]; omega
        · have := ih w (by rw [he]; exact List.mem_cons_of_mem _ e)
          simp only [List.length_cons]; omega
      · rename_i he
        exact absurd he (splitC_ne c l)
def rdE (s : Tx) (l : List Tx) (q : Ev4 × Bool) : Option Ev4 := if parOk l = true then finE txE s l q else none
def ev0 (o : Option Ev4) : Ev4 := o.getD ⟨0, 0, [], 0⟩
theorem headD_len {l : List Tx} {n : Nat} (h : ∀ w ∈ l, w.length ≤ n) : (l.headD []).length ≤ n := by
  cases l with
  | nil => exact Nat.zero_le _
  | cons a t => exact h a (List.mem_cons_self ..)
theorem tail_mem {l : List Tx} {n : Nat} (h : ∀ w ∈ l, w.length ≤ n) : ∀ w ∈ l.tail, w.length ≤ n := fun w hw => h w (List.mem_of_mem_tail hw)
theorem tkR_mem {l : List Tx} {n : Nat} (h : ∀ w ∈ l, w.length ≤ n) (w : Tx) : ∀ x ∈ tkR l w, x.length ≤ n := by
  unfold tkR
  split
  · exact tail_mem h
  · exact h
theorem tkR_yes {ws : List Tx} {w : Tx} (h : tkW ws w = true) : tkR ws w = ws.tail := by unfold tkR; rw [if_pos h]
theorem iRd_eq (l : List Tx) (w0 : Tx) (t0 : List Tx) : iRd l (w0 :: t0) =
    (⟨dV (iDate w0), max 0 (idx (fun x => t0.headD [] == x) l 0), (tkR t0.tail t_does).headD [], if tkW (tkR t0.tail t_does).tail t_pay = true then dV (iAmt ((tkR t0.tail t_does).tail.tail.headD [])) else 0⟩,
      if tkW (tkR t0.tail t_does).tail t_pay = true then ((!tkW t0.tail t_does || ((false || t0.isEmpty) || decide (idx (fun x => t0.headD [] == x) l 0 < 0))) || (tkR t0.tail t_does).isEmpty) || (tkR t0.tail t_does).tail.tail.isEmpty else (!tkW t0.tail t_does || ((false || t0.isEmpty) || decide (idx (fun x => t0.headD [] == x) l 0 < 0))) || (tkR t0.tail t_does).isEmpty) := rfl
theorem fin_no {s : Tx} {l : List Tx} {e : Ev4} {F : Bool} (h : F = true ∨ okE l e = false ∨ txE l e ≠ s) : finE txE s l (e, F) = none := by
  unfold finE
  rw [if_neg]
  intro k
  simp only [Bool.and_eq_true, decide_eq_true_eq, Bool.not_eq_true'] at k
  rcases h with h | h | h
  · rw [h] at k; cases k.1.1
  · rw [h] at k; cases k.1.2
  · exact h k.2
theorem fin_yes {s : Tx} {l : List Tx} {e : Ev4} {F : Bool} (h1 : F = false) (h2 : okE l e = true) (h3 : txE l e = s) : finE txE s l (e, F) = some e := by
  unfold finE
  rw [if_pos]
  simp [h1, h2, h3]
theorem ParseEvent_b (s : Tx) (l : List Tx) (hl : s.length ≤ 1048576) : BRet Tryz.prog 11 [] [.str s, .d (.sl 1 (l.map .str))]
    (.tup [.agg [.int (ev0 (rdE s l (iRd l (splitC 32 s)))).d, .int (ev0 (rdE s l (iRd l (splitC 32 s)))).p, .str (ev0 (rdE s l (iRd l (splitC 32 s)))).a, .int (ev0 (rdE s l (iRd l (splitC 32 s)))).am], .bool (rdE s l (iRd l (splitC 32 s))).isSome]) [] := by
  have hp := areParties_b l
  obtain ⟨o, ho⟩ : ∃ o, Go.RowKit.Hid (rdE s l (iRd l (splitC 32 s)) = o) := ⟨_, rfl⟩
  rw [ho.out]
  refine bof Tryz.func11 ?_
  cases hk : parOk l
  · obtain rfl : o = none := by rw [← ho.out]; unfold rdE; rw [hk]; rfl
    rw [hk] at hp
    refine bgo ?_
    refine b_call hp rfl rfl rfl rfl ?_
    refine bgo ?_
    exact ret_ct rfl rfl rfl ty25 rfl rfl rfl rfl rfl (fun k => rfl)
  rw [hk] at hp
  obtain ⟨w0, t0, hw⟩ : ∃ w0 t0, splitC 32 s = w0 :: t0 := by
    cases h : splitC 32 s with
    | nil => exact absurd h (splitC_ne 32 s)
    | cons a b => exact ⟨a, b, rfl⟩
  have hsp := split_b s 32 hl
  have hlen := splitC_memlen 32 s
  rw [hw] at hsp hlen
  replace ho : Go.RowKit.Hid (finE txE s l (iRd l (w0 :: t0)) = o) := by show _ = o; rw [← ho.out, hw]; unfold rdE; rw [if_pos hk]
  rw [iRd_eq] at ho
  have l5 := headD_len (tail_mem (tail_mem (tkR_mem (tail_mem fun w hw => hlen w (List.mem_cons_of_mem _ hw)) t_does)))
  have h1 := wnext_b (w0 :: t0) false
  have h2 := ParseDate_b w0
  have h3 := wparty_b t0 false l
  have hpl : 2 ≤ l.length ∧ l.length ≤ 4 := by
    unfold parOk inB at hk
    simp only [Bool.and_eq_true, decide_eq_true_eq] at hk
    omega
  have h4 := wneed_b t0.tail ((false || t0.isEmpty) || decide (idx (fun x => t0.headD [] == x) l 0 < 0)) t_does
  have h5 := wnext_b (tkR t0.tail t_does) (!tkW t0.tail t_does || ((false || t0.isEmpty) || decide (idx (fun x => t0.headD [] == x) l 0 < 0)))
  have h6 := wtake_b (tkR t0.tail t_does).tail ((!tkW t0.tail t_does || ((false || t0.isEmpty) || decide (idx (fun x => t0.headD [] == x) l 0 < 0))) || (tkR t0.tail t_does).isEmpty) t_pay
  have hyes : tkW (tkR t0.tail t_does).tail t_pay = true → tkR (tkR t0.tail t_does).tail t_pay = (tkR t0.tail t_does).tail.tail := tkR_yes
  have hq0 : 0 ≤ max 0 (idx (fun x => t0.headD [] == x) l 0) := by omega
  generalize dV (iDate w0) = D at *
  generalize (iDate w0).isSome = D2 at *
  generalize max 0 (idx (fun x => t0.headD [] == x) l 0) = P at *
  generalize ((false || t0.isEmpty) || decide (idx (fun x => t0.headD [] == x) l 0 < 0)) = f2 at *
  generalize (!tkW t0.tail t_does || f2) = f3 at *
  generalize tkR t0.tail t_does = ws3 at *
  generalize t0.tail = ws2 at *
  generalize ws3.headD [] = A at *
  generalize (f3 || ws3.isEmpty) = f4 at *
  refine bgo ?_
  refine b_call hp rfl rfl rfl rfl ?_
  refine bgo ?_
  refine b_call hsp rfl rfl rfl rfl ?_
  refine bgo ?_
  refine b_callp h1 rfl rfl rfl rfl rfl rfl rfl rfl rfl rfl ?_
  refine bgo ?_
  refine b_call h2 rfl rfl rfl rfl ?_
  refine bgo ?_
  refine b_callp h3 rfl rfl rfl rfl rfl rfl rfl rfl rfl rfl ?_
  refine bgo ?_
  refine b_callp h4 rfl rfl rfl rfl rfl rfl rfl rfl rfl rfl ?_
  refine bgo ?_
  refine b_callp h5 rfl rfl rfl rfl rfl rfl rfl rfl rfl rfl ?_
  refine bgo ?_
  refine b_callp h6 rfl rfl rfl rfl rfl rfl rfl rfl rfl rfl ?_
  have fin : ∀ (M : Int) (F : Bool), finE txE s l (⟨D, P, A, M⟩, F) = o → (F = true → o = none) ∧ (F = false → okE l ⟨D, P, A, M⟩ = false → o = none) ∧ (F = false → okE l ⟨D, P, A, M⟩ = true → txE l ⟨D, P, A, M⟩ ≠ s → o = none) ∧ (F = false → okE l ⟨D, P, A, M⟩ = true → txE l ⟨D, P, A, M⟩ = s → o = some ⟨D, P, A, M⟩) := fun M F h =>
    ⟨fun k => by rw [← h]; exact fin_no (.inl k), fun _ k => by rw [← h]; exact fin_no (.inr (.inl k)), fun _ _ k => by rw [← h]; exact fin_no (.inr (.inr k)), fun k1 k2 k3 => by rw [← h]; exact fin_yes k1 k2 k3⟩
  have hisE := fun M => isEvent_b D P A M l.length (by omega) (by omega)
  have hlb : l.length ≤ 140737488355328 := by omega
  generalize hb5 : tkW ws3.tail t_pay = b5 at *
  cases b5
  · simp only [Bool.false_eq_true, if_false] at ho
    have fin := fin 0 f4 ho.out
    have hisE := hisE 0
    clear ho hyes l5 h6
    change BRet Tryz.prog 46 [] _ (.bool (okE l ⟨D, P, A, 0⟩)) [] at hisE
    generalize tkR ws3.tail t_pay = ws5 at *
    cases f4
    rotate_left
    · obtain rfl := fin.1 rfl
      refine bgo ?_
      exact ret_ct rfl rfl rfl ty25 rfl rfl rfl rfl rfl (fun k => rfl)
    cases hok : okE l ⟨D, P, A, 0⟩
    · obtain rfl := fin.2.1 rfl hok
      rw [hok] at hisE
      refine bgo ?_
      refine b_call hisE rfl rfl rfl rfl ?_
      refine bgo ?_
      exact ret_ct rfl rfl rfl ty25 rfl rfl rfl rfl rfl (fun k => rfl)
    rw [hok] at hisE
    obtain ⟨k, rfl⟩ : ∃ k : Nat, P = k := ⟨P.toNat, by omega⟩
    have htx := eventText_b D k A 0 l hk hok
    have e1 : txE l ⟨D, k, A, 0⟩ = evX D (l.getD k []) A 0 := rfl
    rw [e1] at fin
    generalize evX D (l.getD k []) A 0 = T at *
    clear e1
    by_cases he : T = s
    · obtain rfl := fin.2.2.2 rfl hok he
      clear fin
      subst he
      refine bgo ?_
      refine b_call hisE rfl rfl rfl rfl ?_
      refine bgo ?_
      refine b_call htx rfl rfl rfl rfl ?_
      refine bgo ?_
      exact ret_ct rfl rfl rfl ty25 rfl rfl rfl rfl rfl (fun k => rfl)
    · obtain rfl := fin.2.2.1 rfl hok he
      clear fin
      refine bgo ?_
      refine b_call hisE rfl rfl rfl rfl ?_
      refine bgo ?_
      refine b_call htx rfl rfl rfl rfl ?_
      refine bgo ?_
      exact ret_ct rfl rfl rfl ty25 rfl rfl rfl rfl rfl (fun k => rfl)
  · simp only [if_true] at ho
    have hyes := hyes rfl
    rw [hyes]
    have h7 := wnext_b ws3.tail.tail f4
    have h8 := ParseAmount_b (ws3.tail.tail.headD []) (by omega)
    generalize ws3.tail.tail = ws5 at *
    generalize dV (iAmt (ws5.headD [])) = M at *
    generalize (iAmt (ws5.headD [])).isSome = M2 at *
    generalize ws5.headD [] = w5 at *
    generalize (f4 || ws5.isEmpty) = f5 at *
    generalize ws5.tail = ws6 at *
    have fin := fin M f5 ho.out
    have hisE := hisE M
    clear ho l5 h6 hyes
    change BRet Tryz.prog 46 [] _ (.bool (okE l ⟨D, P, A, M⟩)) [] at hisE
    refine bgo ?_
    refine b_callp h7 rfl rfl rfl rfl rfl rfl rfl rfl rfl rfl ?_
    refine bgo ?_
    refine b_call h8 rfl rfl rfl rfl ?_
    cases f5
    rotate_left
    · obtain rfl := fin.1 rfl
      refine bgo ?_
      exact ret_ct rfl rfl rfl ty25 rfl rfl rfl rfl rfl (fun k => rfl)
    cases hok : okE l ⟨D, P, A, M⟩
    · obtain rfl := fin.2.1 rfl hok
      rw [hok] at hisE
      refine bgo ?_
      refine b_call hisE rfl rfl rfl rfl ?_
      refine bgo ?_
      exact ret_ct rfl rfl rfl ty25 rfl rfl rfl rfl rfl (fun k => rfl)
    rw [hok] at hisE
    obtain ⟨k, rfl⟩ : ∃ k : Nat, P = k := ⟨P.toNat, by omega⟩
    have htx := eventText_b D k A M l hk hok
    have e1 : txE l ⟨D, k, A, M⟩ = evX D (l.getD k []) A M := rfl
    rw [e1] at fin
    generalize evX D (l.getD k []) A M = T at *
    clear e1
    by_cases he : T = s
    · obtain rfl := fin.2.2.2 rfl hok he
      clear fin
      subst he
      refine bgo ?_
      refine b_call hisE rfl rfl rfl rfl ?_
      refine bgo ?_
      refine b_call htx rfl rfl rfl rfl ?_
      refine bgo ?_
      exact ret_ct rfl rfl rfl ty25 rfl rfl rfl rfl rfl (fun k => rfl)
    · obtain rfl := fin.2.2.1 rfl hok he
      clear fin
      refine bgo ?_
      refine b_call hisE rfl rfl rfl rfl ?_
      refine bgo ?_
      refine b_call htx rfl rfl rfl rfl ?_
      refine bgo ?_
      exact ret_ct rfl rfl rfl ty25 rfl rfl rfl rfl rfl (fun k => rfl)
end Go.Bee.C24s


namespace Go.Bee.C24s
open Go Go.Bee Go.Proofs Go.Bee.Ty Go.Bee.C23 Go.Bee.C23s Go.Bee.Da Go.Bee.C24 Go.Bee.C24c Go.Bee.C24d Go.Bee.C24r
set_option linter.unusedVariables false
set_option maxRecDepth 20000
attribute [local irreducible] Go.Bee.bwp
abbrev rdC (s : Tx) (q : Nat × Bool) : List PV := [.str s, .int q.1, .bool q.2]
theorem beq_dec (x y : Tx) : (x == y) = decide (x = y) := by rw [Bool.eq_iff_iff]; simp
theorem l5Starts_b (s w : Tx) (k : Nat) (hsl : s.length ≤ 1048576) (hw : w.length ≤ 1048576) (hk : k ≤ s.length) : BRet Tryz.prog 107 [] [.str s, .int k, .str w] (.bool (decide (k + w.length ≤ s.length) && decide ((s.drop k).take w.length = w))) [] := by
  rw [List.take_drop]
  refine bof Tryz.func107 ?_
  have hb : (k : Int) + w.length ≤ 4000000 := by omega
  by_cases h : (k : Int) + w.length ≤ s.length
  · have h1 : k + w.length ≤ s.length := by omega
    rw [decide_eq_true h1, Bool.true_and]
    have hc : (k : Int) ≤ (k : Int) + w.length := by omega
    have hn : ((k : Int) + w.length).toNat = k + w.length := by omega
    refine bgo ?_
    exact congrArg PV.bool (beq_dec _ _)
  · have h1 : ¬ k + w.length ≤ s.length := by omega
    rw [decide_eq_false h1, Bool.false_and]
    refine bgo ?_
    trivial
theorem take_b (s w : Tx) (q : Nat × Bool) (hsl : s.length ≤ 1048576) (hw : w.length ≤ 1048576) (hk : q.1 ≤ s.length) : BRet Tryz.prog 53 [rdC s q] [.ptr (.a 0) 0, .str w] (.bool (tkS s w q)) [rdC s (tkQ s w q)] := by
  obtain ⟨k, bad⟩ := q
  have h1 := l5Starts_b s w k hsl hw hk
  have hb : (k : Int) + w.length ≤ 4000000 := by dsimp only at hk; omega
  have hq : tkQ s w (k, bad) = if tkS s w (k, bad) = true then (k + w.length, bad) else (k, bad) := rfl
  have ht : tkS s w (k, bad) = (!bad && (decide (k + w.length ≤ s.length) && decide ((s.drop k).take w.length = w))) := by unfold tkS; rw [Bool.and_assoc]
  rw [hq, ht]
  clear hq ht
  refine bofp Tryz.func53 ?_
  generalize (decide (k + w.length ≤ s.length) && decide ((s.drop k).take w.length = w)) = b at *
  cases bad
  · cases b
    · refine bgo ?_
      refine b_call h1 rfl rfl rfl rfl ?_
      refine bgo ?_
      exact ret_1p rfl rfl rfl (fun k => rfl) rfl
    · simp only [Bool.not_false, Bool.true_and, if_true]
      refine bgo ?_
      refine b_call h1 rfl rfl rfl rfl ?_
      refine bgo ?_
      exact ret_1p rfl rfl rfl (fun k => rfl) rfl
  · simp only [Bool.not_true, Bool.false_and, Bool.false_eq_true, if_false]
    refine bgo ?_
    exact ret_1p rfl rfl rfl (fun k => rfl) rfl
theorem tkQ_le (s w : Tx) (q : Nat × Bool) (hk : q.1 ≤ s.length) : (tkQ s w q).1 ≤ s.length := by
  unfold tkQ
  split
  · rename_i h
    unfold tkS at h
    simp only [Bool.and_eq_true, decide_eq_true_eq] at h
    exact h.1.2
  · exact hk
theorem wtS_eq (s w : Tx) (q : Nat × Bool) : wtS s w q = if tkS s w q = true then tkQ s w q else (q.1, true) := by
  unfold wtS tkQ
  split
  · rfl
  · rfl
theorem wtS_le (s w : Tx) (q : Nat × Bool) (hk : q.1 ≤ s.length) : (wtS s w q).1 ≤ s.length := by
  rw [wtS_eq]
  split
  · exact tkQ_le s w q hk
  · exact hk
theorem want_b (s w : Tx) (q : Nat × Bool) (hsl : s.length ≤ 1048576) (hw : w.length ≤ 1048576) (hk : q.1 ≤ s.length) : BRet Tryz.prog 49 [rdC s q] [.ptr (.a 0) 0, .str w] (.tup []) [rdC s (wtS s w q)] := by
  have h1 := take_b s w q hsl hw hk
  have hn : tkS s w q = false → tkQ s w q = q := fun h => by unfold tkQ; rw [if_neg (by rw [h]; simp)]
  rw [wtS_eq]
  refine bofp Tryz.func49 ?_
  generalize tkS s w q = b at *
  cases b
  · rw [hn rfl] at h1
    clear hn
    rw [if_neg (by simp)]
    refine bgo ?_
    refine b_callp h1 rfl rfl rfl rfl rfl rfl rfl rfl rfl rfl ?_
    refine bgo ?_
    exact ret_0p rfl (fun k => rfl) rfl
  · clear hn
    rw [if_pos rfl]
    generalize tkQ s w q = q2 at *
    refine bgo ?_
    refine b_callp h1 rfl rfl rfl rfl rfl rfl rfl rfl rfl rfl ?_
    refine bgo ?_
    exact ret_0p rfl (fun k => rfl) rfl
theorem tw_pre {α : Type} (p : α → Bool) : ∀ l : List α, l.take (l.takeWhile p).length = l.takeWhile p
  | [] => rfl
  | a :: l => by
    rw [List.takeWhile_cons]
    split
    · rw [List.length_cons, List.take_succ_cons, tw_pre p l]
    · rfl
theorem tw_len {α : Type} (p : α → Bool) (l : List α) : (l.takeWhile p).length ≤ l.length := by
  have := congrArg List.length (tw_pre p l)
  rw [List.length_take] at this
  omega
theorem word_b (s : Tx) (q : Nat × Bool) (hsl : s.length ≤ 1048576) (hk : q.1 ≤ s.length) : BRet Tryz.prog 88 [rdC s q] [.ptr (.a 0) 0] (.str (wdT s q)) [rdC s (wdS s q)] := by
  obtain ⟨k, bad⟩ := q
  dsimp only at hk
  have hkb : (k : Int) ≤ 1048576 := by omega
  refine bofp Tryz.func88 ?_
  cases bad
  rotate_left
  · have e1 : wdT s (k, true) = [] := rfl
    have e2 : wdS s (k, true) = (k, true) := rfl
    rw [e1, e2]
    have hz : (s.take k).drop k = [] := by rw [List.drop_eq_nil_of_le]; simp; omega
    have hc : k ≤ s.length := hk
    refine bgo ?_
    refine b_lp (ι := Unit) (fun _ => [(0, .ptr (.a 0) 0), (3, .int k)]) (fun _ => [(.a 0, [.str s, .int k, .bool true])]) (fun _ => True) (fun _ => 0) () hs trivial ?_
    rintro - - I nx
    refine bgo ?_
    refine wk_rfl ?_
    refine bgo ?_
    exact ret_1p rfl rfl rfl (fun k => rfl) rfl
  · obtain ⟨W, hW⟩ : ∃ W, Go.RowKit.Hid (wrd s k = W) := ⟨_, rfl⟩
    have e1 : wdT s (k, false) = W := hW.out
    have e2 : wdS s (k, false) = (k + W.length, W.isEmpty) := by unfold wdS; rw [e1]; rfl
    have hpre : Go.RowKit.Hid ((s.drop k).take W.length = W) := by show _ = W; rw [← hW.out]; exact tw_pre wsg _
    have hWl : k + W.length ≤ s.length := by
      have := tw_len wsg (s.drop k)
      have h2 : ((s.drop k).takeWhile wsg).length = W.length := congrArg List.length hW.out
      rw [List.length_drop] at this
      omega
    rw [e1, e2]
    clear e1 e2
    refine bgo ?_
    refine b_lp (ι := Nat) (fun _ => [(0, .ptr (.a 0) 0), (3, .int k)]) (fun i => [(.a 0, [.str s, .int i, .bool false])]) (fun i => k ≤ i ∧ i ≤ k + W.length ∧ (s.drop i).takeWhile wsg = W.drop (i - k)) (fun i => s.length - i) k hs ⟨Nat.le_refl _, Nat.le_add_right _ _, by rw [Nat.sub_self]; exact hW.out⟩ ?_
    clear hW
    rintro i ⟨hi0, hi1, hj⟩ I nx
    have hib : (i : Int) + 1 ≤ 2097152 := by omega
    by_cases hlt : i < s.length
    · have hx : s[i]? = some s[i] := List.getElem?_eq_getElem hlt
      have hlti : (i : Int) < s.length := by omega
      rw [List.drop_eq_getElem_cons hlt, List.takeWhile_cons] at hj
      have hsg := l5Sign_b s[i]
      have hwd : wsg s[i] = (sg s[i] || s[i] == 46) := rfl
      have h46 := u8_46 s[i]
      generalize s[i] = x at *
      by_cases hws : wsg x = true
      · rw [if_pos hws] at hj
        have hne : i - k < W.length := by
          rcases Nat.lt_or_ge (i - k) W.length with h | h
          · exact h
          · rw [List.drop_eq_nil_of_le h] at hj; cases hj
        rw [List.drop_eq_getElem_cons hne] at hj
        have hju : Go.RowKit.Hid ((s.drop (i + 1)).takeWhile wsg = W.drop (i + 1 - k)) := by show _ = _; rw [(List.cons.inj hj).2]; congr 1; omega
        have hin : i + 1 ≤ k + W.length := by omega
        have hi2 : k ≤ i + 1 := by omega
        clear hj hne hpre
        cases hsv : sg x
        · rw [hsv] at hsg hwd
          have hx46 : ((x.toNat : Int) == 46) = true := by
            rw [hwd, Bool.false_or, beq_iff_eq] at hws
            rw [beq_iff_eq]; exact h46.2 hws
          clear hwd h46 hws
          refine bgo ?_
          refine b_call hsg rfl rfl rfl rfl ?_
          refine bgo ?_
          exact nx.go (i + 1) ⟨hi2, hin, hju.out⟩ (by omega) hs
        · rw [hsv] at hsg
          clear hwd h46 hws
          refine bgo ?_
          refine b_call hsg rfl rfl rfl rfl ?_
          refine bgo ?_
          exact nx.go (i + 1) ⟨hi2, hin, hju.out⟩ (by omega) hs
      · rw [if_neg hws] at hj
        have hEQ : i = k + W.length := by
          rcases Nat.lt_or_ge (i - k) W.length with h | h
          · rw [List.drop_eq_getElem_cons h] at hj; cases hj
          · omega
        have hsv : sg x = false := by
          cases h : sg x
          · rfl
          · rw [hwd, h] at hws; exact absurd rfl hws
        have hx46 : ((x.toNat : Int) == 46) = false := by
          rw [beq_eq_false_iff_ne]
          intro h
          rw [hwd, h46.1 h] at hws
          exact hws (by simp)
        rw [hsv] at hsg
        clear hj hwd h46 hws hsv nx
        by_cases hW0 : W.length = 0
        · have e3 : W = [] := List.length_eq_zero_iff.1 hW0
          have e4 : W.isEmpty = true := by rw [e3]; rfl
          rw [e4]
          have e5 : k + W.length = k := by omega
          rw [e5] at hEQ ⊢
          rw [hW0] at hpre
          replace hpre : Go.RowKit.Hid ((s.take (k + 0)).drop k = W) := by show _ = W; rw [← List.take_drop]; exact hpre.out
          have hp2 := hpre.out
          rw [Nat.add_zero] at hp2
          subst hEQ
          clear hpre e3 hW0 e4 e5
          refine bgo ?_
          refine b_call hsg rfl rfl rfl rfl ?_
          refine bgo ?_
          refine wk_rfl ?_
          refine bgo ?_
          exact ret_1p rfl rfl rfl (fun k => rfl) rfl
        · have e4 : W.isEmpty = false := by
            cases W with
            | nil => exact absurd rfl hW0
            | cons a b => rfl
          rw [e4]
          have hp2 : (s.take (k + W.length)).drop k = W := by rw [← List.take_drop]; exact hpre.out
          have hne : ¬ ((k + W.length : Nat) : Int) = k := by omega
          have hne2 : (((k + W.length : Nat) : Int) == k) = false := by rw [beq_eq_false_iff_ne]; exact hne
          have hle : k ≤ k + W.length := by omega
          have hle2 : (k : Int) ≤ ((k + W.length : Nat) : Int) := by omega
          subst hEQ
          generalize k + W.length = m at *
          clear hpre hW0 e4
          refine bgo ?_
          refine b_call hsg rfl rfl rfl rfl ?_
          refine bgo ?_
          refine wk_rfl ?_
          refine bgo ?_
          exact ret_1p rfl rfl rfl (fun k => rfl) rfl
    · have hEQ : i = k + W.length := by
        have h0 : s.length ≤ i := by omega
        omega
      clear hj nx
      by_cases hW0 : W.length = 0
      · have e3 : W = [] := List.length_eq_zero_iff.1 hW0
        have e4 : W.isEmpty = true := by rw [e3]; rfl
        rw [e4]
        have e5 : k + W.length = k := by omega
        rw [e5] at hEQ ⊢
        rw [hW0] at hpre
        replace hpre : Go.RowKit.Hid ((s.take (k + 0)).drop k = W) := by show _ = W; rw [← List.take_drop]; exact hpre.out
        have hp2 := hpre.out
        rw [Nat.add_zero] at hp2
        subst hEQ
        clear hpre e3 hW0 e4 e5
        refine bgo ?_
        refine wk_rfl ?_
        refine bgo ?_
        exact ret_1p rfl rfl rfl (fun k => rfl) rfl
      · have e4 : W.isEmpty = false := by
          cases W with
          | nil => exact absurd rfl hW0
          | cons a b => rfl
        rw [e4]
        have hp2 : (s.take (k + W.length)).drop k = W := by rw [← List.take_drop]; exact hpre.out
        have hne : ¬ ((k + W.length : Nat) : Int) = k := by omega
        have hne2 : (((k + W.length : Nat) : Int) == k) = false := by rw [beq_eq_false_iff_ne]; exact hne
        have hle : k ≤ k + W.length := by omega
        have hle2 : (k : Int) ≤ ((k + W.length : Nat) : Int) := by omega
        subst hEQ
        generalize k + W.length = m at *
        clear hpre hW0 e4
        refine bgo ?_
        refine wk_rfl ?_
        refine bgo ?_
        exact ret_1p rfl rfl rfl (fun k => rfl) rfl
theorem wdS_le (s : Tx) (q : Nat × Bool) (hk : q.1 ≤ s.length) : (wdS s q).1 ≤ s.length := by
  unfold wdS wdT wrd
  dsimp only
  split
  · exact hk
  · have := tw_len wsg (s.drop q.1)
    rw [List.length_drop] at this
    omega
theorem party_b (s : Tx) (q : Nat × Bool) (l : List Tx) (hsl : s.length ≤ 1048576) (hk : q.1 ≤ s.length) (hlb : l.length ≤ 4) : BRet Tryz.prog 87 [rdC s q] [.ptr (.a 0) 0, .d (.sl 1 (l.map .str))] (.int (ptR l (wdT s q))) [rdC s (ptS s l q)] := by
  have h1 := word_b s q hsl hk
  have hS : ptS s l q = ((wdS s q).1, (wdS s q).2 || decide (ptI l (wdT s q) < 0)) := rfl
  rw [hS]
  clear hS
  refine bofp Tryz.func87 ?_
  generalize wdT s q = w at *
  generalize wdS s q = q2 at *
  obtain ⟨k2, b2⟩ := q2
  obtain ⟨r, hr⟩ : ∃ r, Go.RowKit.Hid (ptI l w = r) := ⟨_, rfl⟩
  have hR : ptR l w = if r < 0 then 0 else r := by unfold ptR; rw [hr.out]
  rw [hR, hr.out]
  clear hR
  dsimp only
  refine bgo ?_
  refine b_callp h1 rfl rfl rfl rfl rfl rfl rfl rfl rfl rfl ?_
  refine bgo ?_
  refine b_lp (ι := Nat × Unit) (fun i => [(0, .ptr (.a 0) 0), (1, .d (.sl 1 (l.map .str))), (5, .str w), (6, .int i.1)]) (fun _ => [(.a 0, [.str s, .int k2, .bool b2])]) (fun i => i.1 ≤ l.length ∧ idx (fun x => x == w) (l.drop i.1) i.1 = r) (fun i => l.length - i.1) (0, ()) hs ⟨Nat.zero_le _, hr.out⟩ ?_
  clear hr
  rintro ⟨i, u⟩ ⟨hi, hj⟩ I nx
  dsimp only at hi hj ⊢
  by_cases hlt : i < l.length
  · have hx : l[i]? = some l[i] := List.getElem?_eq_getElem hlt
    have hb : (i : Int) + 1 ≤ 100 := by omega
    rw [idx_step hlt] at hj
    generalize l[i] = x at *
    by_cases he : x = w
    · subst he
      rw [if_pos (by simp)] at hj
      subst hj
      have hn : ¬ ((i : Int) < 0) := by omega
      rw [if_neg hn, decide_eq_false hn, Bool.or_false]
      refine bgo ?_
      exact ret_1p rfl rfl rfl (fun k => rfl) rfl
    · rw [if_neg (by simpa using he)] at hj
      have hju : Go.RowKit.Hid (idx (fun x => x == w) (l.drop (i + 1)) (i + 1) = r) := hj
      have q1 : (x == w) = false := by rw [beq_eq_false_iff_ne]; exact he
      clear hj
      refine bgo ?_
      exact nx.go (i + 1, ()) ⟨hlt, hju.out⟩ (by dsimp only; omega) hs
  · have hk' : i = l.length := by omega
    subst hk'
    rw [List.drop_length, idx] at hj
    subst hj
    rw [if_pos (by decide), decide_eq_true (by decide), Bool.or_true]
    clear nx
    refine bgo ?_
    refine wk_rfl ?_
    refine bgo ?_
    exact ret_1p rfl rfl rfl (fun k => rfl) rfl
theorem amount_b (s : Tx) (q : Nat × Bool) (hsl : s.length ≤ 1048576) (hk : q.1 ≤ s.length) : BRet Tryz.prog 89 [rdC s q] [.ptr (.a 0) 0] (.int (dV (sAmt (wdT s q)))) [rdC s (amS s q)] := by
  have h1 := word_b s q hsl hk
  have h2 := specParseAmount_b (wdT s q)
  have hS : amS s q = ((wdS s q).1, (wdS s q).2 || (sAmt (wdT s q)).isNone) := rfl
  rw [hS]
  clear hS
  refine bofp Tryz.func89 ?_
  generalize wdT s q = w at *
  generalize wdS s q = q2 at *
  obtain ⟨k2, b2⟩ := q2
  generalize sAmt w = o at *
  dsimp only
  cases o with
  | none =>
    simp only [Option.isNone_none, Bool.or_true]
    simp only [Option.isSome_none] at h2
    refine bgo ?_
    refine b_callp h1 rfl rfl rfl rfl rfl rfl rfl rfl rfl rfl ?_
    refine bgo ?_
    refine b_call h2 rfl rfl rfl rfl ?_
    refine bgo ?_
    exact ret_1p rfl rfl rfl (fun k => rfl) rfl
  | some x =>
    simp only [Option.isNone_some, Bool.or_false]
    simp only [Option.isSome_some] at h2
    refine bgo ?_
    refine b_callp h1 rfl rfl rfl rfl rfl rfl rfl rfl rfl rfl ?_
    refine bgo ?_
    refine b_call h2 rfl rfl rfl rfl ?_
    refine bgo ?_
    exact ret_1p rfl rfl rfl (fun k => rfl) rfl
theorem bEv2 : ∀ (d p : Int), evBuild Tryz.prog 25 [(0, .d (.int .i64 d)), (1, .d (.int .i64 p))] = some (.agg [.d (.int .i64 d), .d (.int .i64 p), .d (.str []), .d (.int .i64 0)]) := fun d p => by kernel_rfl
theorem bRd : ∀ (s : Tx) (k : Int) (b : Bool), evBuild Tryz.prog 69 [(0, .d (.str s)), (1, .d (.int .i64 k)), (2, .d (.bool b))] = some (.agg [.d (.str s), .d (.int .i64 k), .d (.bool b)]) := fun s k b => by kernel_rfl
end Go.Bee.C24s
namespace Go.Bee.C24t
theorem tys : type_of% (And.intro Go.Bee.C24s.tys (And.intro Go.Bee.C24s.bEv2 Go.Bee.C24s.bRd)) := And.intro Go.Bee.C24s.tys (And.intro Go.Bee.C24s.bEv2 Go.Bee.C24s.bRd)
end Go.Bee.C24t
namespace Go.Bee.C24t
open Go Go.Bee Go.Proofs Go.Bee.Ty Go.Bee.C23 Go.Bee.C23s Go.Bee.Da Go.Bee.C24 Go.Bee.C24c Go.Bee.C24d Go.Bee.C24r Go.Bee.C24s
set_option linter.unusedVariables false
set_option maxRecDepth 20000
attribute [local irreducible] Go.Bee.bwp
theorem fin_all {s : Tx} {l : List Tx} {e : Ev4} {F : Bool} {o : Option Ev4} (h : finE txE s l (e, F) = o) : (F = true → o = none) ∧ (F = false → okE l e = false → o = none) ∧ (F = false → okE l e = true → txE l e ≠ s → o = none) ∧ (F = false → okE l e = true → txE l e = s → o = some e) :=
  ⟨fun k => by rw [← h]; exact fin_no (.inl k), fun _ k => by rw [← h]; exact fin_no (.inr (.inl k)), fun _ _ k => by rw [← h]; exact fin_no (.inr (.inr k)), fun k1 k2 k3 => by rw [← h]; exact fin_yes k1 k2 k3⟩
theorem ptR_nn (l : List Tx) (w : Tx) : 0 ≤ ptR l w := by unfold ptR; split <;> omega
theorem l7ReadEvent_b (s : Tx) (l : List Tx) (hsl : s.length ≤ 1048576) (hk : parOk l = true) : BRet Tryz.prog 37 [] [.str s, .d (.sl 1 (l.map .str))]
    (.tup [.agg [.int (ev0 (finE txE s l (sRd s l))).d, .int (ev0 (finE txE s l (sRd s l))).p, .str (ev0 (finE txE s l (sRd s l))).a, .int (ev0 (finE txE s l (sRd s l))).am], .bool (finE txE s l (sRd s l)).isSome]) [] := by
  obtain ⟨o, ho⟩ : ∃ o, Go.RowKit.Hid (finE txE s l (sRd s l) = o) := ⟨_, rfl⟩
  rw [ho.out]
  refine bof Tryz.func37 ?_
  have hpl : 2 ≤ l.length ∧ l.length ≤ 4 := by
    unfold parOk inB at hk
    simp only [Bool.and_eq_true, decide_eq_true_eq] at hk
    omega
  by_cases h11 : (s.length : Int) < 11
  · obtain rfl : o = none := by rw [← ho.out]; unfold sRd; rw [if_pos (by omega)]; exact fin_no (.inl rfl)
    refine bgo ?_
    exact ret_ct rfl rfl rfl ty25 rfl rfl rfl rfl rfl (fun k => rfl)
  have hl11 : ¬ s.length < 11 := by omega
  have b10 : 10 ≤ s.length := by omega
  unfold sRd at ho
  rw [if_neg hl11] at ho
  have h1 := specParseDate_b (s.take 10)
  have hD : (sDate (s.take 10)).getD 0 = dV (sDate (s.take 10)) := rfl
  rw [hD] at ho
  clear hD hl11
  dsimp only at ho
  have hN : (sDate (s.take 10)).isNone = !(sDate (s.take 10)).isSome := by cases sDate (s.take 10) <;> rfl
  rw [hN] at ho
  clear hN
  generalize dV (sDate (s.take 10)) = D at *
  generalize (sDate (s.take 10)).isSome = D2 at *
  have h2 := want_b s [32] (10, !D2) hsl (by decide) (by dsimp only; omega)
  have hk1 := wtS_le s [32] (10, !D2) (by dsimp only; omega)
  generalize wtS s [32] (10, !D2) = q1 at *
  have h3 := party_b s q1 l hsl hk1 hpl.2
  have hpn := ptR_nn l (wdT s q1)
  have hk2 : (ptS s l q1).1 ≤ s.length := wdS_le s q1 hk1
  generalize ptR l (wdT s q1) = P at *
  generalize ptS s l q1 = q2 at *
  have h4 := want_b s t_sdoes q2 hsl (by decide) hk2
  have hk3 := wtS_le s t_sdoes q2 hk2
  generalize wtS s t_sdoes q2 = q3 at *
  have h5 := word_b s q3 hsl hk3
  have hk4 := wdS_le s q3 hk3
  generalize wdT s q3 = A at *
  generalize wdS s q3 = q4 at *
  have h6 := take_b s t_spay q4 hsl (by decide) hk4
  have hk5 := tkQ_le s t_spay q4 hk4
  generalize tkS s t_spay q4 = b5 at *
  generalize tkQ s t_spay q4 = q5 at *
  have h7 := amount_b s q5 hsl hk5
  have hk6 : (amS s q5).1 ≤ s.length := wdS_le s q5 hk5
  have hM : (sAmt (wdT s q5)).getD 0 = dV (sAmt (wdT s q5)) := rfl
  rw [hM] at ho
  clear hM
  generalize dV (sAmt (wdT s q5)) = M at *
  generalize amS s q5 = q6 at *
  have hlb : l.length ≤ 140737488355328 := by omega
  have hisE := fun M => l8Event_b D P A M l.length (by omega) (by omega)
  refine bgo ?_
  refine b_call h1 rfl rfl rfl rfl ?_
  refine bgo ?_
  refine b_callp h2 rfl rfl rfl rfl rfl rfl rfl rfl rfl rfl ?_
  refine bgo ?_
  refine b_callp h3 rfl rfl rfl rfl rfl rfl rfl rfl rfl rfl ?_
  refine bgo ?_
  refine b_callp h4 rfl rfl rfl rfl rfl rfl rfl rfl rfl rfl ?_
  refine bgo ?_
  refine b_callp h5 rfl rfl rfl rfl rfl rfl rfl rfl rfl rfl ?_
  refine bgo ?_
  refine b_callp h6 rfl rfl rfl rfl rfl rfl rfl rfl rfl rfl ?_
  clear h1 h2 h3 h4 h5 h6 hk1 hk2 hk3 hk4
  cases b5
  · simp only [Bool.false_eq_true, if_false] at ho
    have hisE := hisE 0
    change BRet Tryz.prog 55 [] _ (.bool (okE l ⟨D, P, A, 0⟩)) [] at hisE
    obtain ⟨kk, bb⟩ := q5
    have fin := fin_all ho.out
    clear ho
    clear h7
    cases bb
    rotate_left
    · obtain rfl := fin.1 (by simp)
      refine bgo ?_
      exact ret_ct rfl rfl rfl ty25 rfl rfl rfl rfl rfl (fun k => rfl)
    by_cases hl : (kk : Int) = s.length
    rotate_left
    · have hne : ((kk : Int) != s.length) = true := by rw [bne_iff_ne]; exact hl
      have hn2 : kk ≠ s.length := by omega
      obtain rfl := fin.1 (by rw [decide_eq_true hn2]; rfl)
      clear hn2 hl
      refine bgo ?_
      exact ret_ct rfl rfl rfl ty25 rfl rfl rfl rfl rfl (fun k => rfl)
    have hne : ((kk : Int) != s.length) = false := by rw [hl]; exact bne_self_eq_false _
    have hn2 : (false || decide (kk ≠ s.length)) = false := by rw [decide_eq_false (by omega)]; rfl
    rw [hn2] at fin
    clear hn2 hl
    cases hok : okE l ⟨D, P, A, 0⟩
    · obtain rfl := fin.2.1 rfl hok
      rw [hok] at hisE
      refine bgo ?_
      refine b_call hisE rfl rfl rfl rfl ?_
      refine bgo ?_
      exact ret_ct rfl rfl rfl ty25 rfl rfl rfl rfl rfl (fun k => rfl)
    rw [hok] at hisE
    obtain ⟨k, rfl⟩ : ∃ k : Nat, P = k := ⟨P.toNat, by omega⟩
    have htx := l7Event_b D k A 0 l hk hok
    have e1 : txE l ⟨D, k, A, 0⟩ = evX D (l.getD k []) A 0 := rfl
    rw [e1] at fin
    generalize evX D (l.getD k []) A 0 = T at *
    clear e1
    by_cases he : T = s
    · obtain rfl := fin.2.2.2 rfl hok he
      clear fin
      subst he
      refine bgo ?_
      refine b_call hisE rfl rfl rfl rfl ?_
      refine bgo ?_
      refine b_call htx rfl rfl rfl rfl ?_
      refine bgo ?_
      exact ret_ct rfl rfl rfl ty25 rfl rfl rfl rfl rfl (fun k => rfl)
    · obtain rfl := fin.2.2.1 rfl hok he
      clear fin
      refine bgo ?_
      refine b_call hisE rfl rfl rfl rfl ?_
      refine bgo ?_
      refine b_call htx rfl rfl rfl rfl ?_
      refine bgo ?_
      exact ret_ct rfl rfl rfl ty25 rfl rfl rfl rfl rfl (fun k => rfl)
  · simp only [if_true] at ho
    have hisE := hisE M
    change BRet Tryz.prog 55 [] _ (.bool (okE l ⟨D, P, A, M⟩)) [] at hisE
    obtain ⟨kk, bb⟩ := q6
    have fin := fin_all ho.out
    clear ho
    refine bgo ?_
    refine b_callp h7 rfl rfl rfl rfl rfl rfl rfl rfl rfl rfl ?_
    cases bb
    rotate_left
    · obtain rfl := fin.1 (by simp)
      refine bgo ?_
      exact ret_ct rfl rfl rfl ty25 rfl rfl rfl rfl rfl (fun k => rfl)
    by_cases hl : (kk : Int) = s.length
    rotate_left
    · have hne : ((kk : Int) != s.length) = true := by rw [bne_iff_ne]; exact hl
      have hn2 : kk ≠ s.length := by omega
      obtain rfl := fin.1 (by rw [decide_eq_true hn2]; rfl)
      clear hn2 hl
      refine bgo ?_
      exact ret_ct rfl rfl rfl ty25 rfl rfl rfl rfl rfl (fun k => rfl)
    have hne : ((kk : Int) != s.length) = false := by rw [hl]; exact bne_self_eq_false _
    have hn2 : (false || decide (kk ≠ s.length)) = false := by rw [decide_eq_false (by omega)]; rfl
    rw [hn2] at fin
    clear hn2 hl
    cases hok : okE l ⟨D, P, A, M⟩
    · obtain rfl := fin.2.1 rfl hok
      rw [hok] at hisE
      refine bgo ?_
      refine b_call hisE rfl rfl rfl rfl ?_
      refine bgo ?_
      exact ret_ct rfl rfl rfl ty25 rfl rfl rfl rfl rfl (fun k => rfl)
    rw [hok] at hisE
    obtain ⟨k, rfl⟩ : ∃ k : Nat, P = k := ⟨P.toNat, by omega⟩
    have htx := l7Event_b D k A M l hk hok
    have e1 : txE l ⟨D, k, A, M⟩ = evX D (l.getD k []) A M := rfl
    rw [e1] at fin
    generalize evX D (l.getD k []) A M = T at *
    clear e1
    by_cases he : T = s
    · obtain rfl := fin.2.2.2 rfl hok he
      clear fin
      subst he
      refine bgo ?_
      refine b_call hisE rfl rfl rfl rfl ?_
      refine bgo ?_
      refine b_call htx rfl rfl rfl rfl ?_
      refine bgo ?_
      exact ret_ct rfl rfl rfl ty25 rfl rfl rfl rfl rfl (fun k => rfl)
    · obtain rfl := fin.2.2.1 rfl hok he
      clear fin
      refine bgo ?_
      refine b_call hisE rfl rfl rfl rfl ?_
      refine bgo ?_
      refine b_call htx rfl rfl rfl rfl ?_
      refine bgo ?_
      exact ret_ct rfl rfl rfl ty25 rfl rfl rfl rfl rfl (fun k => rfl)
theorem rd_agree (s : Tx) (l : List Tx) : rdE s l (sRd s l) = rdE s l (iRd l (splitC 32 s)) := by
  unfold rdE
  split
  · rename_i hk
    exact fin_agree (fun e h1 h2 => by rw [← h2]; exact sRd_ok hk h1) (fun e h1 h2 => by rw [← h2]; exact iRd_ok hk h1)
  · rfl
end Go.Bee.C24t


namespace Go.Bee.C24e
open Go Go.Bee Go.Proofs Go.Bee.Ty Go.Bee.C23 Go.Bee.C23s Go.Bee.Da Go.Bee.C24 Go.Bee.C24c Go.Bee.C24d Go.Bee.C24r Go.Bee.C24s Go.Bee.C24t
set_option linter.unusedVariables false
set_option maxRecDepth 20000
def t_On : Tx := [79, 110, 32]
def t_cs : Tx := [44, 32]
def t_did : Tx := [32, 100, 105, 100, 32]
def t_paid : Tx := [32, 97, 110, 100, 32, 112, 97, 105, 100, 32]
def txT (l : List Tx) (e : Ev4) : Tx := evT e.d (l.getD e.p.toNat []) e.a e.am
def pfx (r w : Tx) : Bool := decide (r.take w.length = w)
def cut (r w : Tx) : Tx := if pfx r w = true then r.drop w.length else r
def notIn (cs : Tx) (b : UInt8) : Bool := !cs.contains b
def upW (cs r : Tx) : Tx := r.takeWhile (notIn cs)
def upR (cs r : Tx) : Tx := r.drop (upW cs r).length
def trimD (r : Tx) : Tx := if r.getLast? = some 46 then r.dropLast else r
def iRdT (s : Tx) (l : List Tx) : Ev4 × Bool :=
  let r1 := cut s t_On
  let r2 := upR [44] r1
  let r3 := cut r2 t_cs
  let f2 := !pfx r2 t_cs || (!pfx s t_On || false)
  let i := idx (fun x => upW [32, 44] r3 == x) l 0
  let f3 := f2 || decide (i < 0)
  let r4 := upR [32, 44] r3
  let r5 := cut r4 t_did
  let f4 := !pfx r4 t_did || f3
  let r6 := upR [32, 46] r5
  (⟨dV (iDate (upW [44] r1)), max 0 i, upW [32, 46] r5, if pfx r6 t_paid = true then dV (iAmt (trimD (cut r6 t_paid))) else 0⟩, f4)
def plT (s : Tx) (q : Nat × Bool) : Tx := if q.2 = true then [] else (s.drop q.1).takeWhile sg
def plS (s : Tx) (q : Nat × Bool) : Nat × Bool := (q.1 + (plT s q).length, q.2)
def naS (s : Tx) (l : List Tx) (q : Nat × Bool) : Nat × Bool := ((plS s q).1, q.2 || decide (ptI l (plT s q) < 0))
def isDg (b : UInt8) : Bool := decide (48 ≤ b.toNat ∧ b.toNat ≤ 57)
def moT (s : Tx) (q : Nat × Bool) : Tx := if q.2 = true then [] else (s.drop q.1).takeWhile isDg
def moX (s : Tx) (q : Nat × Bool) : Bool := q.2 || decide (q.1 + (moT s q).length + 3 > s.length)
def moW (s : Tx) (q : Nat × Bool) : Tx := (s.drop q.1).take ((moT s q).length + 3)
def moS (s : Tx) (q : Nat × Bool) : Nat × Bool := if moX s q = true then (q.1 + (moT s q).length, true) else (q.1 + (moT s q).length + 3, (sAmt (moW s q)).isNone)
def moR (s : Tx) (q : Nat × Bool) : Int := if moX s q = true then 0 else dV (sAmt (moW s q))
def sRdT (s : Tx) (l : List Tx) : Ev4 × Bool :=
  if ¬ (14 ≤ s.length ∧ s.length ≤ 4000) then (⟨0, 0, [], 0⟩, true) else
    let q1 := wtS s t_On (0, false)
    let o := sDate ((s.drop 3).take 10)
    let q2 := wtS s t_cs (13, q1.2 || !o.isSome)
    let q3 := wtS s t_did (naS s l q2)
    let q4 := plS s q3
    let b5 := tkS s t_paid q4
    let q5 := tkQ s t_paid q4
    let q7 := wtS s [46] (if b5 = true then moS s q5 else q5)
    (⟨dV o, ptR l (plT s q2), plT s q3, if b5 = true then moR s q5 else 0⟩, q7.2 || decide (q7.1 ≠ s.length))
end Go.Bee.C24e


namespace Go.Bee.C24e
open Go Go.Bee Go.Proofs Go.Bee.Ty Go.Bee.C23 Go.Bee.C23s Go.Bee.Da Go.Bee.C24 Go.Bee.C24c Go.Bee.C24d Go.Bee.C24r Go.Bee.C24s Go.Bee.C24t
theorem bCr : ∀ s : Tx, evBuild Tryz.prog 73 [(0, .d (.str s))] = some (.agg [.d (.str s), .d (.int .i64 0), .d (.bool false)]) := fun s => by kernel_rfl
theorem tys : type_of% (And.intro Go.Bee.C24t.tys bCr) := And.intro Go.Bee.C24t.tys bCr
end Go.Bee.C24e
namespace Go.Bee.C24e
open Go Go.Bee Go.Proofs Go.Bee.Ty Go.Bee.C23 Go.Bee.C23s Go.Bee.Da Go.Bee.C24 Go.Bee.C24c Go.Bee.C24d Go.Bee.C24r Go.Bee.C24s Go.Bee.C24t
set_option linter.unusedVariables false
set_option maxRecDepth 20000
attribute [local irreducible] Go.Bee.bwp
def IdxA (cs r : Tx) : Prop := BRet Tryz.prog 113 [] [.str r, .str cs] (.int (Lib.indexAny r cs)) []
abbrev crC (r : Tx) (f : Bool) : List PV := [.str r, .int 0, .bool f]
def rdT (s : Tx) (l : List Tx) (q : Ev4 × Bool) : Option Ev4 := if parOk l = true then finE txT s l q else none
end Go.Bee.C24e


namespace Go.Bee.C24f
open Go Go.Bee Go.Proofs Go.Bee.Ty Go.Bee.C23 Go.Bee.C23s Go.Bee.Da Go.Bee.C24 Go.Bee.C24c Go.Bee.C24d Go.Bee.C24r Go.Bee.C24s Go.Bee.C24t Go.Bee.C24e
theorem bRd1 : ∀ s : Tx, evBuild Tryz.prog 69 [(0, .d (.str s))] = some (.agg [.d (.str s), .d (.int .i64 0), .d (.bool false)]) := fun s => by kernel_rfl
theorem tys : type_of% (And.intro Go.Bee.C24e.tys bRd1) := And.intro Go.Bee.C24e.tys bRd1
end Go.Bee.C24f
namespace Go.Bee.C24f
open Go Go.Bee Go.Proofs Go.Bee.Ty Go.Bee.C23 Go.Bee.C23s Go.Bee.Da Go.Bee.C24 Go.Bee.C24c Go.Bee.C24d Go.Bee.C24r Go.Bee.C24s Go.Bee.C24t Go.Bee.C24e
set_option linter.unusedVariables false
set_option maxRecDepth 20000
attribute [local irreducible] Go.Bee.bwp
end Go.Bee.C24f

