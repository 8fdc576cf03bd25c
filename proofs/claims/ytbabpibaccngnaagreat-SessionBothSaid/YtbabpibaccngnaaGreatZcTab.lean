/- The told functions in a table, and the program they are of. -/
import Derived.Test.YtbabpibaccngnaaGreatZcCode1
import Derived.Test.YtbabpibaccngnaaGreatZcCode2
import Derived.Test.YtbabpibaccngnaaGreatZcCodeG
import Derived.Test.YtbabpibaccngnaaGreatZv6
import Derived.KernelRfl
set_option linter.unusedSimpArgs false
set_option linter.unusedVariables false
namespace Go.Proofs.YtbabpibaccngnaaGreat
open Go.Vs
set_option maxRecDepth 100000

def CX.M : TypeId → String → Option (FuncId × Option Nat)
  | 139, "Pub" => some (243, some 0)
  | 139, "Dh" => some (241, some 0)
  | 139, "Seal" => some (244, some 0)
  | 139, "Hash" => some (246, none)
  | 139, "Keys" => some (247, none)
  | 139, "Open" => some (248, none)
  | _, _ => none
noncomputable def CX : X := ⟨Tryz.prog, fun _ => [], CX.M⟩
theorem CX.m0 : ckM CX.P 139 "Pub" 243 (some 0) = true := by kernel_rfl
theorem CX.m1 : ckM CX.P 139 "Dh" 241 (some 0) = true := by kernel_rfl
theorem CX.m2 : ckM CX.P 139 "Seal" 244 (some 0) = true := by kernel_rfl
theorem CX.m3 : ckM CX.P 139 "Hash" 246 (none) = true := by kernel_rfl
theorem CX.m4 : ckM CX.P 139 "Keys" 247 (none) = true := by kernel_rfl
theorem CX.m5 : ckM CX.P 139 "Open" 248 (none) = true := by kernel_rfl
theorem CX.ok : XOk CX := fun t m f p h => by
  have h' : CX.M t m = some (f, p) := h
  unfold CX.M at h'
  split at h'
  · cases h'; exact CX.m0
  · cases h'; exact CX.m1
  · cases h'; exact CX.m2
  · cases h'; exact CX.m3
  · cases h'; exact CX.m4
  · cases h'; exact CX.m5
  · cases h'
theorem CX.low : XLow CX := fun g c hc => by cases hc
theorem CX.gr (W : World) : GR CX (frzE W) := fun g => .fp [] 0 g 0 (fun _ => .pointer none) (fun j hj => by simp [CX] at hj) (fun j hj => by simp [CX] at hj) (fun j hj => by simp [CX] at hj)
def CX.tf : TrF := (.node 107 (.node 49 (.node 33 (.node 15 (.node 11 (.node 3 (.leaf 3 F3) (.node 4 (.leaf 4 F4) (.leaf 11 F11))) (.node 13 (.node 12 (.leaf 12 F12) (.leaf 13 F13)) (.node 14 (.leaf 14 F14) (.leaf 15 F15)))) (.node 18 (.node 16 (.leaf 16 F16) (.node 17 (.leaf 17 F17) (.leaf 18 F18))) (.node 21 (.node 20 (.leaf 20 F20) (.leaf 21 F21)) (.node 32 (.leaf 32 F32) (.leaf 33 F33))))) (.node 41 (.node 36 (.node 34 (.leaf 34 F34) (.node 35 (.leaf 35 F35) (.leaf 36 F36))) (.node 39 (.node 37 (.leaf 37 F37) (.leaf 39 F39)) (.node 40 (.leaf 40 F40) (.leaf 41 F41)))) (.node 45 (.node 43 (.node 42 (.leaf 42 G42) (.leaf 43 F43)) (.node 44 (.leaf 44 F44) (.leaf 45 F45))) (.node 47 (.node 46 (.leaf 46 F46) (.leaf 47 F47)) (.node 48 (.leaf 48 F48) (.leaf 49 F49)))))) (.node 89 (.node 80 (.node 63 (.node 50 (.leaf 50 F50) (.node 51 (.leaf 51 F51) (.leaf 63 G63))) (.node 78 (.node 67 (.leaf 67 G67) (.leaf 78 F78)) (.node 79 (.leaf 79 F79) (.leaf 80 F80)))) (.node 85 (.node 82 (.node 81 (.leaf 81 F81) (.leaf 82 F82)) (.node 83 (.leaf 83 F83) (.leaf 85 F85))) (.node 87 (.node 86 (.leaf 86 F86) (.leaf 87 F87)) (.node 88 (.leaf 88 F88) (.leaf 89 F89))))) (.node 96 (.node 92 (.node 90 (.leaf 90 G90) (.node 91 (.leaf 91 F91) (.leaf 92 F92))) (.node 94 (.node 93 (.leaf 93 F93) (.leaf 94 F94)) (.node 95 (.leaf 95 F95) (.leaf 96 F96)))) (.node 100 (.node 98 (.node 97 (.leaf 97 F97) (.leaf 98 F98)) (.node 99 (.leaf 99 F99) (.leaf 100 F100))) (.node 102 (.node 101 (.leaf 101 F101) (.leaf 102 F102)) (.node 105 (.leaf 105 G105) (.leaf 107 F107))))))) (.node 164 (.node 141 (.node 133 (.node 129 (.node 108 (.leaf 108 G108) (.node 128 (.leaf 128 F128) (.leaf 129 F129))) (.node 131 (.node 130 (.leaf 130 F130) (.leaf 131 F131)) (.node 132 (.leaf 132 F132) (.leaf 133 F133)))) (.node 137 (.node 135 (.node 134 (.leaf 134 F134) (.leaf 135 F135)) (.node 136 (.leaf 136 F136) (.leaf 137 F137))) (.node 139 (.node 138 (.leaf 138 F138) (.leaf 139 F139)) (.node 140 (.leaf 140 F140) (.leaf 141 G141))))) (.node 149 (.node 145 (.node 143 (.leaf 143 F143) (.node 144 (.leaf 144 F144) (.leaf 145 F145))) (.node 147 (.node 146 (.leaf 146 F146) (.leaf 147 G147)) (.node 148 (.leaf 148 G148) (.leaf 149 G149)))) (.node 160 (.node 151 (.node 150 (.leaf 150 G150) (.leaf 151 G151)) (.node 159 (.leaf 159 F159) (.leaf 160 F160))) (.node 162 (.node 161 (.leaf 161 F161) (.leaf 162 F162)) (.node 163 (.leaf 163 F163) (.leaf 164 F164)))))) (.node 192 (.node 172 (.node 168 (.node 165 (.leaf 165 F165) (.node 167 (.leaf 167 G167) (.leaf 168 G168))) (.node 170 (.node 169 (.leaf 169 G169) (.leaf 170 F170)) (.node 171 (.leaf 171 F171) (.leaf 172 F172)))) (.node 183 (.node 176 (.node 174 (.leaf 174 F174) (.leaf 176 F176)) (.node 178 (.leaf 178 G178) (.leaf 183 F183))) (.node 185 (.node 184 (.leaf 184 F184) (.leaf 185 F185)) (.node 186 (.leaf 186 F186) (.leaf 192 F192))))) (.node 218 (.node 202 (.node 196 (.leaf 196 F196) (.node 197 (.leaf 197 F197) (.leaf 202 F202))) (.node 210 (.node 203 (.leaf 203 F203) (.leaf 210 F210)) (.node 216 (.leaf 216 F216) (.leaf 218 F218)))) (.node 244 (.node 242 (.node 241 (.leaf 241 F241) (.leaf 242 F242)) (.node 243 (.leaf 243 F243) (.leaf 244 F244))) (.node 246 (.node 245 (.leaf 245 F245) (.leaf 246 F246)) (.node 247 (.leaf 247 F247) (.leaf 248 F248))))))))
def CX.ts : TrF := (.node 38 (.leaf 38 F38) (.node 126 (.leaf 126 F126) (.leaf 166 G166)))
theorem CX.tf_ok : CX.tf.Ok fun g F => ckF CX.P g F = true ∧ K.stC F.c = true := ⟨⟨⟨⟨⟨⟨⟨ck3, st3⟩, ⟨⟨ck4, st4⟩, ⟨ck11, st11⟩⟩⟩, ⟨⟨⟨ck12, st12⟩, ⟨ck13, st13⟩⟩, ⟨⟨ck14, st14⟩, ⟨ck15, st15⟩⟩⟩⟩, ⟨⟨⟨ck16, st16⟩, ⟨⟨ck17, st17⟩, ⟨ck18, st18⟩⟩⟩, ⟨⟨⟨ck20, st20⟩, ⟨ck21, st21⟩⟩, ⟨⟨ck32, st32⟩, ⟨ck33, st33⟩⟩⟩⟩⟩, ⟨⟨⟨⟨ck34, st34⟩, ⟨⟨ck35, st35⟩, ⟨ck36, st36⟩⟩⟩, ⟨⟨⟨ck37, st37⟩, ⟨ck39, st39⟩⟩, ⟨⟨ck40, st40⟩, ⟨ck41, st41⟩⟩⟩⟩, ⟨⟨⟨⟨ckG42, stG42⟩, ⟨ck43, st43⟩⟩, ⟨⟨ck44, st44⟩, ⟨ck45, st45⟩⟩⟩, ⟨⟨⟨ck46, st46⟩, ⟨ck47, st47⟩⟩, ⟨⟨ck48, st48⟩, ⟨ck49, st49⟩⟩⟩⟩⟩⟩, ⟨⟨⟨⟨⟨ck50, st50⟩, ⟨⟨ck51, st51⟩, ⟨ckG63, stG63⟩⟩⟩, ⟨⟨⟨ckG67, stG67⟩, ⟨ck78, st78⟩⟩, ⟨⟨ck79, st79⟩, ⟨ck80, st80⟩⟩⟩⟩, ⟨⟨⟨⟨ck81, st81⟩, ⟨ck82, st82⟩⟩, ⟨⟨ck83, st83⟩, ⟨ck85, st85⟩⟩⟩, ⟨⟨⟨ck86, st86⟩, ⟨ck87, st87⟩⟩, ⟨⟨ck88, st88⟩, ⟨ck89, st89⟩⟩⟩⟩⟩, ⟨⟨⟨⟨ckG90, stG90⟩, ⟨⟨ck91, st91⟩, ⟨ck92, st92⟩⟩⟩, ⟨⟨⟨ck93, st93⟩, ⟨ck94, st94⟩⟩, ⟨⟨ck95, st95⟩, ⟨ck96, st96⟩⟩⟩⟩, ⟨⟨⟨⟨ck97, st97⟩, ⟨ck98, st98⟩⟩, ⟨⟨ck99, st99⟩, ⟨ck100, st100⟩⟩⟩, ⟨⟨⟨ck101, st101⟩, ⟨ck102, st102⟩⟩, ⟨⟨ckG105, stG105⟩, ⟨ck107, st107⟩⟩⟩⟩⟩⟩⟩, ⟨⟨⟨⟨⟨⟨ckG108, stG108⟩, ⟨⟨ck128, st128⟩, ⟨ck129, st129⟩⟩⟩, ⟨⟨⟨ck130, st130⟩, ⟨ck131, st131⟩⟩, ⟨⟨ck132, st132⟩, ⟨ck133, st133⟩⟩⟩⟩, ⟨⟨⟨⟨ck134, st134⟩, ⟨ck135, st135⟩⟩, ⟨⟨ck136, st136⟩, ⟨ck137, st137⟩⟩⟩, ⟨⟨⟨ck138, st138⟩, ⟨ck139, st139⟩⟩, ⟨⟨ck140, st140⟩, ⟨ckG141, stG141⟩⟩⟩⟩⟩, ⟨⟨⟨⟨ck143, st143⟩, ⟨⟨ck144, st144⟩, ⟨ck145, st145⟩⟩⟩, ⟨⟨⟨ck146, st146⟩, ⟨ckG147, stG147⟩⟩, ⟨⟨ckG148, stG148⟩, ⟨ckG149, stG149⟩⟩⟩⟩, ⟨⟨⟨⟨ckG150, stG150⟩, ⟨ckG151, stG151⟩⟩, ⟨⟨ck159, st159⟩, ⟨ck160, st160⟩⟩⟩, ⟨⟨⟨ck161, st161⟩, ⟨ck162, st162⟩⟩, ⟨⟨ck163, st163⟩, ⟨ck164, st164⟩⟩⟩⟩⟩⟩, ⟨⟨⟨⟨⟨ck165, st165⟩, ⟨⟨ckG167, stG167⟩, ⟨ckG168, stG168⟩⟩⟩, ⟨⟨⟨ckG169, stG169⟩, ⟨ck170, st170⟩⟩, ⟨⟨ck171, st171⟩, ⟨ck172, st172⟩⟩⟩⟩, ⟨⟨⟨⟨ck174, st174⟩, ⟨ck176, st176⟩⟩, ⟨⟨ckG178, stG178⟩, ⟨ck183, st183⟩⟩⟩, ⟨⟨⟨ck184, st184⟩, ⟨ck185, st185⟩⟩, ⟨⟨ck186, st186⟩, ⟨ck192, st192⟩⟩⟩⟩⟩, ⟨⟨⟨⟨ck196, st196⟩, ⟨⟨ck197, st197⟩, ⟨ck202, st202⟩⟩⟩, ⟨⟨⟨ck203, st203⟩, ⟨ck210, st210⟩⟩, ⟨⟨ck216, st216⟩, ⟨ck218, st218⟩⟩⟩⟩, ⟨⟨⟨⟨ck241, st241⟩, ⟨ck242, st242⟩⟩, ⟨⟨ck243, st243⟩, ⟨ck244, st244⟩⟩⟩, ⟨⟨⟨ck245, st245⟩, ⟨ck246, st246⟩⟩, ⟨⟨ck247, st247⟩, ⟨ck248, st248⟩⟩⟩⟩⟩⟩⟩⟩
theorem CX.ts_ok : CX.ts.Ok fun g F => ckFS CX.P g F = true ∧ K.stC F.c = true := ⟨⟨ck38, st38⟩, ⟨⟨ck126, st126⟩, ⟨ckG166, stG166⟩⟩⟩
def CX.T (p : FuncId → List V → Option V) (q : FuncId → List V → K.HT → Option (Res × K.HT)) : K.Tb := ⟨CX.tf.get, CX.ts.get, p, q⟩
theorem CX.tok (p : FuncId → List V → Option V) (q : FuncId → List V → K.HT → Option (Res × K.HT)) (hp : ∀ g args v, p g args = some v → PCalls CX g args fun r => r = .ret v)
    (hq : ∀ g args h r h', q g args h = some (r, h') → ACalls CX g args h.l fun a b => a = r ∧ b = h'.l) : K.TbOk CX (CX.T p q) :=
  ⟨fun g F h => (TrF.get_ok _ CX.tf_ok g F h).1, fun g F h => (TrF.get_ok _ CX.ts_ok g F h).1, hp, hq, fun g F h => (TrF.get_ok _ CX.tf_ok g F h).2, fun g F h => (TrF.get_ok _ CX.ts_ok g F h).2⟩
end Go.Proofs.YtbabpibaccngnaaGreat
