/- The told functions in a table, and the program they are of. -/
import Derived.Test.YtbabpibaccngnaaGreatZcCode1
import Derived.Test.YtbabpibaccngnaaGreatZcCode2
import Derived.Test.YtbabpibaccngnaaGreatZcCodeG
import Derived.Test.YtbabpibaccngnaaGreatZv6
import Derived.KernelRfl
set_option linter.unusedSimpArgs false
set_option linter.unusedVariables false
namespace Go.Proofs.YtbabpibaccngnaaGreat
open Go.Vs
set_option maxRecDepth 100000

def CX.M : TypeId → String → Option (FuncId × Option Nat)
  | 139, "Pub" => some (243, some 0)
  | 139, "Dh" => some (241, some 0)
  | 139, "Seal" => some (244, some 0)
  | 139, "Hash" => some (246, none)
  | 139, "Keys" => some (247, none)
  | 139, "Open" => some (248, none)
  | _, _ => none
noncomputable def CX : X := ⟨Tryz.prog, fun _ => [], CX.M⟩
theorem CX.m0 : ckM CX.P 139 "Pub" 243 (some 0) = true := by kernel_rfl
theorem CX.m1 : ckM CX.P 139 "Dh" 241 (some 0) = true := by kernel_rfl
theorem CX.m2 : ckM CX.P 139 "Seal" 244 (some 0) = true := by kernel_rfl
theorem CX.m3 : ckM CX.P 139 "Hash" 246 (none) = true := by kernel_rfl
theorem CX.m4 : ckM CX.P 139 "Keys" 247 (none) = true := by kernel_rfl
theorem CX.m5 : ckM CX.P 139 "Open" 248 (none) = true := by kernel_rfl
theorem CX.ok : XOk CX := fun t m f p h => by
  have h' : CX.M t m = some (f, p) := h
  unfold CX.M at h'
  split at h'
  · cases h'; exact CX.m0
  · cases h'; exact CX.m1
  · cases h'; exact CX.m2
  · cases h'; exact CX.m3
  · cases h'; exact CX.m4
  · cases h'; exact CX.m5
  · cases h'
theorem CX.low : XLow CX := fun g c hc => by cases hc
theorem CX.gr (W : World) : GR CX (frzE W) := fun g => .fp [] 0 g 0 (fun _ => .pointer none) (fun j hj => by simp [CX] at hj) (fun j hj => by simp [CX] at hj) (fun j hj => by simp [CX] at hj)
def CX.tf : TrF := (.node 124 (.node 74 (.node 42 (.node 27 (.node 18 (.node 14 (.leaf 14 F14) (.node 17 (.leaf 17 F17) (.leaf 18 F18))) (.node 20 (.leaf 20 F20) (.node 21 (.leaf 21 F21) (.leaf 27 F27)))) (.node 32 (.node 30 (.leaf 30 F30) (.node 31 (.leaf 31 F31) (.leaf 32 F32))) (.node 40 (.node 34 (.leaf 34 F34) (.leaf 40 F40)) (.node 41 (.leaf 41 F41) (.leaf 42 G42))))) (.node 67 (.node 51 (.node 43 (.leaf 43 F43) (.node 44 (.leaf 44 F44) (.leaf 51 F51))) (.node 63 (.leaf 63 G63) (.node 66 (.leaf 66 F66) (.leaf 67 G67)))) (.node 70 (.node 68 (.leaf 68 F68) (.node 69 (.leaf 69 F69) (.leaf 70 F70))) (.node 72 (.node 71 (.leaf 71 F71) (.leaf 72 F72)) (.node 73 (.leaf 73 F73) (.leaf 74 F74)))))) (.node 93 (.node 82 (.node 79 (.node 75 (.leaf 75 F75) (.node 78 (.leaf 78 F78) (.leaf 79 F79))) (.node 80 (.leaf 80 F80) (.node 81 (.leaf 81 F81) (.leaf 82 F82)))) (.node 88 (.node 83 (.leaf 83 F83) (.node 87 (.leaf 87 F87) (.leaf 88 F88))) (.node 91 (.node 90 (.leaf 90 G90) (.leaf 91 F91)) (.node 92 (.leaf 92 F92) (.leaf 93 F93))))) (.node 105 (.node 96 (.node 94 (.leaf 94 F94) (.node 95 (.leaf 95 F95) (.leaf 96 F96))) (.node 98 (.leaf 98 F98) (.node 101 (.leaf 101 F101) (.leaf 105 G105)))) (.node 111 (.node 108 (.leaf 108 G108) (.node 110 (.leaf 110 F110) (.leaf 111 F111))) (.node 113 (.node 112 (.leaf 112 F112) (.leaf 113 F113)) (.node 116 (.leaf 116 F116) (.leaf 124 F124))))))) (.node 161 (.node 143 (.node 132 (.node 129 (.node 125 (.leaf 125 F125) (.node 128 (.leaf 128 F128) (.leaf 129 F129))) (.node 130 (.leaf 130 F130) (.node 131 (.leaf 131 F131) (.leaf 132 F132)))) (.node 135 (.node 133 (.leaf 133 F133) (.node 134 (.leaf 134 F134) (.leaf 135 F135))) (.node 140 (.node 136 (.leaf 136 F136) (.leaf 140 F140)) (.node 141 (.leaf 141 G141) (.leaf 143 F143))))) (.node 150 (.node 147 (.node 145 (.leaf 145 F145) (.node 146 (.leaf 146 F146) (.leaf 147 G147))) (.node 148 (.leaf 148 G148) (.node 149 (.leaf 149 G149) (.leaf 150 G150)))) (.node 153 (.node 151 (.leaf 151 G151) (.node 152 (.leaf 152 F152) (.leaf 153 F153))) (.node 159 (.node 156 (.leaf 156 F156) (.leaf 159 F159)) (.node 160 (.leaf 160 F160) (.leaf 161 F161)))))) (.node 185 (.node 168 (.node 164 (.node 162 (.leaf 162 F162) (.node 163 (.leaf 163 F163) (.leaf 164 F164))) (.node 165 (.leaf 165 F165) (.node 167 (.leaf 167 G167) (.leaf 168 G168)))) (.node 178 (.node 169 (.leaf 169 G169) (.node 170 (.leaf 170 F170) (.leaf 178 G178))) (.node 183 (.node 179 (.leaf 179 F179) (.leaf 183 F183)) (.node 184 (.leaf 184 F184) (.leaf 185 F185))))) (.node 241 (.node 196 (.node 186 (.leaf 186 F186) (.node 192 (.leaf 192 F192) (.leaf 196 F196))) (.node 210 (.node 197 (.leaf 197 F197) (.leaf 210 F210)) (.node 216 (.leaf 216 F216) (.leaf 241 F241)))) (.node 244 (.node 242 (.leaf 242 F242) (.node 243 (.leaf 243 F243) (.leaf 244 F244))) (.node 246 (.node 245 (.leaf 245 F245) (.leaf 246 F246)) (.node 247 (.leaf 247 F247) (.leaf 248 F248))))))))
def CX.ts : TrF := (.node 38 (.leaf 38 F38) (.node 126 (.leaf 126 F126) (.leaf 166 G166)))
theorem CX.tf_ok : CX.tf.Ok fun g F => ckF CX.P g F = true ∧ K.stC F.c = true := ⟨⟨⟨⟨⟨⟨⟨ck14, st14⟩, ⟨⟨ck17, st17⟩, ⟨ck18, st18⟩⟩⟩, ⟨⟨ck20, st20⟩, ⟨⟨ck21, st21⟩, ⟨ck27, st27⟩⟩⟩⟩, ⟨⟨⟨ck30, st30⟩, ⟨⟨ck31, st31⟩, ⟨ck32, st32⟩⟩⟩, ⟨⟨⟨ck34, st34⟩, ⟨ck40, st40⟩⟩, ⟨⟨ck41, st41⟩, ⟨ckG42, stG42⟩⟩⟩⟩⟩, ⟨⟨⟨⟨ck43, st43⟩, ⟨⟨ck44, st44⟩, ⟨ck51, st51⟩⟩⟩, ⟨⟨ckG63, stG63⟩, ⟨⟨ck66, st66⟩, ⟨ckG67, stG67⟩⟩⟩⟩, ⟨⟨⟨ck68, st68⟩, ⟨⟨ck69, st69⟩, ⟨ck70, st70⟩⟩⟩, ⟨⟨⟨ck71, st71⟩, ⟨ck72, st72⟩⟩, ⟨⟨ck73, st73⟩, ⟨ck74, st74⟩⟩⟩⟩⟩⟩, ⟨⟨⟨⟨⟨ck75, st75⟩, ⟨⟨ck78, st78⟩, ⟨ck79, st79⟩⟩⟩, ⟨⟨ck80, st80⟩, ⟨⟨ck81, st81⟩, ⟨ck82, st82⟩⟩⟩⟩, ⟨⟨⟨ck83, st83⟩, ⟨⟨ck87, st87⟩, ⟨ck88, st88⟩⟩⟩, ⟨⟨⟨ckG90, stG90⟩, ⟨ck91, st91⟩⟩, ⟨⟨ck92, st92⟩, ⟨ck93, st93⟩⟩⟩⟩⟩, ⟨⟨⟨⟨ck94, st94⟩, ⟨⟨ck95, st95⟩, ⟨ck96, st96⟩⟩⟩, ⟨⟨ck98, st98⟩, ⟨⟨ck101, st101⟩, ⟨ckG105, stG105⟩⟩⟩⟩, ⟨⟨⟨ckG108, stG108⟩, ⟨⟨ck110, st110⟩, ⟨ck111, st111⟩⟩⟩, ⟨⟨⟨ck112, st112⟩, ⟨ck113, st113⟩⟩, ⟨⟨ck116, st116⟩, ⟨ck124, st124⟩⟩⟩⟩⟩⟩⟩, ⟨⟨⟨⟨⟨⟨ck125, st125⟩, ⟨⟨ck128, st128⟩, ⟨ck129, st129⟩⟩⟩, ⟨⟨ck130, st130⟩, ⟨⟨ck131, st131⟩, ⟨ck132, st132⟩⟩⟩⟩, ⟨⟨⟨ck133, st133⟩, ⟨⟨ck134, st134⟩, ⟨ck135, st135⟩⟩⟩, ⟨⟨⟨ck136, st136⟩, ⟨ck140, st140⟩⟩, ⟨⟨ckG141, stG141⟩, ⟨ck143, st143⟩⟩⟩⟩⟩, ⟨⟨⟨⟨ck145, st145⟩, ⟨⟨ck146, st146⟩, ⟨ckG147, stG147⟩⟩⟩, ⟨⟨ckG148, stG148⟩, ⟨⟨ckG149, stG149⟩, ⟨ckG150, stG150⟩⟩⟩⟩, ⟨⟨⟨ckG151, stG151⟩, ⟨⟨ck152, st152⟩, ⟨ck153, st153⟩⟩⟩, ⟨⟨⟨ck156, st156⟩, ⟨ck159, st159⟩⟩, ⟨⟨ck160, st160⟩, ⟨ck161, st161⟩⟩⟩⟩⟩⟩, ⟨⟨⟨⟨⟨ck162, st162⟩, ⟨⟨ck163, st163⟩, ⟨ck164, st164⟩⟩⟩, ⟨⟨ck165, st165⟩, ⟨⟨ckG167, stG167⟩, ⟨ckG168, stG168⟩⟩⟩⟩, ⟨⟨⟨ckG169, stG169⟩, ⟨⟨ck170, st170⟩, ⟨ckG178, stG178⟩⟩⟩, ⟨⟨⟨ck179, st179⟩, ⟨ck183, st183⟩⟩, ⟨⟨ck184, st184⟩, ⟨ck185, st185⟩⟩⟩⟩⟩, ⟨⟨⟨⟨ck186, st186⟩, ⟨⟨ck192, st192⟩, ⟨ck196, st196⟩⟩⟩, ⟨⟨⟨ck197, st197⟩, ⟨ck210, st210⟩⟩, ⟨⟨ck216, st216⟩, ⟨ck241, st241⟩⟩⟩⟩, ⟨⟨⟨ck242, st242⟩, ⟨⟨ck243, st243⟩, ⟨ck244, st244⟩⟩⟩, ⟨⟨⟨ck245, st245⟩, ⟨ck246, st246⟩⟩, ⟨⟨ck247, st247⟩, ⟨ck248, st248⟩⟩⟩⟩⟩⟩⟩⟩
theorem CX.ts_ok : CX.ts.Ok fun g F => ckFS CX.P g F = true ∧ K.stC F.c = true := ⟨⟨ck38, st38⟩, ⟨⟨ck126, st126⟩, ⟨ckG166, stG166⟩⟩⟩
def CX.T (p : FuncId → List V → Option V) (q : FuncId → List V → K.HT → Option (Res × K.HT)) : K.Tb := ⟨CX.tf.get, CX.ts.get, p, q⟩
theorem CX.tok (p : FuncId → List V → Option V) (q : FuncId → List V → K.HT → Option (Res × K.HT)) (hp : ∀ g args v, p g args = some v → PCalls CX g args fun r => r = .ret v)
    (hq : ∀ g args h r h', q g args h = some (r, h') → ACalls CX g args h.l fun a b => a = r ∧ b = h'.l) : K.TbOk CX (CX.T p q) :=
  ⟨fun g F h => (TrF.get_ok _ CX.tf_ok g F h).1, fun g F h => (TrF.get_ok _ CX.ts_ok g F h).1, hp, hq, fun g F h => (TrF.get_ok _ CX.tf_ok g F h).2, fun g F h => (TrF.get_ok _ CX.ts_ok g F h).2⟩
end Go.Proofs.YtbabpibaccngnaaGreat
