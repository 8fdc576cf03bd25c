/- The told functions in a table, and the program they are of. -/
import Derived.Test.YtfinnljkcgglfaaGreatDoorZgCode1
import Derived.Test.YtfinnljkcgglfaaGreatDoorZgCode2
import Derived.Test.YtfinnljkcgglfaaGreatDoorZv6
import Derived.Test.YtfinnljkcgglfaaGreatDoorZv4
import Derived.KernelRfl
namespace Go.Proofs.YtfinnljkcgglfaaGreatDoor
open Go.Vs
set_option maxRecDepth 100000

def GX.M : TypeId → String → Option (FuncId × Option Nat)
  | 75, "Pub" => some (16, some 0)
  | 75, "Dh" => some (15, some 0)
  | 75, "Seal" => some (18, some 0)
  | 75, "Hash" => some (131, none)
  | 75, "Keys" => some (132, none)
  | 57, "Hash" => some (113, none)
  | 57, "Keys" => some (114, none)
  | 57, "Pub" => some (116, none)
  | 57, "Dh" => some (112, none)
  | _, _ => none
def GX.start : List V := [.int .u32 1779033703, .int .u32 3144134277, .int .u32 1013904242, .int .u32 2773480762, .int .u32 1359893119, .int .u32 2600822924, .int .u32 528734635, .int .u32 1541459225]
def GX.consts : List V := [.int .u32 1116352408, .int .u32 1899447441, .int .u32 3049323471, .int .u32 3921009573, .int .u32 961987163, .int .u32 1508970993, .int .u32 2453635748, .int .u32 2870763221, .int .u32 3624381080, .int .u32 310598401, .int .u32 607225278, .int .u32 1426881987, .int .u32 1925078388, .int .u32 2162078206, .int .u32 2614888103, .int .u32 3248222580, .int .u32 3835390401, .int .u32 4022224774, .int .u32 264347078, .int .u32 604807628, .int .u32 770255983, .int .u32 1249150122, .int .u32 1555081692, .int .u32 1996064986, .int .u32 2554220882, .int .u32 2821834349, .int .u32 2952996808, .int .u32 3210313671, .int .u32 3336571891, .int .u32 3584528711, .int .u32 113926993, .int .u32 338241895, .int .u32 666307205, .int .u32 773529912, .int .u32 1294757372, .int .u32 1396182291, .int .u32 1695183700, .int .u32 1986661051, .int .u32 2177026350, .int .u32 2456956037, .int .u32 2730485921, .int .u32 2820302411, .int .u32 3259730800, .int .u32 3345764771, .int .u32 3516065817, .int .u32 3600352804, .int .u32 4094571909, .int .u32 275423344, .int .u32 430227734, .int .u32 506948616, .int .u32 659060556, .int .u32 883997877, .int .u32 958139571, .int .u32 1322822218, .int .u32 1537002063, .int .u32 1747873779, .int .u32 1955562222, .int .u32 2024104815, .int .u32 2227730452, .int .u32 2361852424, .int .u32 2428436474, .int .u32 2756734187, .int .u32 3204031479, .int .u32 3329325298]
def GX.G : Nat → List V
  | 0 => GX.start
  | 2 => GX.consts
  | _ => []
noncomputable def GX : X := ⟨Tryz.prog, GX.G, GX.M⟩
theorem GX.m0 : ckM GX.P 75 "Pub" 16 (some 0) = true := by kernel_rfl
theorem GX.m1 : ckM GX.P 75 "Dh" 15 (some 0) = true := by kernel_rfl
theorem GX.m2 : ckM GX.P 75 "Seal" 18 (some 0) = true := by kernel_rfl
theorem GX.m3 : ckM GX.P 75 "Hash" 131 (none) = true := by kernel_rfl
theorem GX.m4 : ckM GX.P 75 "Keys" 132 (none) = true := by kernel_rfl
theorem GX.m5 : ckM GX.P 57 "Hash" 113 (none) = true := by kernel_rfl
theorem GX.m6 : ckM GX.P 57 "Keys" 114 (none) = true := by kernel_rfl
theorem GX.m7 : ckM GX.P 57 "Pub" 116 (none) = true := by kernel_rfl
theorem GX.m8 : ckM GX.P 57 "Dh" 112 (none) = true := by kernel_rfl
theorem GX.ok : XOk GX := fun t m f p h => by
  have h' : GX.M t m = some (f, p) := h
  unfold GX.M at h'
  split at h'
  · cases h'; exact GX.m0
  · cases h'; exact GX.m1
  · cases h'; exact GX.m2
  · cases h'; exact GX.m3
  · cases h'; exact GX.m4
  · cases h'; exact GX.m5
  · cases h'; exact GX.m6
  · cases h'; exact GX.m7
  · cases h'; exact GX.m8
  · cases h'
theorem GX.low : XLow GX := fun g c hc => by
  have h : ∀ l : List V, (l.all fun v => match v with | .int _ _ => true | _ => false) = true → ∀ c ∈ l, Low 0 c := fun l hl c hc => by
    have := List.all_eq_true.1 hl c hc
    cases c <;> first | exact .int _ _ | cases this
  match g with
  | 0 => exact h GX.start rfl c hc
  | 1 => cases hc
  | 2 => exact h GX.consts rfl c hc
  | g + 3 => cases hc
def GX.tf : TrF := (.node 38 (.node 21 (.node 10 (.node 6 (.node 3 (.leaf 3 F3) (.node 5 (.leaf 5 F5) (.leaf 6 F6))) (.node 8 (.node 7 (.leaf 7 F7) (.leaf 8 F8)) (.node 9 (.leaf 9 F9) (.leaf 10 F10)))) (.node 13 (.node 11 (.leaf 11 F11) (.node 12 (.leaf 12 F12) (.leaf 13 F13))) (.node 16 (.node 14 (.leaf 14 F14) (.leaf 16 F16)) (.node 17 (.leaf 17 F17) (.leaf 21 F21))))) (.node 29 (.node 24 (.node 22 (.leaf 22 F22) (.node 23 (.leaf 23 F23) (.leaf 24 F24))) (.node 26 (.node 25 (.leaf 25 F25) (.leaf 26 F26)) (.node 28 (.leaf 28 F28) (.leaf 29 F29)))) (.node 34 (.node 32 (.node 31 (.leaf 31 F31) (.leaf 32 F32)) (.node 33 (.leaf 33 F33) (.leaf 34 F34))) (.node 36 (.node 35 (.leaf 35 F35) (.leaf 36 F36)) (.node 37 (.leaf 37 F37) (.leaf 38 F38)))))) (.node 71 (.node 49 (.node 44 (.node 39 (.leaf 39 F39) (.node 40 (.leaf 40 F40) (.leaf 44 F44))) (.node 47 (.node 46 (.leaf 46 F46) (.leaf 47 F47)) (.node 48 (.leaf 48 F48) (.leaf 49 F49)))) (.node 52 (.node 50 (.leaf 50 F50) (.node 51 (.leaf 51 F51) (.leaf 52 F52))) (.node 54 (.node 53 (.leaf 53 F53) (.leaf 54 F54)) (.node 55 (.leaf 55 F55) (.leaf 71 F71))))) (.node 93 (.node 79 (.node 76 (.leaf 76 F76) (.node 77 (.leaf 77 F77) (.leaf 79 F79))) (.node 88 (.node 80 (.leaf 80 F80) (.leaf 88 F88)) (.node 90 (.leaf 90 F90) (.leaf 93 F93)))) (.node 114 (.node 112 (.node 95 (.leaf 95 F95) (.leaf 112 F112)) (.node 113 (.leaf 113 F113) (.leaf 114 F114))) (.node 118 (.node 116 (.leaf 116 F116) (.leaf 118 F118)) (.node 131 (.leaf 131 F131) (.leaf 132 F132)))))))
def GX.ts : TrF := .nil
theorem GX.tf_ok : GX.tf.Ok fun g F => ckF GX.P g F = true ∧ K.stC F.c = true := ⟨⟨⟨⟨⟨⟨ck3, st3⟩, ⟨⟨ck5, st5⟩, ⟨ck6, st6⟩⟩⟩, ⟨⟨⟨ck7, st7⟩, ⟨ck8, st8⟩⟩, ⟨⟨ck9, st9⟩, ⟨ck10, st10⟩⟩⟩⟩, ⟨⟨⟨ck11, st11⟩, ⟨⟨ck12, st12⟩, ⟨ck13, st13⟩⟩⟩, ⟨⟨⟨ck14, st14⟩, ⟨ck16, st16⟩⟩, ⟨⟨ck17, st17⟩, ⟨ck21, st21⟩⟩⟩⟩⟩, ⟨⟨⟨⟨ck22, st22⟩, ⟨⟨ck23, st23⟩, ⟨ck24, st24⟩⟩⟩, ⟨⟨⟨ck25, st25⟩, ⟨ck26, st26⟩⟩, ⟨⟨ck28, st28⟩, ⟨ck29, st29⟩⟩⟩⟩, ⟨⟨⟨⟨ck31, st31⟩, ⟨ck32, st32⟩⟩, ⟨⟨ck33, st33⟩, ⟨ck34, st34⟩⟩⟩, ⟨⟨⟨ck35, st35⟩, ⟨ck36, st36⟩⟩, ⟨⟨ck37, st37⟩, ⟨ck38, st38⟩⟩⟩⟩⟩⟩, ⟨⟨⟨⟨⟨ck39, st39⟩, ⟨⟨ck40, st40⟩, ⟨ck44, st44⟩⟩⟩, ⟨⟨⟨ck46, st46⟩, ⟨ck47, st47⟩⟩, ⟨⟨ck48, st48⟩, ⟨ck49, st49⟩⟩⟩⟩, ⟨⟨⟨ck50, st50⟩, ⟨⟨ck51, st51⟩, ⟨ck52, st52⟩⟩⟩, ⟨⟨⟨ck53, st53⟩, ⟨ck54, st54⟩⟩, ⟨⟨ck55, st55⟩, ⟨ck71, st71⟩⟩⟩⟩⟩, ⟨⟨⟨⟨ck76, st76⟩, ⟨⟨ck77, st77⟩, ⟨ck79, st79⟩⟩⟩, ⟨⟨⟨ck80, st80⟩, ⟨ck88, st88⟩⟩, ⟨⟨ck90, st90⟩, ⟨ck93, st93⟩⟩⟩⟩, ⟨⟨⟨⟨ck95, st95⟩, ⟨ck112, st112⟩⟩, ⟨⟨ck113, st113⟩, ⟨ck114, st114⟩⟩⟩, ⟨⟨⟨ck116, st116⟩, ⟨ck118, st118⟩⟩, ⟨⟨ck131, st131⟩, ⟨ck132, st132⟩⟩⟩⟩⟩⟩⟩
theorem GX.ts_ok : GX.ts.Ok fun g F => ckFS GX.P g F = true ∧ K.stC F.c = true := trivial
def GX.T (p : FuncId → List V → Option V) (q : FuncId → List V → K.HT → Option (Res × K.HT)) : K.Tb := ⟨GX.tf.get, GX.ts.get, p, q⟩
theorem GX.tok (p : FuncId → List V → Option V) (q : FuncId → List V → K.HT → Option (Res × K.HT)) (hp : ∀ g args v, p g args = some v → PCalls GX g args fun r => r = .ret v)
    (hq : ∀ g args h r h', q g args h = some (r, h') → ACalls GX g args h.l fun a b => a = r ∧ b = h'.l) : K.TbOk GX (GX.T p q) :=
  ⟨fun g F h => (TrF.get_ok _ GX.tf_ok g F h).1, fun g F h => (TrF.get_ok _ GX.ts_ok g F h).1, hp, hq, fun g F h => (TrF.get_ok _ GX.tf_ok g F h).2, fun g F h => (TrF.get_ok _ GX.ts_ok g F h).2⟩
end Go.Proofs.YtfinnljkcgglfaaGreatDoor
