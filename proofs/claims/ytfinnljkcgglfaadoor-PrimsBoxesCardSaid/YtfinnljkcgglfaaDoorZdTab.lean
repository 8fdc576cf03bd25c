/- The told functions in a table, and the program they are of. -/
import Derived.Test.YtfinnljkcgglfaaDoorZdCode1
import Derived.Test.YtfinnljkcgglfaaDoorZdCode2
import Derived.Test.YtfinnljkcgglfaaDoorZv6
import Derived.Test.YtfinnljkcgglfaaDoorZv4
import Derived.KernelRfl
namespace Go.Proofs.YtfinnljkcgglfaaDoor
open Go.Vs
set_option maxRecDepth 100000

def DX.M : TypeId → String → Option (FuncId × Option Nat)
  | 54, "Pub" => some (53, some 0)
  | 54, "Seal" => some (54, some 0)
  | 54, "Hash" => some (105, none)
  | 54, "Keys" => some (106, none)
  | 54, "Open" => some (107, none)
  | 52, "Hash" => some (75, none)
  | 52, "Keys" => some (76, none)
  | 52, "Pub" => some (78, none)
  | 52, "Seal" => some (79, none)
  | 52, "Open" => some (77, none)
  | _, _ => none
def DX.start : List V := [.int .u32 1779033703, .int .u32 3144134277, .int .u32 1013904242, .int .u32 2773480762, .int .u32 1359893119, .int .u32 2600822924, .int .u32 528734635, .int .u32 1541459225]
def DX.consts : List V := [.int .u32 1116352408, .int .u32 1899447441, .int .u32 3049323471, .int .u32 3921009573, .int .u32 961987163, .int .u32 1508970993, .int .u32 2453635748, .int .u32 2870763221, .int .u32 3624381080, .int .u32 310598401, .int .u32 607225278, .int .u32 1426881987, .int .u32 1925078388, .int .u32 2162078206, .int .u32 2614888103, .int .u32 3248222580, .int .u32 3835390401, .int .u32 4022224774, .int .u32 264347078, .int .u32 604807628, .int .u32 770255983, .int .u32 1249150122, .int .u32 1555081692, .int .u32 1996064986, .int .u32 2554220882, .int .u32 2821834349, .int .u32 2952996808, .int .u32 3210313671, .int .u32 3336571891, .int .u32 3584528711, .int .u32 113926993, .int .u32 338241895, .int .u32 666307205, .int .u32 773529912, .int .u32 1294757372, .int .u32 1396182291, .int .u32 1695183700, .int .u32 1986661051, .int .u32 2177026350, .int .u32 2456956037, .int .u32 2730485921, .int .u32 2820302411, .int .u32 3259730800, .int .u32 3345764771, .int .u32 3516065817, .int .u32 3600352804, .int .u32 4094571909, .int .u32 275423344, .int .u32 430227734, .int .u32 506948616, .int .u32 659060556, .int .u32 883997877, .int .u32 958139571, .int .u32 1322822218, .int .u32 1537002063, .int .u32 1747873779, .int .u32 1955562222, .int .u32 2024104815, .int .u32 2227730452, .int .u32 2361852424, .int .u32 2428436474, .int .u32 2756734187, .int .u32 3204031479, .int .u32 3329325298]
def DX.G : Nat → List V
  | 0 => DX.start
  | 2 => DX.consts
  | _ => []
noncomputable def DX : X := ⟨Tryd.prog, DX.G, DX.M⟩
theorem DX.m0 : ckM DX.P 54 "Pub" 53 (some 0) = true := by kernel_rfl
theorem DX.m1 : ckM DX.P 54 "Seal" 54 (some 0) = true := by kernel_rfl
theorem DX.m2 : ckM DX.P 54 "Hash" 105 (none) = true := by kernel_rfl
theorem DX.m3 : ckM DX.P 54 "Keys" 106 (none) = true := by kernel_rfl
theorem DX.m4 : ckM DX.P 54 "Open" 107 (none) = true := by kernel_rfl
theorem DX.m5 : ckM DX.P 52 "Hash" 75 (none) = true := by kernel_rfl
theorem DX.m6 : ckM DX.P 52 "Keys" 76 (none) = true := by kernel_rfl
theorem DX.m7 : ckM DX.P 52 "Pub" 78 (none) = true := by kernel_rfl
theorem DX.m8 : ckM DX.P 52 "Seal" 79 (none) = true := by kernel_rfl
theorem DX.m9 : ckM DX.P 52 "Open" 77 (none) = true := by kernel_rfl
theorem DX.ok : XOk DX := fun t m f p h => by
  have h' : DX.M t m = some (f, p) := h
  unfold DX.M at h'
  split at h'
  · cases h'; exact DX.m0
  · cases h'; exact DX.m1
  · cases h'; exact DX.m2
  · cases h'; exact DX.m3
  · cases h'; exact DX.m4
  · cases h'; exact DX.m5
  · cases h'; exact DX.m6
  · cases h'; exact DX.m7
  · cases h'; exact DX.m8
  · cases h'; exact DX.m9
  · cases h'
theorem DX.low : XLow DX := fun g c hc => by
  have h : ∀ l : List V, (l.all fun v => match v with | .int _ _ => true | _ => false) = true → ∀ c ∈ l, Low 0 c := fun l hl c hc => by
    have := List.all_eq_true.1 hl c hc
    cases c <;> first | exact .int _ _ | cases this
  match g with
  | 0 => exact h DX.start rfl c hc
  | 1 => cases hc
  | 2 => exact h DX.consts rfl c hc
  | g + 3 => cases hc
def DX.tf : TrF := (.node 56 (.node 24 (.node 14 (.node 8 (.node 6 (.leaf 6 F6) (.node 7 (.leaf 7 F7) (.leaf 8 F8))) (.node 10 (.node 9 (.leaf 9 F9) (.leaf 10 F10)) (.node 11 (.leaf 11 F11) (.leaf 14 F14)))) (.node 19 (.node 16 (.node 15 (.leaf 15 F15) (.leaf 16 F16)) (.node 18 (.leaf 18 F18) (.leaf 19 F19))) (.node 21 (.node 20 (.leaf 20 F20) (.leaf 21 F21)) (.node 22 (.leaf 22 F22) (.leaf 24 F24))))) (.node 31 (.node 27 (.node 25 (.leaf 25 F25) (.node 26 (.leaf 26 F26) (.leaf 27 F27))) (.node 29 (.node 28 (.leaf 28 F28) (.leaf 29 F29)) (.node 30 (.leaf 30 F30) (.leaf 31 F31)))) (.node 52 (.node 33 (.node 32 (.leaf 32 F32) (.leaf 33 F33)) (.node 35 (.leaf 35 F35) (.leaf 52 F52))) (.node 54 (.node 53 (.leaf 53 F53) (.leaf 54 F54)) (.node 55 (.leaf 55 F55) (.leaf 56 F56)))))) (.node 84 (.node 75 (.node 66 (.node 59 (.leaf 59 F59) (.node 64 (.leaf 64 F64) (.leaf 66 F66))) (.node 70 (.node 68 (.leaf 68 F68) (.leaf 70 F70)) (.node 72 (.leaf 72 F72) (.leaf 75 F75)))) (.node 79 (.node 77 (.node 76 (.leaf 76 F76) (.leaf 77 F77)) (.node 78 (.leaf 78 F78) (.leaf 79 F79))) (.node 81 (.node 80 (.leaf 80 F80) (.leaf 81 F81)) (.node 83 (.leaf 83 F83) (.leaf 84 F84))))) (.node 100 (.node 89 (.node 85 (.leaf 85 F85) (.node 87 (.leaf 87 F87) (.leaf 89 F89))) (.node 95 (.node 90 (.leaf 90 F90) (.leaf 95 F95)) (.node 98 (.leaf 98 F98) (.leaf 100 F100)))) (.node 104 (.node 102 (.node 101 (.leaf 101 F101) (.leaf 102 F102)) (.node 103 (.leaf 103 F103) (.leaf 104 F104))) (.node 106 (.node 105 (.leaf 105 F105) (.leaf 106 F106)) (.node 107 (.leaf 107 F107) (.leaf 108 F108)))))))
def DX.ts : TrF := .nil
theorem DX.tf_ok : DX.tf.Ok fun g F => ckF DX.P g F = true ∧ K.stC F.c = true := ⟨⟨⟨⟨⟨⟨ck6, st6⟩, ⟨⟨ck7, st7⟩, ⟨ck8, st8⟩⟩⟩, ⟨⟨⟨ck9, st9⟩, ⟨ck10, st10⟩⟩, ⟨⟨ck11, st11⟩, ⟨ck14, st14⟩⟩⟩⟩, ⟨⟨⟨⟨ck15, st15⟩, ⟨ck16, st16⟩⟩, ⟨⟨ck18, st18⟩, ⟨ck19, st19⟩⟩⟩, ⟨⟨⟨ck20, st20⟩, ⟨ck21, st21⟩⟩, ⟨⟨ck22, st22⟩, ⟨ck24, st24⟩⟩⟩⟩⟩, ⟨⟨⟨⟨ck25, st25⟩, ⟨⟨ck26, st26⟩, ⟨ck27, st27⟩⟩⟩, ⟨⟨⟨ck28, st28⟩, ⟨ck29, st29⟩⟩, ⟨⟨ck30, st30⟩, ⟨ck31, st31⟩⟩⟩⟩, ⟨⟨⟨⟨ck32, st32⟩, ⟨ck33, st33⟩⟩, ⟨⟨ck35, st35⟩, ⟨ck52, st52⟩⟩⟩, ⟨⟨⟨ck53, st53⟩, ⟨ck54, st54⟩⟩, ⟨⟨ck55, st55⟩, ⟨ck56, st56⟩⟩⟩⟩⟩⟩, ⟨⟨⟨⟨⟨ck59, st59⟩, ⟨⟨ck64, st64⟩, ⟨ck66, st66⟩⟩⟩, ⟨⟨⟨ck68, st68⟩, ⟨ck70, st70⟩⟩, ⟨⟨ck72, st72⟩, ⟨ck75, st75⟩⟩⟩⟩, ⟨⟨⟨⟨ck76, st76⟩, ⟨ck77, st77⟩⟩, ⟨⟨ck78, st78⟩, ⟨ck79, st79⟩⟩⟩, ⟨⟨⟨ck80, st80⟩, ⟨ck81, st81⟩⟩, ⟨⟨ck83, st83⟩, ⟨ck84, st84⟩⟩⟩⟩⟩, ⟨⟨⟨⟨ck85, st85⟩, ⟨⟨ck87, st87⟩, ⟨ck89, st89⟩⟩⟩, ⟨⟨⟨ck90, st90⟩, ⟨ck95, st95⟩⟩, ⟨⟨ck98, st98⟩, ⟨ck100, st100⟩⟩⟩⟩, ⟨⟨⟨⟨ck101, st101⟩, ⟨ck102, st102⟩⟩, ⟨⟨ck103, st103⟩, ⟨ck104, st104⟩⟩⟩, ⟨⟨⟨ck105, st105⟩, ⟨ck106, st106⟩⟩, ⟨⟨ck107, st107⟩, ⟨ck108, st108⟩⟩⟩⟩⟩⟩⟩
theorem DX.ts_ok : DX.ts.Ok fun g F => ckFS DX.P g F = true ∧ K.stC F.c = true := trivial
def DX.T (p : FuncId → List V → Option V) (q : FuncId → List V → K.HT → Option (Res × K.HT)) : K.Tb := ⟨DX.tf.get, DX.ts.get, p, q⟩
theorem DX.tok (p : FuncId → List V → Option V) (q : FuncId → List V → K.HT → Option (Res × K.HT)) (hp : ∀ g args v, p g args = some v → PCalls DX g args fun r => r = .ret v)
    (hq : ∀ g args h r h', q g args h = some (r, h') → ACalls DX g args h.l fun a b => a = r ∧ b = h'.l) : K.TbOk DX (DX.T p q) :=
  ⟨fun g F h => (TrF.get_ok _ DX.tf_ok g F h).1, fun g F h => (TrF.get_ok _ DX.ts_ok g F h).1, hp, hq, fun g F h => (TrF.get_ok _ DX.tf_ok g F h).2, fun g F h => (TrF.get_ok _ DX.ts_ok g F h).2⟩
end Go.Proofs.YtfinnljkcgglfaaDoor
