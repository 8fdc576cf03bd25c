/- Printed by wip/tools/Steps.lean. -/
import Derived.Test.YtbabpibaccngnaaGreatZk
namespace Go.Proofs.YtbabpibaccngnaaGreat
open Go.Vs
set_option maxRecDepth 100000
noncomputable section
namespace Za
def nb : Nat → Nat → List UInt8
  | 0, _ => []
  | n + 1, x => UInt8.ofNat (x / 256 ^ n % 256) :: nb n x
def nn : Nat → Hp → Hp
  | 0, l => l
  | n + 1, l => none :: nn n l
def c0 : List UInt8 := nb 4 0x73656564
def c1 : List UInt8 := nb 32 0x7465726d00000000000000000000000000000000000000000000000000000001
def c2 : List UInt8 := nb 32 0x7465726d00000000000000000000000000000000000000000000000000000002
def c3 : List UInt8 := nb 32 0x7465726d00000000000000000000000000000000000000000000000000000003
def c4 : List UInt8 := nb 32 0x7465726d00000000000000000000000000000000000000000000000000000004
def c5 : List UInt8 := nb 32 0x7465726d00000000000000000000000000000000000000000000000000000005
def c6 : List UInt8 := nb 32 0x7465726d00000000000000000000000000000000000000000000000000000006
def c7 : List UInt8 := nb 32 0x7465726d00000000000000000000000000000000000000000000000000000007
def c8 : List UInt8 := nb 32 0x7465726d00000000000000000000000000000000000000000000000000000008
def c9 : List UInt8 := nb 32 0x7465726d00000000000000000000000000000000000000000000000000000009
def c10 : List UInt8 := nb 32 0x7465726d0000000000000000000000000000000000000000000000000000000a
def c11 : List UInt8 := nb 32 0x7465726d0000000000000000000000000000000000000000000000000000000b
def c12 : List UInt8 := nb 32 0x7465726d0000000000000000000000000000000000000000000000000000000c
def R0 : List V := [(.str c1), .nsl, (.int .u64 0), .nsl, .nsl, (.str c2), .nsl, .nsl, .nsl, .nptr]
def R1 : List V := [(.str c3), .nsl, (.int .u64 0), .nsl, .nsl, (.str c4), .nsl, .nsl, .nsl, .nptr]
def R2 : List V := [(.str c5), .nsl, (.int .u64 0), .nsl, .nsl, (.str c6), .nsl, .nsl, .nsl, .nptr]
def R3 : List V := [(.str c7), .nsl, (.int .u64 0), .nsl, .nsl, (.str c8), .nsl, .nsl, .nsl, .nptr]
def R4 : List V := [(.str c9), .nsl, (.int .u64 0), .nsl, .nsl, (.str c10), .nsl, .nsl, .nsl, .nptr]
def R5 : List V := [(.str c11), .nsl, (.int .u64 0), .nsl, .nsl, (.str c12), .nsl, .nsl, .nsl, .nptr]
def R6 : List V := [(.ptr 11 0), (.ptr 19 0), (.ptr 27 0), (.ptr 35 0), (.ptr 43 0), (.ptr 51 0)]
def H0 : Hp := []
def H1 : Hp := some (.map []) :: some (.map []) :: some (.cells [(.map 0), (.map 1), .nsl] none) :: []
def H2 : Hp := some (.map []) :: some (.map []) :: some (.cells [(.map 0), (.map 1), .nsl] none) :: some (.cells [.nsl, .nsl, .nsl] none) :: []
def H3 : Hp := nn 3 (some (.cells [.nsl, .nsl, .nsl] none) :: some (.cells [(.ifc 139 (.agg [(.ptr 2 0)])), (.str c0), (.int .u64 1), (.sl 12 0 1 1 false 1 false), .nsl] none) :: nn 6 (some (.cells R0 none) :: some (.cells [(.ptr 11 0)] none) :: []))
def H4 : Hp := nn 3 (some (.cells [.nsl, .nsl, .nsl] none) :: some (.cells [(.ifc 139 (.agg [(.ptr 2 0)])), (.str c0), (.int .u64 2), (.sl 20 0 2 2 false 1 false), .nsl] none) :: nn 6 (some (.cells R0 none) :: nn 7 (some (.cells R1 none) :: some (.cells [(.ptr 11 0), (.ptr 19 0)] none) :: [])))
def H5 : Hp := nn 3 (some (.cells [.nsl, .nsl, .nsl] none) :: some (.cells [(.ifc 139 (.agg [(.ptr 2 0)])), (.str c0), (.int .u64 3), (.sl 28 0 3 3 false 1 false), .nsl] none) :: nn 6 (some (.cells R0 none) :: nn 7 (some (.cells R1 none) :: nn 7 (some (.cells R2 none) :: some (.cells [(.ptr 11 0), (.ptr 19 0), (.ptr 27 0)] none) :: []))))
def H6 : Hp := nn 3 (some (.cells [.nsl, .nsl, .nsl] none) :: some (.cells [(.ifc 139 (.agg [(.ptr 2 0)])), (.str c0), (.int .u64 4), (.sl 36 0 4 4 false 1 false), .nsl] none) :: nn 6 (some (.cells R0 none) :: nn 7 (some (.cells R1 none) :: nn 7 (some (.cells R2 none) :: nn 7 (some (.cells R3 none) :: some (.cells [(.ptr 11 0), (.ptr 19 0), (.ptr 27 0), (.ptr 35 0)] none) :: [])))))
def H7 : Hp := nn 3 (some (.cells [.nsl, .nsl, .nsl] none) :: some (.cells [(.ifc 139 (.agg [(.ptr 2 0)])), (.str c0), (.int .u64 5), (.sl 44 0 5 5 false 1 false), .nsl] none) :: nn 6 (some (.cells R0 none) :: nn 7 (some (.cells R1 none) :: nn 7 (some (.cells R2 none) :: nn 7 (some (.cells R3 none) :: nn 7 (some (.cells R4 none) :: some (.cells [(.ptr 11 0), (.ptr 19 0), (.ptr 27 0), (.ptr 35 0), (.ptr 43 0)] none) :: []))))))
def H8 : Hp := nn 3 (some (.cells [.nsl, .nsl, .nsl] none) :: some (.cells [(.ifc 139 (.agg [(.ptr 2 0)])), (.str c0), (.int .u64 6), (.sl 52 0 6 6 false 1 false), .nsl] none) :: nn 6 (some (.cells R0 none) :: nn 7 (some (.cells R1 none) :: nn 7 (some (.cells R2 none) :: nn 7 (some (.cells R3 none) :: nn 7 (some (.cells R4 none) :: nn 7 (some (.cells R5 none) :: some (.cells R6 none) :: [])))))))
def s0 : K.Stp := ⟨21, [], H0, (.ret (.ptr 2 0)), H1⟩
def s1 : K.Stp := ⟨20, [(.ptr 2 0)], H1, (.ret (.ifc 139 (.agg [(.ptr 2 0)]))), H1⟩
def s2 : K.Stp := ⟨69, [(.ifc 139 (.agg [(.ptr 2 0)])), (.int .i64 1), (.str c0)], H2, (.ret (.ptr 4 0)), H3⟩
def s3 : K.Stp := ⟨69, [(.ifc 139 (.agg [(.ptr 2 0)])), (.int .i64 2), (.str c0)], H2, (.ret (.ptr 4 0)), H4⟩
def s4 : K.Stp := ⟨69, [(.ifc 139 (.agg [(.ptr 2 0)])), (.int .i64 3), (.str c0)], H2, (.ret (.ptr 4 0)), H5⟩
def s5 : K.Stp := ⟨69, [(.ifc 139 (.agg [(.ptr 2 0)])), (.int .i64 4), (.str c0)], H2, (.ret (.ptr 4 0)), H6⟩
def s6 : K.Stp := ⟨69, [(.ifc 139 (.agg [(.ptr 2 0)])), (.int .i64 5), (.str c0)], H2, (.ret (.ptr 4 0)), H7⟩
def s7 : K.Stp := ⟨69, [(.ifc 139 (.agg [(.ptr 2 0)])), (.int .i64 6), (.str c0)], H2, (.ret (.ptr 4 0)), H8⟩
end Za
end
end Go.Proofs.YtbabpibaccngnaaGreat
