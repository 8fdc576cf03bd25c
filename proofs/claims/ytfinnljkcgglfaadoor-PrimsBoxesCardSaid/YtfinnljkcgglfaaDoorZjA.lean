/- That a call has one answer, by the kernel over open integers: limbs. -/
import Derived.Test.YtfinnljkcgglfaaDoorZiTurn
import Derived.Test.YtfinnljkcgglfaaDoorZv6
import Derived.KernelRfl
namespace Go.Proofs.YtfinnljkcgglfaaDoor
open Go Go.Vs
set_option maxRecDepth 100000

def intAt (l : List V) (i : Nat) : Int := match l.getD i .nptr with
  | .int _ n => n
  | _ => 0
def isI1 (k : IntKind) : V → Bool
  | .int k' _ => decide (k' = k)
  | _ => false
def allK (k : IntKind) : List V → Bool
  | [] => true
  | v :: r => match isI1 k v with
    | true => allK k r
    | false => false
def isK (k : IntKind) (n : Nat) (l : List V) : Bool := match Nat.beq l.length n with
  | true => allK k l
  | false => false
theorem allK_spec {k : IntKind} : ∀ {l : List V}, allK k l = true → ∀ v ∈ l, ∃ n, v = .int k n
  | [], _, v, hv => by cases hv
  | a :: r, h, v, hv => by
    simp only [allK] at h
    split at h
    · rename_i h1
      rcases List.mem_cons.1 hv with rfl | hv
      · cases v <;> simp only [isI1] at h1 <;> first | exact ⟨_, by rw [of_decide_eq_true h1]⟩ | cases h1
      · exact allK_spec h v hv
    · cases h
theorem isK_len {k : IntKind} {n : Nat} {l : List V} (h : isK k n l = true) : l.length = n := by
  unfold isK at h
  split at h
  · rename_i hb; exact Nat.eq_of_beq_eq_true hb
  · cases h
theorem isK_all {k : IntKind} {n : Nat} {l : List V} (h : isK k n l = true) : ∀ v ∈ l, ∃ n, v = .int k n := by
  unfold isK at h
  split at h
  · exact allK_spec h
  · cases h
theorem isK_mk {k : IntKind} {n : Nat} {l : List V} (h1 : l.length = n) (h2 : ∀ v ∈ l, ∃ n, v = .int k n) : isK k n l = true := by
  unfold isK
  rw [show Nat.beq l.length n = true by rw [h1]; exact Nat.beq_refl n]
  simp only
  clear h1
  induction l with
  | nil => rfl
  | cons a r ih =>
    obtain ⟨m, rfl⟩ := h2 a (List.mem_cons_self ..)
    simp only [allK, isI1, decide_true]
    exact ih fun v hv => h2 v (List.mem_cons_of_mem _ hv)
/-- n integers of a list, each told. -/
def cellsK (k : IntKind) (n : Nat) (l : List V) : List V := (List.range n).map fun i => .int k (intAt l i)
theorem cellsK_eq {k : IntKind} {n : Nat} {l : List V} (h : isK k n l = true) : cellsK k n l = l := by
  have hl := isK_len h
  refine List.ext_getElem (by simp [cellsK, hl]) fun i h1 h2 => ?_
  obtain ⟨m, hm⟩ := isK_all h l[i] (List.getElem_mem h2)
  simp only [cellsK, List.getElem_map, List.getElem_range]
  rw [hm]
  simp [intAt, List.getD, List.getElem?_eq_getElem h2, hm]
theorem cellsK_is (k : IntKind) (n : Nat) (l : List V) : isK k n (cellsK k n l) = true := isK_mk (by simp [cellsK]) fun v hv => by
  simp only [cellsK, List.mem_map] at hv
  obtain ⟨i, _, rfl⟩ := hv
  exact ⟨_, rfl⟩
theorem isK_low {k : IntKind} {n : Nat} {l : List V} (h : isK k n l = true) : ∀ v ∈ l, Low 0 v := fun v hv => by
  obtain ⟨m, rfl⟩ := isK_all h v hv; exact .int _ _
theorem isK_sc {k : IntKind} {n : Nat} {l : List V} (h : isK k n l = true) : ∀ v ∈ l, Sc v := fun v hv => by
  obtain ⟨m, rfl⟩ := isK_all h v hv; exact .int _ _

/-- An array of n integers is answered. -/
def okA (k : IntKind) (n : Nat) : Res → Bool
  | .ret (.agg c) => isK k n c
  | _ => false
theorem okA_spec {k : IntKind} {n : Nat} {r : Res} (h : okA k n r = true) : ∃ c, isK k n c = true ∧ r = .ret (.agg c) := by
  cases r with
  | ret v => cases v <;> first | exact ⟨_, h, rfl⟩ | cases h
  | pan v => cases h
noncomputable def ev1 (x : X) (T : K.Tb) (n : Nat) (f : FuncId) (args : List V) (ok : Res → Bool) : Bool := match K.evF x T n f args K.HT.nil with
  | some p => match Nat.beq p.2.n 0 with
    | true => ok p.1
    | false => false
  | none => false
theorem ex_of {x : X} (hx : XOk x) (hl : XLow x) {T : K.Tb} (hT : K.TbOk x T) {n : Nat} {f : FuncId} {args : List V} {ok : Res → Bool} (h : ev1 x T n f args ok = true) : ∃ r, ok r = true ∧ PCalls x f args fun a => a = r := by
  unfold ev1 at h
  cases he : K.evF x T n f args K.HT.nil with
  | none => rw [he] at h; cases h
  | some p =>
    rw [he] at h
    simp only at h
    split at h
    · rename_i hb
      have := K.evF_pure hx hl hT (r := p.1) (h := p.2) he (K.nbeq hb)
      exact ⟨p.1, h, this.mono fun a b hab => ⟨hab.1, hab.2⟩⟩
    · cases h
def N32 (l : List V) : List V := [.int .u8 (intAt l 0), .int .u8 (intAt l 1), .int .u8 (intAt l 2), .int .u8 (intAt l 3), .int .u8 (intAt l 4), .int .u8 (intAt l 5), .int .u8 (intAt l 6), .int .u8 (intAt l 7), .int .u8 (intAt l 8), .int .u8 (intAt l 9), .int .u8 (intAt l 10), .int .u8 (intAt l 11), .int .u8 (intAt l 12), .int .u8 (intAt l 13), .int .u8 (intAt l 14), .int .u8 (intAt l 15), .int .u8 (intAt l 16), .int .u8 (intAt l 17), .int .u8 (intAt l 18), .int .u8 (intAt l 19), .int .u8 (intAt l 20), .int .u8 (intAt l 21), .int .u8 (intAt l 22), .int .u8 (intAt l 23), .int .u8 (intAt l 24), .int .u8 (intAt l 25), .int .u8 (intAt l 26), .int .u8 (intAt l 27), .int .u8 (intAt l 28), .int .u8 (intAt l 29), .int .u8 (intAt l 30), .int .u8 (intAt l 31)]
def E5 (l : List V) : List V := [.int .u64 (intAt l 0), .int .u64 (intAt l 1), .int .u64 (intAt l 2), .int .u64 (intAt l 3), .int .u64 (intAt l 4)]
theorem N32_id {l : List V} (h : isK .u8 32 l = true) : N32 l = l := cellsK_eq h
def C0 : K.Tb := DX.T (fun _ _ => none) fun _ _ _ => none
theorem C0.ok : K.TbOk DX C0 := DX.tok _ _ (fun g args v h => by cases h) fun g args h r h' he => by cases he

end Go.Proofs.YtfinnljkcgglfaaDoor
