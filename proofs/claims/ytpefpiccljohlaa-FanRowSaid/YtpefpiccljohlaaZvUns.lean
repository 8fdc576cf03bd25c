/- What the builder of strings asks of memory seen as bytes. -/
import Derived.Test.YtpefpiccljohlaaZvRun8
import Derived.Lib.UnsafeStr
import Derived.Lib.Builder
import Derived.Laws.Externs
namespace Go.Vs
open Go.RowKit

section
variable {w0 w w' : World} {E : Env} {h : Hp} {x : X}

theorem cell_freeze (w : World) (a : Addr) (n : Nat) (b : Addr) : (w.freeze a n).cell? b = w.cell? b := by
  unfold World.freeze
  split
  · rfl
  · unfold World.cell?
    simp only [Array.getElem?_modify]
    by_cases hb : a.block = b.block
    · simp only [hb, if_true]
      cases w.heap[b.block]? with
      | none => rfl
      | some o => cases o <;> rfl
    · simp only [hb, if_false]

theorem shape_freeze (w : World) (a : Addr) (n : Nat) (b : Nat) : (w.freeze a n).shape? b = w.shape? b := by
  unfold World.freeze
  split
  · rfl
  · unfold World.shape?
    simp only [Array.getElem?_modify]
    by_cases hb : a.block = b
    · simp only [hb, if_true]
      cases w.heap[b]? with
      | none => rfl
      | some o => cases o <;> rfl
    · simp only [hb, if_false]

theorem heap_freeze (w : World) (a : Addr) (n c : Nat) (hc : c ≠ a.block) : (w.freeze a n).heap[c]? = w.heap[c]? := by
  unfold World.freeze
  split
  · rfl
  · simp only [Array.getElem?_modify]
    rw [if_neg (fun e => hc e.symm)]

theorem size_freeze (w : World) (a : Addr) (n : Nat) : (w.freeze a n).heap.size = w.heap.size := by
  unfold World.freeze
  split <;> simp

/-- A typed block of the call's own is frozen: nothing is told of it any more. -/
theorem SR.ice (H : SR w0 E h w) {β : Nat} {cs : List V} {T : TypeId} (hg : hget h β = some (.cells cs (some T))) {l : Loc} (hm : E.mu β = some l) (n : Nat) :
    SR w0 (E.kill β) (h.set β none) (w.freeze ⟨l.b, l.base, none⟩ n) := by
  obtain ⟨l2, hm2, hb⟩ := H.live hg
  rw [hm] at hm2; cases hm2
  obtain ⟨hT, hB, hlt, hown, hcs⟩ := hb
  obtain ⟨h0, m, hsh, hall⟩ := hT T rfl
  have hk := H.kill β
  have hbel : Below w0.heap.size w0 (w.freeze ⟨l.b, l.base, none⟩ n) := Lib.below_freeze hk.below hB n
  refine ⟨hk.len, hbel, fun b p v hf => by rw [cell_freeze]; exact hk.frz b p v hf, fun γ y hy => ?_, hk.non, hk.dis, hk.dfr, fun b p ho => ⟨by rw [size_freeze]; exact (hk.old b p ho).1, (hk.old b p ho).2⟩⟩
  obtain ⟨l', hm', hb'⟩ := hk.blk γ y hy
  have hm2 : E.mu γ = some l' ∧ γ ≠ β := by
    simp only [Env.kill] at hm'
    split at hm'
    · cases hm'
    · rename_i hne; exact ⟨hm', hne⟩
  refine ⟨l', hm', ?_⟩
  by_cases hbb : l'.b = l.b
  · cases y with
    | cells cs' ty' =>
      obtain ⟨g0, g1, g2, g3, g4⟩ := hb'
      have hno : ∀ b o, ¬ l'.own b o := fun b o ho => by
        obtain ⟨e, h1, _⟩ := g3 b o ho
        subst e
        rw [hbb] at h1
        have hlto : o < m := by
          unfold World.cell? at h1
          unfold World.shape? at hsh
          split at hsh
          · rename_i c e' fr hcc
            cases hsh
            simp only [hcc] at h1
            rcases Nat.lt_or_ge o c.size with h' | h'
            · exact h'
            · rw [Array.getElem?_eq_none h'] at h1; cases h1
          · cases hsh
        have := hall o hlto
        rw [← hbb] at this
        exact hm2.2 (H.dis γ β l' l _ _ hm2.1 hm ho this)
      refine ⟨g0.mono fun s hs => by rw [shape_freeze]; exact hs, g1, by rw [size_freeze]; exact g2, fun b o ho => (hno b o ho).elim, fun j hj => ((hno _ _ (g4 j hj).1).elim)⟩
    | map es =>
      obtain ⟨g1, g0, g2, ms, clock, g3, g4⟩ := hb'
      unfold World.shape? at hsh
      rw [hbb] at g3
      rw [g3] at hsh
      cases hsh
  · exact hb'.mono (Le.refl _) (by rw [size_freeze]; exact Nat.le_refl _) (by rw [heap_freeze _ _ _ _ hbb])

theorem does_toU {s d t : TypeId} {j : TypeInfo} {a : V} {u : Value} (H : SR w0 E h w) (hs : x.P.underlying s = some (.pointer t)) (hd : x.P.underlying d = some .unsafePointer) (hj : x.P.info? t = some j) (hjs : j.size ≠ 0) (hv : VR E a u) {v : V}
    (hr : (a = .nptr ∧ v = .nptr) ∨ (∃ b o l, a = .ptr b o ∧ rd h (.ptr b o) 1 = some l ∧ v = .ptr b o)) :
    Does x w0 E w ((do pure (.value (← convert s d u)) : Sem Next).run x.P w) (some (.val v h)) := by
  rcases hr with ⟨rfl, rfl⟩ | ⟨b, o, l, rfl, hrd, rfl⟩
  · cases hv
    exact Does.same (u := .pointer none) H (by simp [convert, run_underlying hs, run_underlying hd, Conv.unsafePointer]) .nptr
  · obtain ⟨b', p, vs, rfl, hrow, hln⟩ := rd_row H hv hrd
    have hvl : 0 < vs.length := by rw [hrow.1, hln]; exact Nat.one_pos
    have hc := (hrow.2 0 _ (List.getElem?_eq_getElem hvl)).1
    have hsh : ∃ e cells, w.shape? b' = some (e, cells) ∧ p < cells := by
      unfold World.cell? at hc
      unfold World.shape?
      simp only [Nat.add_zero] at hc
      split at hc
      · rename_i c e fr hcc
        refine ⟨e, c.size, rfl, ?_⟩
        simp at hc
        rcases Nat.lt_or_ge p c.size with h' | h'
        · exact h'
        · rw [Array.getElem?_eq_none h'] at hc; cases hc
      · cases hc
    obtain ⟨e, cells, hsh, hlt⟩ := hsh
    refine Does.same (u := .pointer (some ⟨b', p, none⟩)) H ?_ hv
    simp only [Sem.run_bind, Lib.run_to_unsafe w ⟨b', p, none⟩ hs hd hj hjs hsh hlt, Result.andThen_ok]
    rfl

theorem liesAt_self {P : Program} {e : TypeId} (hc : P.cellsOf e ≠ 0) (count n : Nat) (hn : n ≤ count) : liesAt P P.depth e count 0 e n = true := by
  have hd : P.depth = (2 * (P.types.size + Made.depth) + 1) + 1 := rfl
  rw [hd]
  simp only [liesAt, Bool.or_eq_true]
  left
  rw [hd]
  simp [rowAt, hc, hn, sameLayout]

theorem typed_lt {cs : List V} {T : TypeId} {l : Loc} (hb : BR w0.heap.size E w l (.cells cs (some T))) : l.base = 0 ∧ ∃ m, w.shape? l.b = some (T, m) ∧ cs.length ≤ m := by
  obtain ⟨hT, hB, hlt, hown, hcs⟩ := hb
  obtain ⟨h0, m, hsh, _⟩ := hT T rfl
  refine ⟨h0, m, hsh, ?_⟩
  rcases Nat.lt_or_ge m cs.length with h' | h'
  · obtain ⟨_, v, hc, _⟩ := hcs m h'
    unfold World.cell? at hc
    unfold World.shape? at hsh
    split at hsh
    · rename_i c e' fr hcc
      cases hsh
      simp only [hcc, h0, Nat.zero_add] at hc
      simp at hc
    · cases hsh
  · exact h'

theorem does_frU {s d t : TypeId} {j : TypeInfo} {n : Nat} {a : V} {u : Value} (H : SR w0 E h w) (hs : x.P.underlying s = some .unsafePointer) (hd : x.P.underlying d = some (.pointer t)) (hj : x.P.info? t = some j) (hn : x.P.cellsOf t = n) (hn0 : n ≠ 0) (hv : VR E a u) {v : V}
    (hr : (a = .nptr ∧ v = .nptr) ∨ (∃ b cs, a = .ptr b 0 ∧ hget h b = some (.cells cs (some t)) ∧ n ≤ cs.length ∧ v = .ptr b 0)) :
    Does x w0 E w ((do pure (.value (← convert s d u)) : Sem Next).run x.P w) (some (.val v h)) := by
  rcases hr with ⟨rfl, rfl⟩ | ⟨b, cs, rfl, hg, hle, rfl⟩
  · cases hv
    exact Does.same (u := .pointer none) H (by simp [convert, run_underlying hs, run_underlying hd, Conv.unsafePointer]) .nptr
  · obtain ⟨l, hm, hb⟩ := H.live hg
    obtain ⟨h0, m, hsh, hlm⟩ := typed_lt hb
    have hv' := hv
    cases hv with
    | ptr _ _ ad hlt hh =>
      have had := hh l hm
      rw [h0] at had
      subst had
      refine Does.same (u := .pointer (some ⟨l.b, 0, none⟩)) H ?_ hv'
      have hl := liesAt_self (P := x.P) (e := t) (by rw [hn]; exact hn0) (m / x.P.cellsOf t) 1 (by rw [hn]; exact (Nat.le_div_iff_mul_le (by omega)).2 (by omega))
      simp only [Nat.add_zero, Sem.run_bind, Lib.run_from_unsafe w ⟨l.b, 0, none⟩ hs hd hj hsh hl, Result.andThen_ok]
      rfl

theorem does_pne {t e : TypeId} {p1 p2 : Operand} {b o : Nat} {ua ub : Value} (H : SR w0 E h w) (hu : x.P.underlying t = some (.pointer e)) (hi : (x.P.info? e).isSome = true) (ha : VR E (.ptr b o) ua) (hb : VR E (.ptr b o) ub) (hg : (hget h b).isSome = true) :
    Does x w0 E w ((do pure (.value (← (do eqGuard .neq t p1 p2 ua ub; binOp .neq t ua ub))) : Sem Next).run x.P w) (some (.val (.bool false) h)) := by
  obtain ⟨y, hy⟩ := Option.isSome_iff_exists.1 hg
  obtain ⟨l, hm, _⟩ := H.blk b y (hget_spec hy)
  obtain ⟨j, hj⟩ := Option.isSome_iff_exists.1 hi
  cases ha with
  | ptr _ _ a1 n1 h1 =>
    cases hb with
    | ptr _ _ a2 n2 h2 =>
      have e1 := h1 l hm
      have e2 := h2 l hm
      subst e1
      subst e2
      refine Does.same (u := .bool false) H ?_ (.bool _)
      have hge : (eqGuard .neq t p1 p2 (.pointer (some ⟨l.b, l.base + o, none⟩)) (.pointer (some ⟨l.b, l.base + o, none⟩))).run x.P w = .ok () w :=
        eqGuard_other (fun _ _ h => by cases h.1) (fun h => by cases h)
      simp only [Sem.run_bind, hge, Result.andThen_ok, Lib.run_neq_ptr_same w _ hu hj]
      rfl

theorem does_noEsc {fn : Func} {f : FuncId} {a : V} {u : Value} (H : SR w0 E h w) (hf : x.P.funcs[f]? = some fn) (hn : fn.name = "internal/abi.NoEscape") (ho : fn.origin = "") (hb : fn.body.isNone = true) (hv : VR E a u) :
    Does x w0 E w ((callFunc f #[u]).run x.P w) (some (.val a h)) := by
  have h1 : Extern.findNext fn = none := by
    unfold Extern.findNext
    rw [ho, hn]
    rfl
  have h2 : Extern.find fn = some Extern.AbiNoEscape.same := by
    unfold Extern.find
    rw [ho, hn]
    rfl
  rw [run_callFunc_extern hf (by rw [hn]; rfl) hb h1 h2]
  exact Does.same H rfl hv

theorem does_sld {ts : Array TypeId} {ty : TypeId} {a v : V} {u : Value} (H : SR w0 E h w) (hv : VR E a u) (hr : (a = .nsl ∧ v = .nptr) ∨ (∃ b off len cap ex es ag, a = .sl b off len cap ex es ag ∧ 0 < cap ∧ v = .ptr b off)) :
    Does x w0 E w ((do pure (.value (← Builtin.unsafeSliceData_ ts ty #[u])) : Sem Next).run x.P w) (some (.val v h)) := by
  rcases hr with ⟨rfl, rfl⟩ | ⟨b, off, len, cap, ex, es, ag, rfl, hc, rfl⟩
  · cases hv
    exact Does.same (u := .pointer none) H rfl .nptr
  · cases hv with
    | sl _ _ _ _ _ _ _ ad cap' hn hl hc' hex hh =>
      refine Does.same (u := .pointer (some ad)) H ?_ (.ptr _ _ _ hn fun l hl => ((hh l hl).1.resolve_left (by omega)))
      simp only [Sem.run_bind, Lib.run_unsafeSliceData_row w ts ty ad len cap' (by omega), Result.andThen_ok]
      rfl

theorem does_ustr_nil {pt it ty : TypeId} {a : V} {u : Value} (H : SR w0 E h w) (hv : VR E a u) (hp : a = .nptr ∨ ∃ b o, a = .ptr b o) :
    Does x w0 E w ((do pure (.value (← Builtin.unsafeString_ #[pt, it] ty #[u, .int .i64 0])) : Sem Next).run x.P w) (some (.val (.str []) h)) := by
  have : ∃ p, u = .pointer p := by
    rcases hp with rfl | ⟨b, o, rfl⟩ <;> cases hv
    · exact ⟨_, rfl⟩
    · exact ⟨_, rfl⟩
  obtain ⟨p, rfl⟩ := this
  refine Does.same (u := .string .empty) H ?_ (.str [])
  simp only [Sem.run_bind, Lib.run_unsafeString_none w pt it ty p, Result.andThen_ok]
  rfl

theorem run_loadBytes {P : Program} (w : World) : ∀ (l : List Int) (a : Addr) (acc : ByteArray), (∀ j q, l[j]? = some q → w.cell? (a.add j) = some (.int .u8 q)) →
    (loadBytes a acc l.length).run P w = .ok ⟨acc.data ++ (l.map fun q => UInt8.ofNat q.toNat).toArray⟩ w
  | [], a, acc, _ => by simp [loadBytes]
  | q :: l, a, acc, h => by
    have h0 : w.cell? a = some (.int .u8 q) := by
      have := h 0 q rfl
      simpa [Addr.add] using this
    have ih := run_loadBytes (P := P) w l (a.add 1) (acc.push (UInt8.ofNat q.toNat)) (fun j y hy => by
      have := h (j + 1) y (by simpa using hy)
      have e : (a.add 1).add j = a.add (j + 1) := by
        unfold Addr.add
        by_cases hj : j = 0
        · subst hj; simp
        · simp [hj]; omega
      rw [e]; exact this)
    have hx : q.toNat.toUInt8 = UInt8.ofNat q.toNat := rfl
    simp only [List.length_cons, loadBytes, Sem.run_bind, run_load, h0, Result.andThen, hx]
    rw [ih]
    congr 1
    apply ByteArray.ext
    simp [ByteArray.push]

theorem run_ustr {P : Program} (w : World) (pt it ty e : TypeId) (hp : P.underlying pt = some (.pointer e)) (hc : P.cellsOf e = 1) (g cells : Nat) (hsh : w.shape? g = some (e, cells)) (l : List Int) (h0 : l ≠ []) (hn : l.length ≤ cells) (h63 : l.length ≤ 9223372036854775807)
    (hcell : ∀ j q, l[j]? = some q → w.cell? ((⟨g, 0, none⟩ : Addr).add j) = some (.int .u8 q)) :
    (Builtin.unsafeString_ #[pt, it] ty #[.pointer (some ⟨g, 0, none⟩), .int .i64 l.length]).run P w = .ok (.string ⟨(l.map fun q => UInt8.ofNat q.toNat).toArray⟩) (w.freeze ⟨g, 0, none⟩ l.length) := by
  have hl : l.length ≠ 0 := by simpa using h0
  have hlb := run_loadBytes (P := P) w l ⟨g, 0, none⟩ .empty hcell
  have hlies := Lib.liesAt_bytes (P := P) hc (cells / P.cellsOf e) l.length (by rw [hc]; simpa using hn)
  have h63' : ¬ (9223372036854775807 : Int) < (l.length : Int) := by omega
  have hdef : Builtin.unsafeString_ #[pt, it] ty #[.pointer (some ⟨g, 0, none⟩), .int .i64 l.length] =
      (do
        let n ← asInt (.int .i64 l.length)
        if n < 0 then runtimePanic (.error "unsafe.String: len out of range")
        if n > IntKind.i64.max then unsupported (.unsafePointer "String: a length above the largest int")
        if n = 0 then pure (.string .empty)
        else if ← variablesAt ⟨g, 0, none⟩ (← elemOf pt) n.toNat then do
          let s ← loadBytes ⟨g, 0, none⟩ .empty n.toNat
          freeze ⟨g, 0, none⟩ n.toNat
          pure (.string s)
        else unsupported (.unsafePointer "String: not so many bytes at ptr")) := rfl
  rw [hdef]
  have hmax : IntKind.i64.max = 9223372036854775807 := rfl
  have hneg : ¬ (l.length : Int) < 0 := by omega
  simp [asInt, asIntOf, hmax, h63', hneg, hl, variablesAt, hsh, elemOf, run_underlying hp, hlies, hlb]

theorem does_ustr {pt it ty e : TypeId} {b : Nat} {n : Int} {cs l : List V} {u : Value} (H : SR w0 E h w) (hp : x.P.underlying pt = some (.pointer e)) (hc : x.P.cellsOf e = 1) (hv : VR E (.ptr b 0) u) (hg : hget h b = some (.cells cs (some e))) (h0 : 0 ≤ n) (hn0 : n ≠ 0) (hmax : n ≤ 9223372036854775807)
    (hs : sub cs 0 n.toNat = some l) (hb : ∀ c ∈ l, c.isByte = true) :
    Does x w0 E w ((do pure (.value (← Builtin.unsafeString_ #[pt, it] ty #[u, .int .i64 n])) : Sem Next).run x.P w) (some (.val (.str (l.map fun | .int _ n => UInt8.ofNat n.toNat | _ => 0)) (h.set b none))) := by
  obtain ⟨lc, hm, hbr⟩ := H.live hg
  obtain ⟨hz, m, hsh, hlm⟩ := typed_lt hbr
  obtain ⟨hle, hln, _⟩ := sub_spec hs
  obtain ⟨vs, hrow⟩ := BR.row hbr hs
  have hsr := H.ice hg hm n.toNat
  cases hv with
  | ptr _ _ ad hlt hh =>
    have had := hh lc hm
    rw [hz] at had hsr
    subst had
    have hqs : (l.map fun | .int _ n => UInt8.ofNat n.toNat | _ => 0) = (l.map fun | .int _ n => n | _ => 0).map fun q => UInt8.ofNat q.toNat := by
      rw [List.map_map]
      refine List.map_congr_left fun c hc => ?_
      have hby := hb c hc
      cases c <;> simp [V.isByte] at hby
      rfl
    rw [hqs]
    generalize hbs : (l.map fun | .int _ n => n | _ => (0 : Int)) = bs
    have hbl : bs.length = n.toNat := by rw [← hbs]; simp [hln]
    have hnn : n = (bs.length : Int) := by omega
    have hcell : ∀ j q, bs[j]? = some q → w.cell? ((⟨lc.b, 0, none⟩ : Addr).add j) = some (.int .u8 q) := fun j y hy => by
      rw [← hbs, List.getElem?_map] at hy
      cases hlj : l[j]? with
      | none => rw [hlj] at hy; cases hy
      | some c =>
        rw [hlj] at hy
        simp only [Option.map_some, Option.some.injEq] at hy
        have hj : j < l.length := (List.getElem?_eq_some_iff.1 hlj).1
        have hjv : j < vs.length := by rw [hrow.1]; exact hj
        obtain ⟨h1, _, h3⟩ := hrow.2 j _ (List.getElem?_eq_getElem hjv)
        have hcv := h3 c hlj
        have hby := hb c (List.mem_of_getElem? hlj)
        simp only [hz, Nat.zero_add] at h1
        rw [Addr.add_none, Nat.zero_add, h1]
        generalize vs[j] = v at hcv
        cases hcv <;> simp [V.isByte] at hby
        rename_i k q
        cases k <;> simp at hby
        simp only at hy
        rw [← hy]
    refine ⟨.string ⟨(bs.map fun q => UInt8.ofNat q.toNat).toArray⟩, E.kill b, w.freeze ⟨lc.b, 0, none⟩ bs.length, Le.kill E b, ?_, .str _, by rw [hbl]; exact hsr⟩
    rw [hnn]
    have := run_ustr (P := x.P) w pt it ty e hp hc lc.b m hsh bs (by intro e; rw [e] at hbl; simp at hbl; omega) (by rw [hbl]; omega) (by omega) hcell
    simp only [Nat.add_zero, Sem.run_bind, this, Result.andThen_ok]
    rfl

end
end Go.Vs
