/- Arguments that are read as data: what their cells are. Own work; generic over any program. -/
import Derived.Test.YtamfkofcpoglnaaMt
import Derived.ProofKit
import Derived.SizedLaws
set_option autoImplicit false
set_option linter.all false
set_option maxRecDepth 100000
set_option linter.unusedVariables false
namespace Go.Vc

/-- The cells read as a datum of a type, no piece of which is too great. -/
def Rdt {D : Type} (enc : TypeId × Value → D) (P : Program) (W : World) (t : TypeId) (cs : List Value) : Prop :=
  ∃ fuel x, DataW.trod enc P W 0 (fun _ => true) true fuel t cs = some x ∧ ∀ n, n ∈ DataW.weights P t x.1 → n ≤ reachBytes

inductive XSh where
  | int (k : IntKind) | bool | str | slc (e : TypeId) | row (k : IntKind) (n : Nat)
def XSh.size : XSh → Nat
  | .row _ n => n
  | _ => 1
def xSize : List XSh → Nat
  | [] => 0
  | s :: r => s.size + xSize r

/-- The fields of a struct, one behind the other. -/
def xFields (sh : TypeId → Option (List XSh)) : Nat → List Field → Option (List XSh)
  | _, [] => some []
  | off, f :: fs => match Nat.beq f.offset off, sh f.type with
    | true, some s => (xFields sh (off + xSize s) fs).map (s ++ ·)
    | _, _ => none
def xsh (P : Program) : Nat → TypeId → Option (List XSh)
  | 0, _ => none
  | d + 1, t => match P.underlying t with
    | some (.int k) => some [.int k]
    | some .bool => some [.bool]
    | some .string => some [.str]
    | some (.slice e) => some [.slc e]
    | some (.array n e) => match P.underlying e, Nat.beq (P.cellsOf e) 1, Nat.beq (P.cellsOf t) n with
      | some (.int k), true, true => some [.row k n]
      | _, _, _ => none
    | some (.struct fs) => match xFields (fun u => match xsh P d u with | some s => (match Nat.beq (P.cellsOf u) (xSize s) with | true => some s | false => none) | none => none) 0 fs.toList with
      | some s => match Nat.beq (P.cellsOf t) (xSize s) with | true => some s | false => none
      | none => none
    | _ => none

/-- A slice of so many elements of a type. -/
def Sli {D : Type} (enc : TypeId × Value → D) (P : Program) (W : World) (e : TypeId) (p : Option Addr) (l c : Nat) : Prop :=
  l ≤ c ∧ c * P.bytesOf e ≤ reachBytes ∧ (p = none → l = 0 ∧ c = 0) ∧
    ∀ i, i < l → ∃ a es, p = some a ∧ es.length = P.cellsOf e ∧ hcs W.heap (a.add (i * P.cellsOf e)) es ∧ Rdt enc P W e es
def has (k : IntKind) (n : Int) : Prop := k.min ≤ n ∧ n ≤ k.max
theorem has_u8 {n : Int} (h : has .u8 n) : 0 ≤ n ∧ n < 256 := by
  have h1 : IntKind.u8.min = 0 := rfl
  have h2 : IntKind.u8.max = 255 := by decide
  unfold has at h; omega
theorem has_i64 {n : Int} (h : has .i64 n) : -(2 ^ 63) ≤ n ∧ n < 2 ^ 63 := by
  have h1 : IntKind.i64.min = -(2 ^ 63) := by decide
  have h2 : IntKind.i64.max = 2 ^ 63 - 1 := by decide
  unfold has at h; omega
def XM {D : Type} (enc : TypeId × Value → D) (P : Program) (W : World) : List XSh → List Value → Prop
  | [], cs => cs = []
  | .int k :: r, cs => ∃ n rest, cs = .int k n :: rest ∧ has k n ∧ XM enc P W r rest
  | .bool :: r, cs => ∃ b rest, cs = .bool b :: rest ∧ XM enc P W r rest
  | .str :: r, cs => ∃ s rest, cs = .string s :: rest ∧ s.size ≤ reachBytes ∧ XM enc P W r rest
  | .slc e :: r, cs => ∃ p l c rest, cs = .slice p l c :: rest ∧ Sli enc P W e p l c ∧ XM enc P W r rest
  | .row k n :: r, cs => ∃ ns rest, cs = ints k ns ++ rest ∧ ns.length = n ∧ (∀ x, x ∈ ns → has k x) ∧ XM enc P W r rest

section
variable {D : Type} {enc : TypeId × Value → D} {P : Program} {W : World}
theorem XM.append : ∀ {s1 s2 : List XSh} {c1 c2 : List Value}, XM enc P W s1 c1 → XM enc P W s2 c2 → XM enc P W (s1 ++ s2) (c1 ++ c2)
  | [], s2, c1, c2, h1, h2 => by simp only [XM] at h1; subst h1; exact h2
  | .int k :: r, s2, c1, c2, h1, h2 => by obtain ⟨n, rest, rfl, hn, h⟩ := h1; exact ⟨n, rest ++ c2, rfl, hn, XM.append h h2⟩
  | .bool :: r, s2, c1, c2, h1, h2 => by obtain ⟨n, rest, rfl, h⟩ := h1; exact ⟨n, rest ++ c2, rfl, XM.append h h2⟩
  | .str :: r, s2, c1, c2, h1, h2 => by obtain ⟨n, rest, rfl, hn, h⟩ := h1; exact ⟨n, rest ++ c2, rfl, hn, XM.append h h2⟩
  | .slc e :: r, s2, c1, c2, h1, h2 => by obtain ⟨p, l, c, rest, rfl, hn, h⟩ := h1; exact ⟨p, l, c, rest ++ c2, rfl, hn, XM.append h h2⟩
  | .row k n :: r, s2, c1, c2, h1, h2 => by obtain ⟨ns, rest, rfl, hn, hh, h⟩ := h1; exact ⟨ns, rest ++ c2, by simp, hn, hh, XM.append h h2⟩
theorem XM.len : ∀ {s : List XSh} {c : List Value}, XM enc P W s c → c.length = xSize s
  | [], c, h => by simp only [XM] at h; subst h; rfl
  | .int k :: r, c, h => by obtain ⟨n, rest, rfl, _, h⟩ := h; simp [xSize, XSh.size, XM.len h]; omega
  | .bool :: r, c, h => by obtain ⟨n, rest, rfl, h⟩ := h; simp [xSize, XSh.size, XM.len h]; omega
  | .str :: r, c, h => by obtain ⟨n, rest, rfl, _, h⟩ := h; simp [xSize, XSh.size, XM.len h]; omega
  | .slc e :: r, c, h => by obtain ⟨p, l, c, rest, rfl, _, h⟩ := h; simp [xSize, XSh.size, XM.len h]; omega
  | .row k n :: r, c, h => by obtain ⟨ns, rest, rfl, hn, _, h⟩ := h; simp [xSize, XSh.size, XM.len h, hn]

theorem wf_has {k : IntKind} {n : Int} (h : (Lit.int k n).wf = true) : has k n := by
  simp only [Lit.wf, Bool.and_eq_true, decide_eq_true_eq] at h
  exact h
theorem cells_hcs {a : Addr} {n : Nat} {es : List Value} (h : W.cells? 0 a n = some es) : es.length = n ∧ hcs W.heap a es := by
  simp only [World.cells?, Nat.zero_le, if_true] at h
  have hl : es.length = n := by simpa using mapM_some_length h
  refine ⟨hl, fun i v hv => ?_⟩
  have hi : i < n := by have := (List.getElem?_eq_some_iff.1 hv).1; omega
  have := mapM_some_get h i i (by simp [hi])
  rw [hv, cell_hc] at this
  exact this
theorem weights_mem_all {e : TypeId} : ∀ {ds : List (DataW D)} {d : DataW D}, d ∈ ds → ∀ n, n ∈ DataW.weights P e d → n ∈ DataW.weightsAll P e ds
  | d0 :: ds, d, hd, n, hn => by
    simp only [DataW.weightsAll, List.mem_append]
    rcases List.mem_cons.1 hd with rfl | hd
    · exact Or.inl hn
    · exact Or.inr (weights_mem_all hd n hn)

theorem Rdt.slice {t e : TypeId} {cs : List Value} (u : P.underlying t = some (.slice e)) (h : Rdt enc P W t cs) : ∃ p l c, cs = [.slice p l c] ∧ Sli enc P W e p l c := by
  obtain ⟨fuel, x, h, hw⟩ := h
  rcases DataW.trod_slice u h with ⟨rfl, rfl⟩ | ⟨a, len, cap, elems, rest, n, rfl, rfl, rfl, _, hl, hc, he, h1, h2, _⟩
  · exact ⟨none, 0, 0, rfl, Nat.le_refl _, by simp, fun _ => ⟨rfl, rfl⟩, fun i hi => by omega⟩
  · refine ⟨some a, len, cap, rfl, hl, ?_, by simp, ?_⟩
    · obtain ⟨h3, _⟩ := h2 rfl
      have := hw ((elems.length + rest.length) * P.bytesOf e) (by simp [DataW.weights, u])
      rw [he, h3] at this
      rwa [show len + (cap - len) = cap by omega] at this
    · intro i hi
      have h4 := h1 i hi
      have hei : i < elems.length := by omega
      rw [List.getElem?_eq_getElem hei] at h4
      obtain ⟨es, h5, h6⟩ := Option.bind_eq_some_iff.1 h4
      obtain ⟨h7, h8⟩ := cells_hcs h5
      refine ⟨a, es, rfl, h7, h8, n, elems[i], h6, fun m hm => hw m ?_⟩
      simp only [DataW.weights, u, List.mem_cons, List.mem_append]
      exact Or.inr (Or.inl (weights_mem_all (List.mem_map_of_mem (List.getElem_mem hei)) m hm))
theorem array_ints {t e : TypeId} {n : Nat} {k : IntKind} {cs : List Value} (u : P.underlying t = some (.array n e)) (ue : P.underlying e = some (.int k)) (h1 : P.cellsOf e = 1) (h2 : P.cellsOf t = n) (h : Rdt enc P W t cs) :
    ∃ ns : List Int, cs = ints k ns ∧ ns.length = n ∧ ∀ x, x ∈ ns → has k x := by
  obtain ⟨fuel, x, h, _⟩ := h
  cases fuel with
  | zero => simp [DataW.trod] at h
  | succ f =>
    have key : cs.length = n ∧ ∀ i, i < n → ∃ m, cs[i]? = some (.int k m) ∧ has k m := by
      unfold DataW.trod at h
      rw [u] at h
      have h : (if cs.length = P.cellsOf t then ((List.range n).mapM fun i => DataW.trod enc P W 0 (fun _ => true) true f e ((cs.drop (i * P.cellsOf e)).take (P.cellsOf e))).map fun xs => (DataW.agg (xs.map (·.1)), xs.flatMap (·.2)) else none) = some x := by
        split at h <;> simp_all
      split at h
      · rename_i hl
        obtain ⟨xs, hm, _⟩ := Option.map_eq_some_iff.1 h
        refine ⟨by omega, fun i hi => ?_⟩
        have hg := mapM_some_get hm i i (by simp [hi])
        have hxl : xs.length = n := by simpa using mapM_some_length hm
        rw [List.getElem?_eq_getElem (show i < xs.length by omega)] at hg
        obtain ⟨m, hm1, _, hm2⟩ := DataW.trod_int ue hg
        rw [h1, Nat.mul_one] at hm1
        refine ⟨m, ?_, wf_has hm2⟩
        have : ((cs.drop i).take 1)[0]? = some (.int k m) := by rw [hm1]; rfl
        rw [List.getElem?_take_of_lt (by omega), List.getElem?_drop] at this
        simpa using this
      · cases h
    obtain ⟨hl, hc⟩ := key
    refine ⟨cs.map fun v => match v with | .int _ m => m | _ => 0, ?_, by simpa using hl, ?_⟩
    · apply List.ext_getElem?
      intro i
      rw [ints_get, List.getElem?_map, Option.map_map]
      by_cases hi : i < n
      · obtain ⟨m, e, _⟩ := hc i hi
        rw [e]; rfl
      · rw [List.getElem?_eq_none (by omega)]; rfl
    · intro x hx
      obtain ⟨v, hv, rfl⟩ := List.mem_map.1 hx
      obtain ⟨i, hi, rfl⟩ := List.mem_iff_getElem.1 hv
      obtain ⟨m, e, hm⟩ := hc i (by omega)
      rw [List.getElem?_eq_getElem hi] at e
      injection e with e
      rw [e]; exact hm
theorem xFields_XM {sh : TypeId → Option (List XSh)} {cs : List Value} (ih : ∀ u s c, sh u = some s → Rdt enc P W u c → XM enc P W s c) (hz : ∀ u s, sh u = some s → P.cellsOf u = xSize s) :
    ∀ (fs : List Field) (off : Nat) (s : List XSh), xFields sh off fs = some s → off + xSize s ≤ cs.length → (∀ f, f ∈ fs → Rdt enc P W f.type ((cs.drop f.offset).take (P.cellsOf f.type))) → XM enc P W s ((cs.drop off).take (xSize s))
  | [], off, s, h, _, _ => by simp only [xFields, Option.some.injEq] at h; subst h; simp [XM, xSize]
  | f :: fs, off, s, h, hl, hf => by
    unfold xFields at h
    split at h
    · rename_i s1 ho hs1
      obtain ⟨s2, h2, rfl⟩ := Option.map_eq_some_iff.1 h
      have ho : f.offset = off := Nat.eq_of_beq_eq_true ho
      have hx : xSize (s1 ++ s2) = xSize s1 + xSize s2 := by
        clear h h2 hs1 hl
        induction s1 with
        | nil => simp [xSize]
        | cons a r ihr => simp [xSize, ihr]; omega
      rw [hx] at hl ⊢
      have r1 := ih _ _ _ hs1 (hf f (by simp))
      rw [ho, hz _ _ hs1] at r1
      have r2 := xFields_XM ih hz fs (off + xSize s1) s2 h2 (by omega) (fun g hg => hf g (by simp [hg]))
      have e : (cs.drop off).take (xSize s1 + xSize s2) = (cs.drop off).take (xSize s1) ++ (cs.drop (off + xSize s1)).take (xSize s2) := by
        rw [List.take_add, List.drop_drop]
      rw [e]
      exact r1.append r2
    · cases h
theorem xsh_size : ∀ (d : Nat) (t : TypeId) (s : List XSh), xsh P d t = some s → True := fun _ _ _ _ => trivial
theorem Rdt.xm : ∀ (d : Nat) (t : TypeId) (s : List XSh) (cs : List Value), xsh P d t = some s → Rdt enc P W t cs → XM enc P W s cs
  | 0, t, s, cs, h, _ => by cases h
  | d + 1, t, s, cs, h, r => by
    unfold xsh at h
    split at h
    · rename_i k u
      injection h with h; subst h
      obtain ⟨fuel, x, r, _⟩ := r
      obtain ⟨n, rfl, _, hn⟩ := DataW.trod_int u r
      exact ⟨n, [], rfl, wf_has hn, rfl⟩
    · rename_i u
      injection h with h; subst h
      obtain ⟨fuel, x, r, _⟩ := r
      obtain ⟨n, rfl, _⟩ := DataW.trod_bool u r
      exact ⟨n, [], rfl, rfl⟩
    · rename_i u
      injection h with h; subst h
      obtain ⟨fuel, x, r, hw⟩ := r
      obtain ⟨n, rfl, rfl, _⟩ := DataW.trod_string u r
      refine ⟨n, [], rfl, ?_, rfl⟩
      have := hw n.data.toList.length (by simp [DataW.weights])
      simpa using this
    · rename_i e u
      injection h with h; subst h
      obtain ⟨p, l, c, rfl, hs⟩ := Rdt.slice u r
      exact ⟨p, l, c, [], rfl, hs, rfl⟩
    · rename_i n e u
      split at h
      · rename_i k ue h1 h2
        injection h with h; subst h
        obtain ⟨ns, rfl, hn, hh⟩ := array_ints u ue (Nat.eq_of_beq_eq_true h1) (Nat.eq_of_beq_eq_true h2) r
        exact ⟨ns, [], by simp, hn, hh, rfl⟩
      · cases h
    · rename_i fs u
      split at h
      · rename_i s' hx
        split at h
        · rename_i hz
          injection h with h; subst h
          have hz := Nat.eq_of_beq_eq_true hz
          obtain ⟨fuel, x, r, hw⟩ := r
          obtain ⟨xs, n, rfl, rfl, hl, hxl, hf⟩ := DataW.trod_struct u r
          have := xFields_XM (enc := enc) (W := W) (cs := cs) (fun u s c hu hr => by
              split at hu
              · rename_i s1 hs1
                split at hu
                · injection hu with hu; subst hu; exact Rdt.xm d u _ c hs1 hr
                · cases hu
              · cases hu) (fun u s hu => by
              split at hu
              · split at hu
                · rename_i hb; injection hu with hu; subst hu; exact Nat.eq_of_beq_eq_true hb
                · cases hu
              · cases hu) fs.toList 0 s' hx (by omega) (fun f hfm => by
              obtain ⟨i, hi, rfl⟩ := List.mem_iff_getElem.1 hfm
              have hi2 : i < fs.size := by simpa using hi
              have h1 := hf i fs[i] (by simp [hi2])
              rw [List.getElem?_eq_getElem (show i < xs.length by omega)] at h1
              have e : fs.toList[i] = fs[i] := by simp
              rw [e]
              refine ⟨n, _, h1, fun m hm => hw m ?_⟩
              simp only [DataW.weights, u]
              exact DataW.weights_mem_each (j := i) (by simp [hi2]) (by simp [show i < xs.length by omega]) m hm)
          rw [List.drop_zero, List.take_of_length_le (by omega)] at this
          exact this
        · cases h
      · cases h
    · cases h
end
end Go.Vc
