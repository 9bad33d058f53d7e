/- StreamPieces: what is proved and its parts, laid together by a program of ours: Rd Re Kn Cd Ch1 Cm Ag Ch2 Ch3 Ch4 Ch5 Ch6 Ch7 Ah By Mp Sh1 Sh2 -/
import Derived.ChangeSame
import Derived.ChangeVars
import Derived.JoinedOf
import Derived.LaidHandle
import Derived.LaidLaws
import Derived.Laws.Closers25b
import Derived.ProofKit
import Derived.SevenTiedAt
import Derived.SizedLaws
import Derived.Stop.Joined
import Derived.Test.YteedolonhdbieaaGreatDoorCards
import Derived.Test.YteedolonhdbieaaGreatDoorRows
import Derived.Test.YteedolonhdbieaaGreatDoorTie
import Derived.Test.YteedolonhdbieaaGreatDoorK7
set_option autoImplicit false
set_option linter.all false
/- Arguments that are read as data: what their cells are. Own work; generic over any program. -/
section
set_option maxRecDepth 100000
set_option linter.unusedVariables false
namespace Go.Vc

def Rdt {D : Type} (enc : TypeId × Value → D) (P : Program) (W : World) (t : TypeId) (cs : List Value) : Prop :=
 ∃ fuel x, DataW.trod enc P W 0 (fun _ => true) true fuel t cs = some x ∧ ∀ n, n ∈ DataW.weights P t x.1 → n ≤ reachBytes

inductive XSh where
 | int (k : IntKind) | bool | str | slc (e : TypeId) | row (k : IntKind) (n : Nat)
def XSh.size : XSh → Nat
 | .row _ n => n
 | _ => 1
def xSize : List XSh → Nat
 | [] => 0
 | s :: r => s.size + xSize r

def xFields (sh : TypeId → Option (List XSh)) : Nat → List Field → Option (List XSh)
 | _, [] => some []
 | off, f :: fs => match Nat.beq f.offset off, sh f.type with
  | true, some s => (xFields sh (off + xSize s) fs).map (s ++ ·)
  | _, _ => none
def xsh (P : Program) : Nat → TypeId → Option (List XSh)
 | 0, _ => none
 | d + 1, t => match P.underlying t with
  | some (.int k) => some [.int k]
  | some .bool => some [.bool]
  | some .string => some [.str]
  | some (.slice e) => some [.slc e]
  | some (.array n e) => match P.underlying e, Nat.beq (P.cellsOf e) 1, Nat.beq (P.cellsOf t) n with
   | some (.int k), true, true => some [.row k n]
   | _, _, _ => none
  | some (.struct fs) => match xFields (fun u => match xsh P d u with | some s => (match Nat.beq (P.cellsOf u) (xSize s) with | true => some s | false => none) | none => none) 0 fs.toList with
   | some s => match Nat.beq (P.cellsOf t) (xSize s) with | true => some s | false => none
   | none => none
  | _ => none

def Sli {D : Type} (enc : TypeId × Value → D) (P : Program) (W : World) (e : TypeId) (p : Option Addr) (l c : Nat) : Prop :=
 l ≤ c ∧ c * P.bytesOf e ≤ reachBytes ∧ (p = none → l = 0 ∧ c = 0) ∧
  ∀ i, i < l → ∃ a es, p = some a ∧ es.length = P.cellsOf e ∧ hcs W.heap (a.add (i * P.cellsOf e)) es ∧ Rdt enc P W e es
def has (k : IntKind) (n : Int) : Prop := k.min ≤ n ∧ n ≤ k.max
theorem has_u8 {n : Int} (h : has .u8 n) : 0 ≤ n ∧ n < 256 := by
 have h1 : IntKind.u8.min = 0 := rfl
 have h2 : IntKind.u8.max = 255 := by decide
 unfold has at h; omega
theorem has_i64 {n : Int} (h : has .i64 n) : -(2 ^ 63) ≤ n ∧ n < 2 ^ 63 := by
 have h1 : IntKind.i64.min = -(2 ^ 63) := by decide
 have h2 : IntKind.i64.max = 2 ^ 63 - 1 := by decide
 unfold has at h; omega
def XM {D : Type} (enc : TypeId × Value → D) (P : Program) (W : World) : List XSh → List Value → Prop
 | [], cs => cs = []
 | .int k :: r, cs => ∃ n rest, cs = .int k n :: rest ∧ has k n ∧ XM enc P W r rest
 | .bool :: r, cs => ∃ b rest, cs = .bool b :: rest ∧ XM enc P W r rest
 | .str :: r, cs => ∃ s rest, cs = .string s :: rest ∧ s.size ≤ reachBytes ∧ XM enc P W r rest
 | .slc e :: r, cs => ∃ p l c rest, cs = .slice p l c :: rest ∧ Sli enc P W e p l c ∧ XM enc P W r rest
 | .row k n :: r, cs => ∃ ns rest, cs = ints k ns ++ rest ∧ ns.length = n ∧ (∀ x, x ∈ ns → has k x) ∧ XM enc P W r rest

section
variable {D : Type} {enc : TypeId × Value → D} {P : Program} {W : World}
theorem XM.append : ∀ {s1 s2 : List XSh} {c1 c2 : List Value}, XM enc P W s1 c1 → XM enc P W s2 c2 → XM enc P W (s1 ++ s2) (c1 ++ c2)
 | [], s2, c1, c2, h1, h2 => by simp only [XM] at h1; subst h1; exact h2
 | .int k :: r, s2, c1, c2, h1, h2 => by obtain ⟨n, rest, rfl, hn, h⟩ := h1; exact ⟨n, rest ++ c2, rfl, hn, XM.append h h2⟩
 | .bool :: r, s2, c1, c2, h1, h2 => by obtain ⟨n, rest, rfl, h⟩ := h1; exact ⟨n, rest ++ c2, rfl, XM.append h h2⟩
 | .str :: r, s2, c1, c2, h1, h2 => by obtain ⟨n, rest, rfl, hn, h⟩ := h1; exact ⟨n, rest ++ c2, rfl, hn, XM.append h h2⟩
 | .slc e :: r, s2, c1, c2, h1, h2 => by obtain ⟨p, l, c, rest, rfl, hn, h⟩ := h1; exact ⟨p, l, c, rest ++ c2, rfl, hn, XM.append h h2⟩
 | .row k n :: r, s2, c1, c2, h1, h2 => by obtain ⟨ns, rest, rfl, hn, hh, h⟩ := h1; exact ⟨ns, rest ++ c2, by simp, hn, hh, XM.append h h2⟩
theorem XM.len : ∀ {s : List XSh} {c : List Value}, XM enc P W s c → c.length = xSize s
 | [], c, h => by simp only [XM] at h; subst h; rfl
 | .int k :: r, c, h => by obtain ⟨n, rest, rfl, _, h⟩ := h; simp [xSize, XSh.size, XM.len h]; omega
 | .bool :: r, c, h => by obtain ⟨n, rest, rfl, h⟩ := h; simp [xSize, XSh.size, XM.len h]; omega
 | .str :: r, c, h => by obtain ⟨n, rest, rfl, _, h⟩ := h; simp [xSize, XSh.size, XM.len h]; omega
 | .slc e :: r, c, h => by obtain ⟨p, l, c, rest, rfl, _, h⟩ := h; simp [xSize, XSh.size, XM.len h]; omega
 | .row k n :: r, c, h => by obtain ⟨ns, rest, rfl, hn, _, h⟩ := h; simp [xSize, XSh.size, XM.len h, hn]

theorem wf_has {k : IntKind} {n : Int} (h : (Lit.int k n).wf = true) : has k n := by
 simp only [Lit.wf, Bool.and_eq_true, decide_eq_true_eq] at h
 exact h
theorem cells_hcs {a : Addr} {n : Nat} {es : List Value} (h : W.cells? 0 a n = some es) : es.length = n ∧ hcs W.heap a es := by
 simp only [World.cells?, Nat.zero_le, if_true] at h
 have hl : es.length = n := by simpa using mapM_some_length h
 refine ⟨hl, fun i v hv => ?_⟩
 have hi : i < n := by have := (List.getElem?_eq_some_iff.1 hv).1; omega
 have := mapM_some_get h i i (by simp [hi])
 rw [hv, cell_hc] at this
 exact this
theorem weights_mem_all {e : TypeId} : ∀ {ds : List (DataW D)} {d : DataW D}, d ∈ ds → ∀ n, n ∈ DataW.weights P e d → n ∈ DataW.weightsAll P e ds
 | d0 :: ds, d, hd, n, hn => by
  simp only [DataW.weightsAll, List.mem_append]
  rcases List.mem_cons.1 hd with rfl | hd
  ·exact Or.inl hn
  ·exact Or.inr (weights_mem_all hd n hn)

theorem Rdt.slice {t e : TypeId} {cs : List Value} (u : P.underlying t = some (.slice e)) (h : Rdt enc P W t cs) : ∃ p l c, cs = [.slice p l c] ∧ Sli enc P W e p l c := by
 obtain ⟨fuel, x, h, hw⟩ := h
 rcases DataW.trod_slice u h with ⟨rfl, rfl⟩ | ⟨a, len, cap, elems, rest, n, rfl, rfl, rfl, _, hl, hc, he, h1, h2, _⟩
 ·exact ⟨none, 0, 0, rfl, Nat.le_refl _, by simp, fun _ => ⟨rfl, rfl⟩, fun i hi => by omega⟩
 ·refine ⟨some a, len, cap, rfl, hl, ?_, by simp, ?_⟩
  ·obtain ⟨h3, _⟩ := h2 rfl
   have := hw ((elems.length + rest.length) * P.bytesOf e) (by simp [DataW.weights, u])
   rw [he, h3] at this
   rwa [show len + (cap - len) = cap by omega] at this
  ·intro i hi
   have h4 := h1 i hi
   have hei : i < elems.length := by omega
   rw [List.getElem?_eq_getElem hei] at h4
   obtain ⟨es, h5, h6⟩ := Option.bind_eq_some_iff.1 h4
   obtain ⟨h7, h8⟩ := cells_hcs h5
   refine ⟨a, es, rfl, h7, h8, n, elems[i], h6, fun m hm => hw m ?_⟩
   simp only [DataW.weights, u, List.mem_cons, List.mem_append]
   exact Or.inr (Or.inl (weights_mem_all (List.mem_map_of_mem (List.getElem_mem hei)) m hm))
theorem array_ints {t e : TypeId} {n : Nat} {k : IntKind} {cs : List Value} (u : P.underlying t = some (.array n e)) (ue : P.underlying e = some (.int k)) (h1 : P.cellsOf e = 1) (h2 : P.cellsOf t = n) (h : Rdt enc P W t cs) :
  ∃ ns : List Int, cs = ints k ns ∧ ns.length = n ∧ ∀ x, x ∈ ns → has k x := by
 obtain ⟨fuel, x, h, _⟩ := h
 cases fuel with
 | zero => simp [DataW.trod] at h
 | succ f =>
  have key : cs.length = n ∧ ∀ i, i < n → ∃ m, cs[i]? = some (.int k m) ∧ has k m := by
   unfold DataW.trod at h
   rw [u] at h
   have h : (if cs.length = P.cellsOf t then ((List.range n).mapM fun i => DataW.trod enc P W 0 (fun _ => true) true f e ((cs.drop (i * P.cellsOf e)).take (P.cellsOf e))).map fun xs => (DataW.agg (xs.map (·.1)), xs.flatMap (·.2)) else none) = some x := by
    split at h <;> simp_all
   split at h
   ·rename_i hl
    obtain ⟨xs, hm, _⟩ := Option.map_eq_some_iff.1 h
    refine ⟨by omega, fun i hi => ?_⟩
    have hg := mapM_some_get hm i i (by simp [hi])
    have hxl : xs.length = n := by simpa using mapM_some_length hm
    rw [List.getElem?_eq_getElem (show i < xs.length by omega)] at hg
    obtain ⟨m, hm1, _, hm2⟩ := DataW.trod_int ue hg
    rw [h1, Nat.mul_one] at hm1
    refine ⟨m, ?_, wf_has hm2⟩
    have : ((cs.drop i).take 1)[0]? = some (.int k m) := by rw [hm1]; rfl
    rw [List.getElem?_take_of_lt (by omega), List.getElem?_drop] at this
    simpa using this
   ·cases h
  obtain ⟨hl, hc⟩ := key
  refine ⟨cs.map fun v => match v with | .int _ m => m | _ => 0, ?_, by simpa using hl, ?_⟩
  ·apply List.ext_getElem?
   intro i
   rw [ints_get, List.getElem?_map, Option.map_map]
   by_cases hi : i < n
   ·obtain ⟨m, e, _⟩ := hc i hi
    rw [e]; rfl
   ·rw [List.getElem?_eq_none (by omega)]; rfl
  ·intro x hx
   obtain ⟨v, hv, rfl⟩ := List.mem_map.1 hx
   obtain ⟨i, hi, rfl⟩ := List.mem_iff_getElem.1 hv
   obtain ⟨m, e, hm⟩ := hc i (by omega)
   rw [List.getElem?_eq_getElem hi] at e
   injection e with e
   rw [e]; exact hm
theorem xFields_XM {sh : TypeId → Option (List XSh)} {cs : List Value} (ih : ∀ u s c, sh u = some s → Rdt enc P W u c → XM enc P W s c) (hz : ∀ u s, sh u = some s → P.cellsOf u = xSize s) :
  ∀ (fs : List Field) (off : Nat) (s : List XSh), xFields sh off fs = some s → off + xSize s ≤ cs.length → (∀ f, f ∈ fs → Rdt enc P W f.type ((cs.drop f.offset).take (P.cellsOf f.type))) → XM enc P W s ((cs.drop off).take (xSize s))
 | [], off, s, h, _, _ => by simp only [xFields, Option.some.injEq] at h; subst h; simp [XM, xSize]
 | f :: fs, off, s, h, hl, hf => by
  unfold xFields at h
  split at h
  ·rename_i s1 ho hs1
   obtain ⟨s2, h2, rfl⟩ := Option.map_eq_some_iff.1 h
   have ho : f.offset = off := Nat.eq_of_beq_eq_true ho
   have hx : xSize (s1 ++ s2) = xSize s1 + xSize s2 := by
    clear h h2 hs1 hl
    induction s1 with
    | nil => simp [xSize]
    | cons a r ihr => simp [xSize, ihr]; omega
   rw [hx] at hl ⊢
   have r1 := ih _ _ _ hs1 (hf f (by simp))
   rw [ho, hz _ _ hs1] at r1
   have r2 := xFields_XM ih hz fs (off + xSize s1) s2 h2 (by omega) (fun g hg => hf g (by simp [hg]))
   have e : (cs.drop off).take (xSize s1 + xSize s2) = (cs.drop off).take (xSize s1) ++ (cs.drop (off + xSize s1)).take (xSize s2) := by
    rw [List.take_add, List.drop_drop]
   rw [e]
   exact r1.append r2
  ·cases h
theorem Rdt.xm : ∀ (d : Nat) (t : TypeId) (s : List XSh) (cs : List Value), xsh P d t = some s → Rdt enc P W t cs → XM enc P W s cs
 | 0, t, s, cs, h, _ => by cases h
 | d + 1, t, s, cs, h, r => by
  unfold xsh at h
  split at h
  ·rename_i k u
   injection h with h; subst h
   obtain ⟨fuel, x, r, _⟩ := r
   obtain ⟨n, rfl, _, hn⟩ := DataW.trod_int u r
   exact ⟨n, [], rfl, wf_has hn, rfl⟩
  ·rename_i u
   injection h with h; subst h
   obtain ⟨fuel, x, r, _⟩ := r
   obtain ⟨n, rfl, _⟩ := DataW.trod_bool u r
   exact ⟨n, [], rfl, rfl⟩
  ·rename_i u
   injection h with h; subst h
   obtain ⟨fuel, x, r, hw⟩ := r
   obtain ⟨n, rfl, rfl, _⟩ := DataW.trod_string u r
   refine ⟨n, [], rfl, ?_, rfl⟩
   have := hw n.data.toList.length (by simp [DataW.weights])
   simpa using this
  ·rename_i e u
   injection h with h; subst h
   obtain ⟨p, l, c, rfl, hs⟩ := Rdt.slice u r
   exact ⟨p, l, c, [], rfl, hs, rfl⟩
  ·rename_i n e u
   split at h
   ·rename_i k ue h1 h2
    injection h with h; subst h
    obtain ⟨ns, rfl, hn, hh⟩ := array_ints u ue (Nat.eq_of_beq_eq_true h1) (Nat.eq_of_beq_eq_true h2) r
    exact ⟨ns, [], by simp, hn, hh, rfl⟩
   ·cases h
  ·rename_i fs u
   split at h
   ·rename_i s' hx
    split at h
    ·rename_i hz
     injection h with h; subst h
     have hz := Nat.eq_of_beq_eq_true hz
     obtain ⟨fuel, x, r, hw⟩ := r
     obtain ⟨xs, n, rfl, rfl, hl, hxl, hf⟩ := DataW.trod_struct u r
     have := xFields_XM (enc := enc) (W := W) (cs := cs) (fun u s c hu hr => by
       split at hu
       ·rename_i s1 hs1
        split at hu
        ·injection hu with hu; subst hu; exact Rdt.xm d u _ c hs1 hr
        ·cases hu
       ·cases hu) (fun u s hu => by
       split at hu
       ·split at hu
        ·rename_i hb; injection hu with hu; subst hu; exact Nat.eq_of_beq_eq_true hb
        ·cases hu
       ·cases hu) fs.toList 0 s' hx (by omega) (fun f hfm => by
       obtain ⟨i, hi, rfl⟩ := List.mem_iff_getElem.1 hfm
       have hi2 : i < fs.size := by simpa using hi
       have h1 := hf i fs[i] (by simp [hi2])
       rw [List.getElem?_eq_getElem (show i < xs.length by omega)] at h1
       have e : fs.toList[i] = fs[i] := by simp
       rw [e]
       refine ⟨n, _, h1, fun m hm => hw m ?_⟩
       simp only [DataW.weights, u]
       exact DataW.weights_mem_each (j := i) (by simp [hi2]) (by simp [show i < xs.length by omega]) m hm)
     rw [List.drop_zero, List.take_of_length_le (by omega)] at this
     exact this
    ·cases h
   ·cases h
  ·cases h
end
end Go.Vc
end

/- The frame of a law's row; slices that came in. Own work; generic over any program. -/
section
set_option maxRecDepth 100000
set_option linter.unusedVariables false
namespace Go.Vc
open Go.ChangeShapes Go.WideShapes Go.ChangeAt Go.RowKit
section
variable {D : Type} {enc : TypeId × Value → D} {P : Program} {W : World}

theorem below_of {W W' : World} (r : Rest W W') (x : Ext none_ W.heap W'.heap) (ho : True) : Below W.heap.size W W' :=
 ⟨r.2.1, r.1, r.2.2, x.size, fun k hk => x.eq k hk (fun y => y)⟩

theorem law_post {f : Func} {s : ChangeSpec} {W' : World} {args : Array Value} {ds gs : List (DataW D)} {before : List MemPlace} {tb : TypeId} (hl : laidOutB P = true) (hvars : s.vars = [])
  (hty : ∀ t, t ∈ f.params.toList → P.readableRec t = true ∧ t < P.types.size) (hres : f.resultTypes = #[tb]) (ub : P.underlying tb = some .bool) (hfn : s.fn D (ds ++ gs) = { results := [.lit (.bool true)], args := ds })
  (hW : DataW.Whole enc P f.params.toList s.vars false W args.toList ds gs before) (hb : Below W.heap.size W W') : s.post enc P f false true false false W args (.bool true) W' := by
 have hW0 := hW
 have hlt := hW.lt
 obtain ⟨p, q, h1, h2, rfl, h3, h4⟩ := hW
 rw [hvars] at h2
 obtain ⟨rfl, rfl⟩ := trodVars_none h2
 rw [List.append_nil] at hlt
 refine ⟨ds, [], p ++ [], [], p, [], hW0, ?_, ?_, ?_, hb.frame _, fun h => by cases h⟩
 ·rw [hfn, hres]
  exact trodAll_mk1 (shut_bool ub true)
 ·rw [hfn]
  have key : ∀ (ts : List TypeId) (vs : List Value) (ds : List (DataW D)) (p : List MemPlace), (∀ t, t ∈ ts → P.readableRec t = true ∧ t < P.types.size) → (∀ x ∈ p, x.block < W.heap.size) →
    DataW.TrodAll enc P W 0 (fun _ => true) true ts vs ds p → DataW.TrodAll enc P W' 0 (fun b => decide (b < W.heap.size)) true ts vs ds p := by
   intro ts
   induction ts with
   | nil => intro vs ds p _ _ h; cases vs <;> cases ds <;> exact h
   | cons t ts ih =>
    intro vs ds p ht hp h
    cases vs with
    | nil => cases h
    | cons v vs => cases ds with
     | nil => cases h
     | cons d ds =>
      obtain ⟨a, b, ha, hb', rfl⟩ := h
      exact ⟨a, b, Below.trod hl (ht t (by simp)).1 (ht t (by simp)).2 ha hb (fun x hx => hp x (by simp [hx])), ih vs ds b (fun t' h' => ht t' (by simp [h'])) (fun x hx => hp x (by simp [hx])) hb', rfl⟩
  exact key _ _ _ _ hty hlt h1
 ·rw [hfn, hvars]; rfl

theorem whole_rdt {ts : List TypeId} {vs : List Value} {ds gs : List (DataW D)} {vars : List TypeId}
  (h : ∃ p, DataW.TrodAll enc P W 0 (fun _ => true) true ts vs ds p) (hz : (DataW.weightsEach P (ts ++ vars) (ds ++ gs)).all (· ≤ reachBytes) = true) :
  ∀ (j : Nat) (t : TypeId) (v : Value), ts[j]? = some t → vs[j]? = some v → Rdt enc P W t v.cells.toList := by
 obtain ⟨p, h⟩ := h
 induction ts generalizing vs ds p with
 | nil => intro j t v ht; simp at ht
 | cons t0 ts ih =>
  cases vs with
  | nil => cases h
  | cons v0 vs => cases ds with
   | nil => cases h
   | cons d ds =>
    obtain ⟨a, b, ha, hb', rfl⟩ := h
    simp only [List.cons_append, DataW.weightsEach, List.all_append, Bool.and_eq_true] at hz
    intro j t v ht hv
    cases j with
    | zero =>
     simp only [List.getElem?_cons_zero, Option.some.injEq] at ht hv
     subst ht; subst hv
     obtain ⟨fuel, hf⟩ := ha
     exact ⟨fuel, _, hf, fun n hn => by simpa using List.all_eq_true.1 hz.1 n hn⟩
    | succ j => exact ih hz.2 b hb' j t v (by simpa using ht) (by simpa using hv)

theorem okw_agg {t : TypeId} {v : Value} {base : Nat} {r : Reach} (u : (match P.underlying t with | some (.struct _) => true | some (.array _ _) => true | _ => false) = true) (h : Value.okWide P W r base t v) : v = .agg v.cells := by
 unfold Value.okWide at h
 split at h
 ·obtain ⟨cs, rfl, _⟩ := h; rfl
 ·obtain ⟨cs, rfl, _⟩ := h; rfl
 ·rename_i h1 h2
  split at u
  ·rename_i h3; exact absurd h3 (h1 _)
  ·rename_i h3; exact absurd h3 (h2 _ _)
  ·cases u
theorem okw_one {t : TypeId} {v : Value} {base : Nat} {r : Reach} (u : (match P.underlying t with | some (.struct _) => false | some (.array _ _) => false | some _ => true | none => false) = true) (h : Value.okWide P W r base t v) {x : Value} (hx : v.cells.toList = [x]) : v = x := by
 cases v with
 | agg cs =>
  exfalso
  unfold Value.okWide at h
  split at h
  ·rename_i h1; rw [h1] at u; cases u
  ·rename_i h1; rw [h1] at u; cases u
  ·unfold Cell.okWide at h
   split at h <;> first | (simp_all; done) | skip
   unfold Cell.ok at h
   split at h <;> simp_all
 | _ => simpa [Value.cells] using hx

theorem XM.one : ∀ {s : List XSh} {c : List Value}, XM enc P W s c → ∀ v, v ∈ c → v.oneCell' = true
 | [], c, h => by simp only [XM] at h; subst h; simp
 | .int k :: r, c, h => by
  obtain ⟨n, rest, rfl, _, h⟩ := h; intro v hv
  rcases List.mem_cons.1 hv with rfl | hv
  ·rfl
  ·exact XM.one h v hv
 | .bool :: r, c, h => by
  obtain ⟨n, rest, rfl, h⟩ := h; intro v hv
  rcases List.mem_cons.1 hv with rfl | hv
  ·rfl
  ·exact XM.one h v hv
 | .str :: r, c, h => by
  obtain ⟨n, rest, rfl, _, h⟩ := h; intro v hv
  rcases List.mem_cons.1 hv with rfl | hv
  ·rfl
  ·exact XM.one h v hv
 | .slc e :: r, c, h => by
  obtain ⟨p, l, c, rest, rfl, _, h⟩ := h; intro v hv
  rcases List.mem_cons.1 hv with rfl | hv
  ·rfl
  ·exact XM.one h v hv
 | .row k n :: r, c, h => by
  obtain ⟨ns, rest, rfl, _, _, h⟩ := h; intro v hv
  rcases List.mem_append.1 hv with hv | hv
  ·exact ints_one _ _ v hv
  ·exact XM.one h v hv

theorem Sli.els {e : TypeId} {p : Option Addr} {l c d : Nat} {s : List XSh} (hs : Sli enc P W e p l c) (hx : xsh P d e = some s) :
  ∃ ess : List (List Value), ess.length = l ∧ (∀ es, es ∈ ess → es.length = P.cellsOf e ∧ XM enc P W s es) ∧ hsv W.heap p (P.cellsOf e) l ess.flatten ∧
   ∀ i (hi : i < ess.length), ∃ a, p = some a ∧ hcs W.heap (a.add (i * P.cellsOf e)) ess[i] := by
 obtain ⟨_, _, hn, hi⟩ := hs
 have key : ∀ m, m ≤ l → ∃ ess : List (List Value), ess.length = m ∧ (∀ es, es ∈ ess → es.length = P.cellsOf e ∧ XM enc P W s es) ∧ ∀ i (hi : i < ess.length), ∃ a, p = some a ∧ hcs W.heap (a.add (i * P.cellsOf e)) ess[i] := by
  intro m
  induction m with
  | zero => intro _; exact ⟨[], rfl, by simp, fun i hi => by simp at hi⟩
  | succ m ih =>
   intro hm
   obtain ⟨ess, h1, h2, h3⟩ := ih (by omega)
   obtain ⟨a, es, ha, hl, hc, hr⟩ := hi m (by omega)
   refine ⟨ess ++ [es], by simp [h1], ?_, ?_⟩
   ·intro x hxm
    rcases List.mem_append.1 hxm with hxm | hxm
    ·exact h2 x hxm
    ·simp at hxm; subst hxm; exact ⟨hl, Rdt.xm d e s x hx hr⟩
   ·intro i hi
    by_cases hie : i < ess.length
    ·rw [List.getElem_append_left hie]; exact h3 i hie
    ·have : i = m := by simp at hi; omega
     subst this
     refine ⟨a, ha, ?_⟩
     rw [List.getElem_append_right (by omega)]
     simpa [h1] using hc
 obtain ⟨ess, h1, h2, h3⟩ := key l (Nat.le_refl _)
 refine ⟨ess, h1, h2, ⟨?_, ?_, ?_⟩, h3⟩
 ·have : ∀ (ess : List (List Value)), (∀ es, es ∈ ess → es.length = P.cellsOf e) → ess.flatten.length = ess.length * P.cellsOf e := by
   intro ess
   induction ess with
   | nil => intro _; simp
   | cons x r ih => intro h; simp [ih (fun y hy => h y (by simp [hy])), h x (by simp), Nat.succ_mul]; omega
  rw [this ess (fun es he => (h2 es he).1), h1]
 ·intro v hv
  obtain ⟨es, he, hv⟩ := List.mem_flatten.1 hv
  exact (h2 es he).2.one v hv
 ·cases p with
  | none =>
   left
   have := (hn rfl).1
   rw [this] at h1
   rw [List.eq_nil_of_length_eq_zero h1]; rfl
  | some a =>
   right
   refine ⟨a, rfl, ?_⟩
   have key : ∀ (k : Nat) (fs : List (List Value)), ess.drop k = fs → ∀ i v, fs.flatten[i]? = some v → hc W.heap (a.add (k * P.cellsOf e + i)) = some v := by
    intro k fs
    induction fs generalizing k with
    | nil => intro _ i v hv; simp at hv
    | cons x r ih =>
     intro hd i v hv
     have hk : k < ess.length := by
      rcases Nat.lt_or_ge k ess.length with h | h
      ·exact h
      ·rw [List.drop_eq_nil_of_le h] at hd; cases hd
     rw [List.drop_eq_getElem_cons hk] at hd
     injection hd with hx1 hx2
     have hxl : x.length = P.cellsOf e := by rw [← hx1]; exact (h2 _ (List.getElem_mem hk)).1
     obtain ⟨a', ha', hcx⟩ := h3 k hk
     injection ha' with ha'; subst ha'
     rw [hx1] at hcx
     simp only [List.flatten_cons] at hv
     by_cases hi : i < x.length
     ·rw [List.getElem?_append_left hi] at hv
      have := hcx i v hv
      have e2 : (a.add (k * P.cellsOf e)).add i = a.add (k * P.cellsOf e + i) := by
       cases a with | mk b o sp => unfold Addr.add; by_cases h1 : k * P.cellsOf e = 0 <;> by_cases h2 : i = 0 <;> simp [h1, h2, Nat.add_assoc]
      rw [e2] at this; exact this
     ·rw [List.getElem?_append_right (by omega)] at hv
      have := ih (k + 1) hx2 _ _ hv
      rw [Nat.succ_mul] at this
      rw [show k * P.cellsOf e + i = k * P.cellsOf e + P.cellsOf e + (i - x.length) by omega]
      exact this
   intro i v hv
   have := key 0 ess (by simp) i v hv
   simpa using this

theorem trodAll_len : ∀ {ts : List TypeId} {vs : List Value} {ds : List (DataW D)} {p : List MemPlace} {W : World} {base : Nat} {sp : Nat → Bool} {hd : Bool}, DataW.TrodAll enc P W base sp hd ts vs ds p → vs.length = ts.length ∧ ds.length = ts.length
 | [], vs, ds, p, W, base, sp, hd, h => by obtain ⟨rfl, rfl, rfl⟩ := trodAll_nil h; exact ⟨rfl, rfl⟩
 | t :: ts, vs, ds, p, W, base, sp, hd, h => by
  obtain ⟨v, vs', d, ds', p', q', rfl, rfl, rfl, _, hr⟩ := trodAll_cons h
  have := trodAll_len hr
  simp [this.1, this.2]

def ArgsOk (enc : TypeId × Value → D) (P : Program) (W : World) (base : Nat) (ts : List TypeId) (vs : List Value) : Prop :=
 vs.length = ts.length ∧ ∀ (j : Nat) (t : TypeId) (v : Value), ts[j]? = some t → vs[j]? = some v → Rdt enc P W t v.cells.toList ∧ Value.okWide P W .any base t v
abbrev CallsTrue (P : Program) (f : FuncId) (vs : List Value) (W : World) : Prop := callsV P f vs (fun rs h' => rs = [DV.one (.bool true)] ∧ Ext none_ W.heap h') W.heap
theorem law_go {f : FuncId} {fn : Func} {s : ChangeSpec} {args : Array Value} {ds gs : List (DataW D)} {before : List MemPlace} {tb : TypeId} {base : Nat} (ts : List TypeId) (hts : fn.params = ts.toArray) (hl : laidOutB P = true) (hvars : s.vars = [])
  (hty : (ts.all fun t => P.readableRec t && decide (t < P.types.size)) = true) (hres : fn.resultTypes = #[tb]) (ub : P.underlying tb = some .bool)
  (hfn : ∀ ds : List (DataW D), ds.length = ts.length → s.fn D ds = { results := [.lit (.bool true)], args := ds })
  (hval : ∀ (j : Nat) t v, fn.params[j]? = some t → args[j]? = some v → Value.okWide P W .any base t v)
  (hW : DataW.Whole enc P fn.params.toList s.vars false W args.toList ds gs before) (hsz : (DataW.weightsEach P (fn.params.toList ++ s.plain.varTypes P) (ds ++ gs)).all (· ≤ reachBytes) = true)
  (main : ∀ vs, ArgsOk enc P W base ts vs → CallsTrue P f vs W) :
  Calls P f args W fun e W' => ∃ v, e = .returned v ∧ s.post enc P fn false true false false W args v W' := by
 have hW0 := hW
 obtain ⟨p, q, h1, h2, rfl, h3, h4⟩ := hW
 have h2' := h2
 rw [hvars] at h2'
 obtain ⟨rfl, rfl⟩ := trodVars_none h2'
 have hlen := trodAll_len h1
 have hpl : fn.params.toList = ts := by rw [hts]
 have hrd := whole_rdt ⟨p, h1⟩ hsz
 rw [hpl] at hrd hlen
 have hm := main args.toList ⟨hlen.1, fun j t v ht hv => ⟨hrd j t v ht hv, hval j t v (by rw [hts]; simpa using ht) (by simpa using hv)⟩⟩
 have hc := hm.2 W rfl
 rw [show args.toList.toArray = args by simp] at hc
 refine hc.mono fun e W' he => ?_
 obtain ⟨xs, _, rfl, hr, rfl, hx⟩ := he
 refine ⟨.bool true, rfl, ?_⟩
 refine law_post hl hvars ?_ hres ub (by rw [List.append_nil]; exact hfn ds hlen.2) hW0 (below_of hr hx trivial)
 intro t ht
 rw [hpl] at ht
 have := List.all_eq_true.1 hty t ht
 simp only [Bool.and_eq_true, decide_eq_true_eq] at this
 exact this
end
end Go.Vc
end

/- Closed facts about the program's form. Own work. -/
section
set_option maxRecDepth 100000
namespace Go.Proofs.YteedolonhdbieaaGreatDoor
open Go Go.Vc Go.ChangeShapes Go.WideShapes Go.ChangeAt Go.RowKit

theorem Tryz.own : ownKnob Tryz.prog.godebug = none := by kernel_rfl
theorem Tryz.laidOut : laidOutB Tryz.prog = true := by kernel_rfl
theorem Tryz.ubool : Tryz.prog.underlying 4 = some .bool := by kernel_rfl
theorem bool_and {a b : Bool} (ha : a = true) (hb : b = true) : (a && b) = true := by rw [ha, hb]; rfl
end Go.Proofs.YteedolonhdbieaaGreatDoor
end

/- What the one listed variable gives; a world that meets it; the frame of a tied card. Own work, after the guide's worked example (ToyasProofs). -/
section
set_option maxRecDepth 100000
namespace Go.Proofs.YteedolonhdbieaaGreatDoor
open Go Go.Vc Go.ChangeShapes Go.WideShapes Go.ChangeAt Go.RowKit

theorem Tryz.et : Tryz.prog.globalNamed "errors.errorType" = some 0 := by kernel_rfl
theorem Tryz.rt : (Tryz.prog.cutTypes.find? (·.1 == "internal/reflectlite.rtype")).map (·.2) = some 307 := by kernel_rfl
theorem Tryz.oneRow : ((List.range 424).filter fun t => Tryz.prog.rowNamed t [101, 114, 114, 111, 114]) = [51] := by kernel_rfl
theorem Tryz.size : Tryz.prog.types.size = 424 := by kernel_rfl
abbrev laidL {D : Type} : List (String × DataW D) := [("errors.errorType", Rows.laid_errors_errorType)]
theorem handle_of_laid {W : World} (h : laidMetH Tryz.prog laidL W) : hc W.heap ⟨0, 0, none⟩ = some errTypeV := by
 have h' : laidMet Tryz.prog [] W ∧ handlesMet Tryz.prog laidL W := h
 obtain ⟨name, u, ty, e1, e2, e3, e4, e5⟩ := h'.2 _ (List.mem_singleton.2 rfl)
 have en : name = [101, 114, 114, 111, 114] := (Option.some.inj e1).symm
 subst en
 obtain rfl := Option.some.inj (Tryz.rt.symm.trans e2)
 have hm : ty ∈ (List.range 424).filter fun t => Tryz.prog.rowNamed t [101, 114, 114, 111, 114] := List.mem_filter.2 ⟨List.mem_range.2 (by rw [← Tryz.size]; exact e3), e4⟩
 rw [Tryz.oneRow] at hm
 obtain rfl := List.mem_singleton.1 hm
 have hh : typeHandle Tryz.prog 51 = .pointer (some ⟨1, 51, none⟩) := by kernel_rfl
 rw [hh] at e5
 have : W.cell? ⟨0, 0, none⟩ = some (.iface 307 (.agg #[.pointer (some ⟨1, 51, none⟩)])) := by simpa using World.var?_cell Tryz.et e5 0
 exact this
noncomputable def laidWorld (os : Os) : World :=
 let w0 := World.holding Tryz.prog os ⟨#[], #[], []⟩
 { w0 with heap := w0.heap.modify 0 fun
   | .cells _ t frozen => .cells #[.iface 307 (.agg #[.pointer (some ⟨1, 51, none⟩)])] t frozen
   | o => o }
theorem laidWorld_met (os : Os) (args : Array Value) : laidMetH Tryz.prog laidL ((laidWorld os).forCall (fun _ _ => 0) ⟨#[], args, []⟩).memory :=
 laidMetH_of_parts (laidMet_nil _ _) (by kernel_rfl)
end Go.Proofs.YteedolonhdbieaaGreatDoor
end

/- Contracts of the chip's small functions. Own work. -/
section
set_option linter.unusedVariables false
namespace Go.Proofs.YteedolonhdbieaaGreatDoor
open Go Go.Vc

structure Cfg where
 cells : Int
 slots : Int
 fuses : Int
 step : Int
 keys : Int
 erases : Int
 area : Int

def Cfg.vals (c : Cfg) : List Value :=
 [.int .i64 c.cells, .int .i64 c.slots, .int .i64 c.fuses, .int .i64 c.step, .int .i64 c.keys, .int .i64 c.erases, .int .i64 c.area]

structure Cfg.may (c : Cfg) : Prop where
 slots : 1 ≤ c.slots ∧ c.slots ≤ 8
 cells : c.slots + 3 ≤ c.cells ∧ c.cells ≤ 256
 fuses : 1 ≤ c.fuses ∧ c.fuses ≤ 64
 step : 1 ≤ c.step ∧ c.step ≤ 65536
 keys : 1 ≤ c.keys ∧ c.keys ≤ 64
 erases : 0 ≤ c.erases ∧ c.erases ≤ 65536
 area : 0 ≤ c.area ∧ c.area ≤ 64

theorem within_iff (n a b : Int) (Q : Bool → H → Prop) (h : H) : F_chip_within n a b Q h = Q (decide (a ≤ n) && decide (n ≤ b)) h := by
 unfold F_chip_within G_chip_within
 by_cases h1 : a ≤ n <;> simp [h1]
open Classical in
theorem May_spec (c : Cfg) (Q : Int → H → Prop) (h : H) (k : ∀ h', Ext none_ h h' → Q (if c.may then 0 else 1) h') :
  F_chip_May c.cells c.slots c.fuses c.step c.keys c.erases c.area Q h := by
 unfold F_chip_May G_chip_May
 intro b h' hn
 have kb := hn.blk
 have kx := k h' hn.ext
 have hc0 := kb.hc
 intro J hJ
 have fin : ∀ r : Bool, (r = true ↔ c.may) → J [SV.dv (DV.one (Value.bool r))] h' := by
  intro r hr
  apply hJ
  by_cases hm : c.may
  ·rw [hr.2 hm]; rw [if_pos hm] at kx; simpa using kx
  ·have : r = false := by cases r; rfl; exact absurd (hr.1 rfl) hm
   rw [this]; rw [if_neg hm] at kx; simpa using kx
 try simp only [add_mk, hc0, Nat.zero_add, List.getElem?_cons_succ, List.getElem?_cons_zero, Option.some.injEq, Value.int.injEq, true_and, exists_eq_left']
 simp only [within_iff, hc0, List.getElem?_cons_succ, List.getElem?_cons_zero, Option.some.injEq, Value.int.injEq, true_and, exists_eq_left', Bool.and_eq_true, decide_eq_true_eq]
 have w3 : 1 ≤ c.slots ∧ c.slots ≤ 8 → IntKind.i64.wrap (c.slots + 3) = c.slots + 3 := by
  intro h1; rw [IntKind.wrap_i64]; omega
 split
 case isFalse h1 => exact fin false (by simp; intro hm; exact h1 hm.slots)
 rename_i h1
 rw [w3 h1]
 split
 case isFalse h2 => exact fin false (by simp; intro hm; exact h2 hm.cells)
 rename_i h2
 split
 case isFalse h3 => exact fin false (by simp; intro hm; exact h3 hm.fuses)
 rename_i h3
 split
 case isFalse h4 => exact fin false (by simp; intro hm; exact h4 hm.step)
 rename_i h4
 split
 case isFalse h5 => exact fin false (by simp; intro hm; exact h5 hm.keys)
 rename_i h5
 split
 case isFalse h6 => exact fin false (by simp; intro hm; exact h6 hm.erases)
 rename_i h6
 refine fin _ ?_
 simp only [Bool.and_eq_true, decide_eq_true_eq]
 exact ⟨fun h7 => ⟨h1, h2, h3, h4, h5, h6, h7⟩, fun hm => hm.area⟩

theorem pages_spec (c : Cfg) (hm : c.may) (Q : Int → H → Prop) (h : H) (k : ∀ h', Ext none_ h h' → Q (2 + 2 * c.area) h') :
  F_chip_pages c.cells c.slots c.fuses c.step c.keys c.erases c.area Q h := by
 unfold F_chip_pages G_chip_pages
 intro b h' hn
 have kx := k h' hn.ext
 have ha := hm.area
 have e : IntKind.i64.wrap (2 + IntKind.i64.wrap (2 * c.area)) = 2 + 2 * c.area := by simp only [IntKind.wrap_i64]; omega
 simpa [hn.blk.hc, e] using kx

theorem fuses_spec (c : Cfg) (hm : c.may) (Q : Int → H → Prop) (h : H) (k : ∀ h', Ext none_ h h' → Q (c.slots * c.fuses + c.keys) h') :
  F_chip_fuses c.cells c.slots c.fuses c.step c.keys c.erases c.area Q h := by
 unfold F_chip_fuses G_chip_fuses
 intro b h' hn
 have kx := k h' hn.ext
 have h1 := hm.slots; have h2 := hm.fuses; have h3 := hm.keys
 have e1 : 0 ≤ c.slots * c.fuses := Int.mul_nonneg (by omega) (by omega)
 have e2 : c.slots * c.fuses ≤ 8 * 64 := Int.mul_le_mul (by omega) (by omega) (by omega) (by omega)
 have e : IntKind.i64.wrap (IntKind.i64.wrap (c.slots * c.fuses) + c.keys) = c.slots * c.fuses + c.keys := by simp only [IntKind.wrap_i64]; omega
 simpa [hn.blk.hc, e] using kx
end Go.Proofs.YteedolonhdbieaaGreatDoor
end

/- The chip's model and how it lies in memory (chip.Chip and the document's chip alike). Own work. -/
section
set_option linter.unusedVariables false
namespace Go.Proofs.YteedolonhdbieaaGreatDoor
open Go Go.Vc

structure St where
 pages : List (List Int)
 erases : List Int
 blown : List Bool
structure Cm where
 cfg : Cfg
 s : St
 acts : Int
 out : Bool
 left : Int
 mask : List Int

instance (c : Cfg) : Decidable c.may :=
 decidable_of_iff ((1 ≤ c.slots ∧ c.slots ≤ 8) ∧ (c.slots + 3 ≤ c.cells ∧ c.cells ≤ 256) ∧ (1 ≤ c.fuses ∧ c.fuses ≤ 64) ∧ (1 ≤ c.step ∧ c.step ≤ 65536) ∧ (1 ≤ c.keys ∧ c.keys ≤ 64) ∧ (0 ≤ c.erases ∧ c.erases ≤ 65536) ∧ (0 ≤ c.area ∧ c.area ≤ 64))
  ⟨fun ⟨a, b, c, d, e, f, g⟩ => ⟨a, b, c, d, e, f, g⟩, fun ⟨a, b, c, d, e, f, g⟩ => ⟨a, b, c, d, e, f, g⟩⟩
def Cfg.may? (c : Cfg) : Int := if c.may then 0 else 1
def Cfg.np (c : Cfg) : Int := 2 + 2 * c.area
def Cfg.nf (c : Cfg) : Int := c.slots * c.fuses + c.keys
def isByte (n : Int) : Prop := 0 ≤ n ∧ n < 256
def bytesOk (ns : List Int) : Prop := ∀ n, n ∈ ns → isByte n

structure St.fits (c : Cfg) (s : St) : Prop where
 pages : (s.pages.length : Int) = c.np
 cells : ∀ l, l ∈ s.pages → (l.length : Int) = 32 * c.cells
 erases : (s.erases.length : Int) = c.np
 blown : (s.blown.length : Int) = c.nf
structure St.typed (s : St) : Prop where
 bytes : ∀ l, l ∈ s.pages → bytesOk l
 erases : ∀ n, n ∈ s.erases → -(2 ^ 63) ≤ n ∧ n < 2 ^ 63
structure Cm.ok (C : Cm) : Prop where
 may : C.cfg.may
 fits : C.s.fits C.cfg
 typed : C.s.typed
 left : -1 ≤ C.left
 left2 : C.left < 2 ^ 63
 mask : bytesOk C.mask
 acts : -(2 ^ 63) ≤ C.acts ∧ C.acts < 2 ^ 63
 mlen : C.mask.length ≤ 2 ^ 47

structure RdS (h : H) (a b c : Sl) (s : St) : Prop where
 pg : RdM h 32 a s.pages
 er : hsv h b.1 1 b.2.1 (ints .i64 s.erases)
 bl : hsv h c.1 1 c.2.1 (bools s.blown)

abbrev stL (a b c : Sl) (s : St) : List Ent := [matE 32 a s.pages, sE b 1 (ints .i64 s.erases), sE c 1 (bools s.blown)]

def Cm.cells (C : Cm) (a b c m : Sl) : List Value :=
 [.int .i64 C.cfg.cells, .int .i64 C.cfg.slots, .int .i64 C.cfg.fuses, .int .i64 C.cfg.step, .int .i64 C.cfg.keys, .int .i64 C.cfg.erases, .int .i64 C.cfg.area, a.v, b.v, c.v,
  .int .i64 C.acts, .bool C.out, .int .i64 C.left, m.v]
structure Pl where
 a : Sl
 b : Sl
 c : Sl
 m : Sl
abbrev chipL (p : Nat) (C : Cm) (w : Pl) : List Ent := [blk p (C.cells w.a w.b w.c w.m), matE 32 w.a C.s.pages, sE w.b 1 (ints .i64 C.s.erases), sE w.c 1 (bools C.s.blown), sE w.m 1 (ints .u8 C.mask)]
def chipE (p : Nat) (C : Cm) : Ent := exE 2 (fun _ => C.ok) (chipL p C)

theorem RdS.ext {h h' : H} (x : Ext none_ h h') {a b c : Sl} {s : St} (r : RdS h a b c s) : RdS h' a b c s :=
 ⟨r.pg.ext x, hsv_ext x r.er (fun _ _ y => y), hsv_ext x r.bl (fun _ _ y => y)⟩
end Go.Proofs.YteedolonhdbieaaGreatDoor
end

/- What arguments of the statements are. Own work. -/
section
set_option maxRecDepth 100000
set_option linter.unusedVariables false
namespace Go.Proofs.YteedolonhdbieaaGreatDoor
open Go Go.Vc Go.ChangeShapes Go.WideShapes Go.ChangeAt Go.RowKit

theorem xCfg : xsh PP 8 23 = some [.int .i64, .int .i64, .int .i64, .int .i64, .int .i64, .int .i64, .int .i64] := by kernel_rfl
section
variable {D : Type} {enc : TypeId × Value → D} {W : World}
theorem cfg_of {v : Value} {base : Nat} (h : Rdt enc PP W 23 v.cells.toList) (ho : Value.okWide PP W .any base 23 v) : ∃ c : Cfg, v = .agg c.vals.toArray := by
 have e := okw_agg (by kernel_rfl) ho
 obtain ⟨a1, r1, e1, _, a2, r2, rfl, _, a3, r3, rfl, _, a4, r4, rfl, _, a5, r5, rfl, _, a6, r6, rfl, _, a7, r7, rfl, _, hr⟩ := Rdt.xm 8 _ _ _ xCfg h
 simp only [XM] at hr
 subst hr
 refine ⟨⟨a1, a2, a3, a4, a5, a6, a7⟩, ?_⟩
 rw [e]
 congr 1
 rw [← Array.toArray_toList (xs := v.cells), e1]
 rfl
end
end Go.Proofs.YteedolonhdbieaaGreatDoor
end

/- Contracts: blank cells, clones. Own work. -/
section
set_option linter.unusedVariables false
namespace Go.Proofs.YteedolonhdbieaaGreatDoor
open Go Go.Vc

def blankCell : List Int := List.replicate 32 255
theorem mapTo_const (n : Nat) (v : Int) (ns : List Int) (hl : ns.length = n) : mapTo (fun _ _ => v) n ns = List.replicate n v := by
 apply List.ext_getElem?; intro j
 rw [mapTo_get, List.getElem?_replicate]
 by_cases h : j < n
 ·simp [h, hl]
 ·rw [if_neg h, List.getElem?_eq_none (by omega)]; rfl

theorem blank_spec (Q : List Int → H → Prop) (h : H) (k : ∀ h', Ext none_ h h' → Q blankCell h') : F_chip_blank Q h := by
 unfold F_chip_blank G_chip_blank
 intro b2 h3 n2 b5 h6 n5 J hJ
 have x6 : Ext none_ h h6 := n2.ext.trans n5.ext
 have hb2 : b2 < h6.size := by have := n2.size; have := n5.size; have := n2.b; omega
 have hb2' : h.size ≤ b2 := by rw [n2.b]; exact Nat.le_refl _
 have hb5 : h.size ≤ b5 := by have := n2.size; rw [n5.b]; omega
 have hne : b2 ≠ b5 := by have := n2.size; have := n5.b; have := n2.b; omega
 refine loop_up 32 (fun i h' => Blk h' b5 (ints .u8 (mapTo (fun _ _ => 255) i (zeros 32))) ∧ Blk h' b2 (ints .u8 (zeros 32)) ∧ Ext none_ h h') ?_ ?_ 0 h6 (by omega)
  ⟨by simpa using n5.blk, n5.ext.blk n2.blk (fun x => x), x6⟩
 ·rintro i h' hi ⟨k5, k2, hx⟩ hk
  apply hJ
  rw [ltI_eq, if_pos (by simp; omega)]
  refine ⟨by omega, by omega, ?_, ?_⟩
  ·try simp only [add_mk]; apply k5.can; simp; omega
  ·intro h11 e
   try simp only [add_mk, Int.toNat_natCast, Nat.mul_one, Nat.zero_add] at e
   rw [wrap_succ (by omega)]
   refine hk h11 ?_
   have w := k5.wr i [Value.int .u8 255]
   have w2 := k2.wr_ne (a := ⟨b5, i, none⟩) (xs := [Value.int .u8 255]) hne
   rw [← e] at w w2
   refine ⟨?_, w2, ?_⟩
   ·simp only [splice_cons, splice_nil, ints_set] at w
    have := mapTo_succ (fun _ _ => 255) i (zeros 32) (by simpa using hi)
    rw [this] at w; exact w
   ·rw [e]; exact hx.comp (Ext.wr h' b5 i _) (by rintro x h1 rfl; omega)
 ·rintro h' ⟨k5, k2, hx⟩
  apply hJ
  rw [ltI_eq, if_neg (by simp)]
  rw [mapTo_const 32 255 _ (by simp)] at k5
  refine ⟨blankCell, by simp [blankCell], k5.hrow (by intro i hi; rw [Nat.zero_add, ints_get]; rfl), k2.can (by simp), ?_⟩
  intro h14 e
  have w := k2.wr 0 (ints IntKind.u8 blankCell ++ [])
  rw [splice_all _ _ (by simp [blankCell])] at w
  rw [← e] at w
  refine ⟨blankCell, by simp [blankCell], w.hrow (by intro i hi; simp [ints_get]), k _ ?_⟩
  rw [e]; exact hx.comp (Ext.wr h' b2 0 _) (by rintro x h1 rfl; omega)

end Go.Proofs.YteedolonhdbieaaGreatDoor
end

/- Contract: slices.Repeat of one cell. Own work. -/
section
set_option linter.unusedVariables false
namespace Go.Proofs.YteedolonhdbieaaGreatDoor
open Go Go.Vc

theorem wrap_u64_id {n : Int} (h : 0 ≤ n ∧ n < 2 ^ 64) : IntKind.u64.wrap n = n := by
 have : IntKind.u64.wrap n = n % 18446744073709551616 := by simp [IntKind.wrap, IntKind.bits, IntKind.signed]
 rw [this]; omega
theorem and32 {n : Int} (h : 0 ≤ n ∧ n < 2 ^ 32) : bits .and .u64 n 4294967295 = n := by
 have := bits_mask .u64 64 (by decide) (fun n h0 h1 => wrap_u64_id ⟨h0, h1⟩) 32 (by decide) n h.1 (by omega)
 have e : (2 : Int) ^ 32 - 1 = 4294967295 := by decide
 rw [e] at this
 rw [this]; omega
theorem fdiv32 {n : Int} (h : 0 ≤ n ∧ n < 2 ^ 32) : n.fdiv (2 ^ 32) = 0 := by
 rw [Int.fdiv_eq_ediv_of_nonneg _ (by decide)]; omega
theorem Mul_one (n : Int) (hn : 0 ≤ n ∧ n < 2 ^ 31) (Q : Int → Int → H → Prop) (h : H) (k : Q 0 n h) : F_math_bits_Mul 1 n Q h := by
 unfold F_math_bits_Mul G_math_bits_Mul F_math_bits_Mul64 G_math_bits_Mul64
 rintro i rfl
 refine ⟨by decide, ?_⟩
 rintro i rfl
 refine ⟨by decide, by decide, ?_⟩
 rintro i rfl
 refine ⟨by decide, by decide, ?_⟩
 have a1 : bits .and .u64 1 4294967295 = 1 := and32 (by decide)
 have a2 : bits .and .u64 n 4294967295 = n := and32 (by omega)
 have f1 : (1 : Int).fdiv (2 ^ 32) = 0 := fdiv32 (by decide)
 have f2 : n.fdiv (2 ^ 32) = 0 := fdiv32 (by omega)
 have w0 : IntKind.u64.wrap 0 = 0 := wrap_u64_id (by decide)
 have wn : IntKind.u64.wrap n = n := wrap_u64_id (by omega)
 have f0 : (0 : Int).fdiv (2 ^ 32) = 0 := fdiv32 (by decide)
 have a0 : bits .and .u64 0 4294967295 = 0 := and32 (by decide)
 simpa only [a1, a2, f1, f2, Int.zero_mul, Int.mul_zero, Int.one_mul, w0, wn, f0, a0, Int.add_zero, Int.zero_add] using k

theorem rep_add {α : Type} (a b : Nat) (X : List α) : (List.replicate (a + b) X).flatten = (List.replicate a X).flatten ++ (List.replicate b X).flatten := by
 rw [← List.replicate_append_replicate, List.flatten_append]

theorem Repeat_spec (p : Option Addr) (c : Nat) (n : Nat) (X : List Value) (hX : X.length = 32) (hn : 1 ≤ n ∧ n ≤ 2 ^ 20) (Q : Option Addr → Nat → Nat → H → Prop) (h : H) (hs : hsv h p 32 1 X)
  (k : ∀ b h', Ext none_ h h' → Blk h' b (List.replicate n X).flatten → h.size ≤ b → Q (some ⟨b, 0, none⟩) n n h') : F_slices_Repeat_api_Cell_api_Cell p 1 c n Q h := by
 unfold F_slices_Repeat_api_Cell_api_Cell G_slices_Repeat_api_Cell_api_Cell
 intro J7 hJ7
 rw [ltI_eq, if_neg (by simp)]
 apply hJ7
 have w1 : IntKind.u64.wrap ((1 : Nat) : Int) = 1 := wrap_u64_id (by decide)
 have wn : IntKind.u64.wrap (n : Int) = n := wrap_u64_id (by omega)
 have wi : IntKind.i64.wrap (n : Int) = n := wrap_id (by omega)
 rw [w1, wn]
 apply Mul_one _ (by omega)
 intro J12 hJ12
 rw [ltI_eq, if_neg (by simp)]
 rintro i rfl
 rw [ltI_eq, if_neg (by simp; omega)]
 apply hJ12
 simp only [wi, Int.toNat_natCast]
 refine ⟨by omega, by omega, by omega, by omega, ?_⟩
 intro b h15 hnw
 have m1 : Nat.min 1 n = 1 := Nat.min_eq_left hn.1
 simp only [m1]
 have hs' := hsv_ext hnw.ext hs (fun _ _ x => x)
 have lenr : ∀ m : Nat, (List.replicate m X).flatten.length = m * 32 := fun m => by rw [flatten_replicate_length, hX]
 refine ⟨X, hs', Or.inr ⟨_, rfl, hnw.blk.can ?_⟩, ?_⟩
 ·rw [flatten_replicate_length]; simp; omega
 intro h19 e19
 intro J hJ
 have hb : h.size ≤ b := by rw [hnw.b]; exact Nat.le_refl _
 -- the block holds i copies, and something
 have main : ∀ d i h', n - i ≤ d → 1 ≤ i → i ≤ n → Ext none_ h h' → (∃ rest, rest.length = (n - i) * 32 ∧ Blk h' b ((List.replicate i X).flatten ++ rest)) → J [SV.dv (DV.one (Value.int IntKind.i64 (i : Int)))] h' := by
  intro d
  induction d with
  | zero =>
   rintro i h' hd h1 h2 hx ⟨rest, hr, kb⟩
   have : i = n := by omega
   subst this
   apply hJ
   rw [ltI_eq, if_neg (by simp)]
   have : rest = [] := List.eq_nil_of_length_eq_zero (by simp [hr])
   subst this
   exact k b h' hx (by simpa using kb) hb
  | succ d ih =>
   rintro i h' hd h1 h2 hx ⟨rest, hr, kb⟩
   apply hJ
   by_cases hin : i < n
   ·rw [ltI_eq, if_pos (by simp; omega)]
    have s0 : subAddr (some (Addr.mk b 0 none)) 0 n 32 = some (Addr.mk b 0 none) := by unfold subAddr; rw [if_neg (by omega)]; simp
    have s1 : subAddr (some (Addr.mk b 0 none)) i n 32 = some (Addr.mk b (i * 32) none) := by unfold subAddr; rw [if_neg (by omega)]; simp
    simp only [Int.toNat_natCast, s0, s1, Nat.sub_zero]
    generalize hm : Nat.min i (n - i) = m
    have hm1 : m ≤ i := by rw [← hm]; exact Nat.min_le_left _ _
    have hm2 : m ≤ n - i := by rw [← hm]; exact Nat.min_le_right _ _
    have hm3 : 1 ≤ m := by rw [← hm]; exact Nat.le_min.2 ⟨h1, by omega⟩
    have spl : (List.replicate i X).flatten = (List.replicate m X).flatten ++ (List.replicate (i - m) X).flatten := by
     rw [← rep_add]; congr 2; omega
    refine ⟨by omega, by omega, by omega, by omega, (List.replicate m X).flatten, ⟨lenr m, ?_, Or.inr ⟨_, rfl, ?_⟩⟩, Or.inr ⟨_, rfl, kb.can ?_⟩, ?_⟩
    ·intro v hv
     obtain ⟨l, hl, hv⟩ := List.mem_flatten.1 hv
     rw [List.eq_of_mem_replicate hl] at hv
     exact hs.2.1 v hv
    ·apply kb.hcs
     intro j hj
     rw [Nat.zero_add, spl, List.append_assoc, List.getElem?_append_left hj]
    ·simp [lenr, hr, hX]
     have : m * 32 ≤ (n - i) * 32 := Nat.mul_le_mul_right _ hm2
     omega
    ·intro h26 e
     have w : IntKind.i64.wrap ((i : Int) + (m : Int)) = ((i + m : Nat) : Int) := by rw [wrap_id (by omega)]; omega
     rw [w]
     refine ih (i + m) h26 (by omega) (by omega) (by omega) ?_ ?_
     ·rw [e]; exact hx.comp (Ext.wr h' b _ _) (by rintro x hlt rfl; omega)
     ·have kw := kb.wr (i * 32) (List.replicate m X).flatten
      have e' : h26 = hwr h' ⟨b, i * 32, none⟩ (List.replicate m X).flatten := e
      rw [← e'] at kw
      refine ⟨rest.drop (m * 32), by simp [hr]; omega, ?_⟩
      have hrr : rest = rest.take (m * 32) ++ rest.drop (m * 32) := by simp
      have : splice ((List.replicate i X).flatten ++ rest) (i * 32) (List.replicate m X).flatten = (List.replicate (i + m) X).flatten ++ rest.drop (m * 32) := by
       rw [hrr, ← List.append_assoc, ← lenr i, splice_append, rep_add]
       ·simp
       ·simp [lenr, hr]
        have : m * 32 ≤ (n - i) * 32 := Nat.mul_le_mul_right _ hm2
        omega
      rw [this] at kw
      exact kw
   ·have : i = n := by omega
    subst this
    rw [ltI_eq, if_neg (by simp)]
    have : rest = [] := List.eq_nil_of_length_eq_zero (by simp [hr])
    subst this
    exact k b h' hx (by simpa using kb) hb
 have e' : h19 = hwr h15 ⟨b, 0, none⟩ X := e19
 have kb := hnw.blk.wr 0 X
 rw [← e'] at kb
 refine main n 1 h19 (by omega) (by omega) hn.1 ?_ ⟨(List.replicate (n - 1) (ints .u8 (zeros 32))).flatten, by simp, ?_⟩
 ·rw [e']; exact hnw.ext.comp (Ext.wr h15 b _ _) (by rintro x hlt rfl; omega)
 ·have : splice (List.replicate n (ints .u8 (zeros 32))).flatten 0 X = (List.replicate 1 X).flatten ++ (List.replicate (n - 1) (ints .u8 (zeros 32))).flatten := by
   have e1 : (List.replicate n (ints .u8 (zeros 32))).flatten = [] ++ ints .u8 (zeros 32) ++ (List.replicate (n - 1) (ints .u8 (zeros 32))).flatten := by
    have : n = 1 + (n - 1) := by omega
    rw [this, rep_add]; simp
   rw [e1]
   have := splice_append [] (ints .u8 (zeros 32)) (List.replicate (n - 1) (ints .u8 (zeros 32))).flatten X (by simp [hX])
   simp only [List.length_nil] at this
   rw [this]; simp
  rw [this] at kb
  exact kb
end Go.Proofs.YteedolonhdbieaaGreatDoor
end

/- Contracts: what is copied; a new chip. Own work. -/
section
set_option linter.unusedVariables false
namespace Go.Proofs.YteedolonhdbieaaGreatDoor
open Go Go.Vc

theorem May_sp {h0 h : H} {A : List Ent} (c : Cfg) {Q : Int → H → Prop} (hs : Sat h0 A h) (k : ∀ h', Sat h0 A h' → Q c.may? h') :
  F_chip_May c.cells c.slots c.fuses c.step c.keys c.erases c.area Q h := by
 apply May_spec
 intro h' x
 have := k h' (hs.ext x)
 unfold Cfg.may? at this
 by_cases hm : c.may
 ·rw [if_pos hm] at this ⊢; exact this
 ·rw [if_neg hm] at this ⊢; exact this
theorem pages_sp {h0 h : H} {A : List Ent} (c : Cfg) (hm : c.may) {Q : Int → H → Prop} (hs : Sat h0 A h) (k : ∀ h', Sat h0 A h' → Q c.np h') :
  F_chip_pages c.cells c.slots c.fuses c.step c.keys c.erases c.area Q h := pages_spec c hm Q h fun h' x => k h' (hs.ext x)
theorem fuses_sp {h0 h : H} {A : List Ent} (c : Cfg) (hm : c.may) {Q : Int → H → Prop} (hs : Sat h0 A h) (k : ∀ h', Sat h0 A h' → Q c.nf h') :
  F_chip_fuses c.cells c.slots c.fuses c.step c.keys c.erases c.area Q h := fuses_spec c hm Q h fun h' x => k h' (hs.ext x)

theorem Cfg.may.np {c : Cfg} (m : c.may) : 2 ≤ c.np ∧ c.np ≤ 130 := by have := m.area; unfold Cfg.np; omega
theorem Cfg.may.nf {c : Cfg} (m : c.may) : 0 ≤ c.nf ∧ c.nf ≤ 576 := by
 have h1 := m.slots; have h2 := m.fuses; have h3 := m.keys
 have e1 : 0 ≤ c.slots * c.fuses := Int.mul_nonneg (by omega) (by omega)
 have e2 : c.slots * c.fuses ≤ 8 * 64 := Int.mul_le_mul (by omega) (by omega) (by omega) (by omega)
 unfold Cfg.nf; omega

theorem Repeat_sp {h0 h : H} {A : List Ent} (n : Nat) {k : Int} {c i b : Nat} {X : List Int} {Q : Option Addr → Nat → Nat → H → Prop} (hk : k = (n : Int)) (hs : Sat h0 A h) (m : At A i (blk b (ints .u8 X ++ []))) (hX : X.length = 32)
  (hn : 1 ≤ n ∧ n ≤ 2 ^ 20) (kk : ∀ b h', Sat h0 (sE (some ⟨b, 0, none⟩, n, n) 32 (ints .u8 (List.replicate n X).flatten) :: A) h' → Q (some ⟨b, 0, none⟩) n n h') :
  F_slices_Repeat_api_Cell_api_Cell (some ⟨b, 0, none⟩) 1 c k Q h := by
 rw [hk]
 rw [List.append_nil] at m
 refine Repeat_spec _ _ n (ints .u8 X) (by simpa using hX) hn _ _ (hs.bv m (by simpa using hX) (ints_one _ _)) ?_
 intro b' h' x kb hb
 refine kk b' h' ?_
 have e : (List.replicate n (ints .u8 X)).flatten = ints .u8 (List.replicate n X).flatten := by
  simp [ints, List.map_flatten]
 rw [e] at kb
 exact (hs.ofBlk x kb hb).as_sl (.z) (by simp [hX]) (ints_one _ _)
def blankRow (c : Cfg) : List Int := (List.replicate c.cells.toNat blankCell).flatten
def freshSt (c : Cfg) : St := ⟨List.replicate c.np.toNat (blankRow c), zeros c.np.toNat, List.replicate c.nf.toNat false⟩
def freshC (c : Cfg) : Cm := ⟨c, freshSt c, 0, false, -1, []⟩

theorem freshC_ok {c : Cfg} (hm : c.may) : (freshC c).ok := by
 have h1 := hm.np; have h2 := hm.nf; have h3 := hm.cells; have h4 := hm.slots
 refine ⟨hm, ⟨by simp [freshC, freshSt]; omega, ?_, by simp [freshC, freshSt]; omega, by simp [freshC, freshSt]; omega⟩, ⟨?_, ?_⟩, by simp [freshC], by simp [freshC], by intro n hn; simp [freshC] at hn, by simp [freshC], by simp [freshC]⟩
 ·intro l hl
  rw [List.eq_of_mem_replicate hl]
  simp [blankRow, blankCell, freshC]; omega
 ·intro l hl
  rw [List.eq_of_mem_replicate hl]
  intro n hn
  simp only [blankRow, List.mem_flatten, List.mem_replicate] at hn
  obtain ⟨l, ⟨_, rfl⟩, hn⟩ := hn
  have := List.eq_of_mem_replicate hn
  unfold isByte; omega
 ·intro n hn
  have := List.eq_of_mem_replicate hn
  omega
theorem New_sp {h0 h : H} {A : List Ent} (c : Cfg) {Q : Option Addr → Int → H → Prop} (hs : Sat h0 A h)
  (k1 : ¬ c.may → ∀ h', Sat h0 A h' → Q none 1 h')
  (k2 : c.may → ∀ p h', Sat h0 (chipE p (freshC c) :: A) h' → Q (some ⟨p, 0, none⟩) 0 h') :
  F_chip_New c.cells c.slots c.fuses c.step c.keys c.erases c.area Q h := by
 unfold F_chip_New G_chip_New
 try simp only [add_mk, Nat.zero_add]
 intro g _ hn; have hs := Sat.new hs hn; clear hn
 (repeat first | refine ⟨_, Sat.ld hs (by (repeat (first | exact At.z | apply At.s))) (by rfl), ?_⟩ | refine ⟨_, _, _, Sat.ld hs (by (repeat (first | exact At.z | apply At.s))) (by rfl), ?_⟩ | (intro _ _ hn; replace hs := Sat.new hs hn; clear hn) | refine ⟨Sat.cs hs (by (repeat (first | exact At.z | apply At.s))) (by rfl), ?_⟩ | (refine ⟨Sat.can hs (by (repeat (first | exact At.z | apply At.s))) (by simp), ?_⟩; intro _ e; replace hs := Sat.wr hs (by (repeat (first | exact At.z | apply At.s))) e; clear e; simp only [put, splice, List.set] at hs))
 refine May_sp c hs ?_
 intro h1 hs
 unfold Cfg.may?
 by_cases hm : c.may
 case neg =>
  rw [if_neg hm, if_pos (by decide)]
  exact k1 hm _ hs.drop
 rw [if_pos hm, if_neg (by decide)]
 intro J hJ
 have hnp := hm.np
 have hnf := hm.nf
 have fin : ∀ p a b h', Sat h0 (blk g c.vals :: blk b (List.replicate c.nf.toNat [Value.bool false]).flatten :: blk a (List.replicate c.np.toNat [Value.int .i64 0]).flatten ::
   blk p [.slice none 0 0, .slice (some ⟨a, 0, none⟩) c.np.toNat c.np.toNat, .slice (some ⟨b, 0, none⟩) c.nf.toNat c.nf.toNat] :: A) h' → J [SV.dv (DV.addr ⟨p, 0, none⟩)] h' := by
  intro p a b h' hs
  apply hJ
  simp only [Cfg.vals] at hs
  (repeat first | refine ⟨_, Sat.ld hs (by (repeat (first | exact At.z | apply At.s))) (by rfl), ?_⟩ | refine ⟨_, _, _, Sat.ld hs (by (repeat (first | exact At.z | apply At.s))) (by rfl), ?_⟩ | (intro _ _ hn; replace hs := Sat.new hs hn; clear hn) | refine ⟨Sat.cs hs (by (repeat (first | exact At.z | apply At.s))) (by rfl), ?_⟩ | (refine ⟨Sat.can hs (by (repeat (first | exact At.z | apply At.s))) (by simp), ?_⟩; intro _ e; replace hs := Sat.wr hs (by (repeat (first | exact At.z | apply At.s))) e; clear e; simp only [put, splice, List.set] at hs))
  refine pages_sp c hm hs ?_
  intro _ hs J38 hJ38
  have hs := hs.mat_nil 32 none
  refine loop_up c.np.toNat (fun i h => ∃ hd : Sl, hd.2.1 = i ∧ Sat h0 (matE 32 hd (List.replicate i (blankRow c)) :: blk g c.vals :: blk b (List.replicate c.nf.toNat [Value.bool false]).flatten :: blk a (List.replicate c.np.toNat [Value.int .i64 0]).flatten ::
   blk p [hd.v, .slice (some ⟨a, 0, none⟩) c.np.toNat c.np.toNat, .slice (some ⟨b, 0, none⟩) c.nf.toNat c.nf.toNat] :: A) h) ?_ ?_ 0 _ (by omega) ⟨_, rfl, hs⟩
  ·rintro i h1 hi ⟨⟨hp, hl, hc⟩, e, hs⟩ hk
   simp only at e; subst e
   apply hJ38
   rw [ltI_eq, if_pos (by simp; omega)]
   simp only [Cfg.vals] at hs
   (repeat first | refine ⟨_, Sat.ld hs (by (repeat (first | exact At.z | apply At.s))) (by rfl), ?_⟩ | refine ⟨_, _, _, Sat.ld hs (by (repeat (first | exact At.z | apply At.s))) (by rfl), ?_⟩ | (intro _ _ hn; replace hs := Sat.new hs hn; clear hn) | refine ⟨Sat.cs hs (by (repeat (first | exact At.z | apply At.s))) (by rfl), ?_⟩ | (refine ⟨Sat.can hs (by (repeat (first | exact At.z | apply At.s))) (by simp), ?_⟩; intro _ e; replace hs := Sat.wr hs (by (repeat (first | exact At.z | apply At.s))) e; clear e; simp only [put, splice, List.set] at hs))
   refine blank_spec _ _ fun h2 x2 => ?_
   have hs := hs.ext x2
   (repeat first | refine ⟨_, Sat.ld hs (by (repeat (first | exact At.z | apply At.s))) (by rfl), ?_⟩ | refine ⟨_, _, _, Sat.ld hs (by (repeat (first | exact At.z | apply At.s))) (by rfl), ?_⟩ | (intro _ _ hn; replace hs := Sat.new hs hn; clear hn) | refine ⟨Sat.cs hs (by (repeat (first | exact At.z | apply At.s))) (by rfl), ?_⟩ | (refine ⟨Sat.can hs (by (repeat (first | exact At.z | apply At.s))) (by simp), ?_⟩; intro _ e; replace hs := Sat.wr hs (by (repeat (first | exact At.z | apply At.s))) e; clear e; simp only [put, splice, List.set] at hs))
   have hc' := hm.cells
   have hc'' := hm.slots
   refine Repeat_sp c.cells.toNat ?_ hs (.z) rfl ?_ ?_
   ·omega
   ·omega
   intro b2 h3 hs
   (repeat first | refine ⟨_, Sat.ld hs (by (repeat (first | exact At.z | apply At.s))) (by rfl), ?_⟩ | refine ⟨_, _, _, Sat.ld hs (by (repeat (first | exact At.z | apply At.s))) (by rfl), ?_⟩ | (intro _ _ hn; replace hs := Sat.new hs hn; clear hn) | refine ⟨Sat.cs hs (by (repeat (first | exact At.z | apply At.s))) (by rfl), ?_⟩ | (refine ⟨Sat.can hs (by (repeat (first | exact At.z | apply At.s))) (by simp), ?_⟩; intro _ e; replace hs := Sat.wr hs (by (repeat (first | exact At.z | apply At.s))) e; clear e; simp only [put, splice, List.set] at hs))
   refine ⟨_, Sat.bv hs (.z) (by simp) (by simp), ?_⟩
   replace hs := Sat.front hs (e := sE (some ⟨b2, 0, none⟩, _, _) 32 _) (by (repeat (first | exact At.z | apply At.s)))
   refine Sat.app_row hs (by (repeat (first | exact At.z | apply At.s))) (by dsimp only; omega) ?_
   intro p' c' h4 hs
   simp only [put, del] at hs
   (repeat first | refine ⟨_, Sat.ld hs (by (repeat (first | exact At.z | apply At.s))) (by rfl), ?_⟩ | refine ⟨_, _, _, Sat.ld hs (by (repeat (first | exact At.z | apply At.s))) (by rfl), ?_⟩ | (intro _ _ hn; replace hs := Sat.new hs hn; clear hn) | refine ⟨Sat.cs hs (by (repeat (first | exact At.z | apply At.s))) (by rfl), ?_⟩ | (refine ⟨Sat.can hs (by (repeat (first | exact At.z | apply At.s))) (by simp), ?_⟩; intro _ e; replace hs := Sat.wr hs (by (repeat (first | exact At.z | apply At.s))) e; clear e; simp only [put, splice, List.set] at hs))
   rw [wrap_succ (by omega)]
   refine hk _ ⟨(p', hl + 1, c'), rfl, ?_⟩
   replace hs := Sat.front hs (e := blk p _) (by (repeat (first | exact At.z | apply At.s)))
   replace hs := Sat.front hs (e := blk a _) (by (repeat (first | exact At.z | apply At.s)))
   replace hs := Sat.front hs (e := blk b _) (by (repeat (first | exact At.z | apply At.s)))
   replace hs := Sat.front hs (e := blk g _) (by (repeat (first | exact At.z | apply At.s)))
   replace hs := Sat.front hs (e := matE 32 _ _) (by (repeat (first | exact At.z | apply At.s)))
   simp only [del] at hs
   rw [List.replicate_succ']
   exact hs.sub (by (repeat (first | exact List.Sublist.refl _ | apply List.Sublist.cons_cons | apply List.Sublist.cons)))
  ·rintro h1 ⟨⟨hp, hl, hc⟩, e, hs⟩
   apply hJ38
   rw [ltI_eq, if_neg (by simp; omega)]
   simp only [Cfg.vals] at hs
   (repeat first | refine ⟨_, Sat.ld hs (by (repeat (first | exact At.z | apply At.s))) (by rfl), ?_⟩ | refine ⟨_, _, _, Sat.ld hs (by (repeat (first | exact At.z | apply At.s))) (by rfl), ?_⟩ | (intro _ _ hn; replace hs := Sat.new hs hn; clear hn) | refine ⟨Sat.cs hs (by (repeat (first | exact At.z | apply At.s))) (by rfl), ?_⟩ | (refine ⟨Sat.can hs (by (repeat (first | exact At.z | apply At.s))) (by simp), ?_⟩; intro _ e; replace hs := Sat.wr hs (by (repeat (first | exact At.z | apply At.s))) e; clear e; simp only [put, splice, List.set] at hs))
   refine k2 hm _ _ (Sat.close ⟨(hp, hl, hc), (some ⟨a, 0, none⟩, c.np.toNat, c.np.toNat), (some ⟨b, 0, none⟩, c.nf.toNat, c.nf.toNat), (none, 0, 0)⟩ (freshC_ok hm) ?_)
   have eb : (List.replicate c.nf.toNat [Value.bool false]).flatten = bools (freshC c).s.blown := by simp [freshC, freshSt, bools]
   have ea : (List.replicate c.np.toNat [Value.int .i64 0]).flatten = ints .i64 (freshC c).s.erases := by simp [freshC, freshSt, zeros, ints]
   rw [ea, eb] at hs
   replace hs := hs.as_sl (i := 3) (l := c.nf.toNat) (sz := 1) (.s (.s (.s .z))) (by simp [freshC, freshSt]) (bools_one _)
   replace hs := hs.as_sl (i := 4) (l := c.np.toNat) (sz := 1) (.s (.s (.s (.s .z)))) (by simp [freshC, freshSt]) (ints_one _ _)
   replace hs := hs.sl_nil 1 none
   simp only [put] at hs
   replace hs := Sat.front hs (e := slE _ _ _ 1 (bools _)) (by (repeat (first | exact At.z | apply At.s)))
   replace hs := Sat.front hs (e := slE _ _ _ 1 (ints .i64 _)) (by (repeat (first | exact At.z | apply At.s)))
   replace hs := Sat.front hs (e := matE 32 _ _) (by (repeat (first | exact At.z | apply At.s)))
   replace hs := Sat.front hs (e := blk _ [_, _, _, _, _, _, _, _, _, _, _, _, _, _]) (by (repeat (first | exact At.z | apply At.s)))
   simp only [del] at hs
   exact hs.sub (by (repeat (first | exact List.Sublist.refl _ | apply List.Sublist.cons_cons | apply List.Sublist.cons)))
 repeat' (first | refine ⟨_, Sat.ld hs (by (repeat (first | exact At.z | apply At.s))) (by rfl), ?_⟩ | (intro _ _ hn; replace hs := Sat.new hs hn; clear hn) | refine ⟨Sat.cs hs (by (repeat (first | exact At.z | apply At.s))) (by rfl), ?_⟩ | (refine ⟨Sat.can hs (by (repeat (first | exact At.z | apply At.s))) (by simp), ?_⟩; intro _ e; replace hs := Sat.wr hs (by (repeat (first | exact At.z | apply At.s))) e; clear e; simp only [put, splice, List.set] at hs) | refine ⟨by omega, ?_⟩ | (refine pages_sp c hm hs ?_; intro _ hs) | (refine fuses_sp c hm hs ?_; intro _ hs) | refine And.intro ?_ ?_)
 all_goals
  replace hs := Sat.front hs (e := blk _ [Value.slice none 0 0, Value.slice (some ⟨_, 0, none⟩) _ _, Value.slice (some ⟨_, 0, none⟩) _ _]) (by (repeat (first | exact At.z | apply At.s)))
  replace hs := Sat.front hs (e := blk _ (List.replicate c.np.toNat [Value.int .i64 0]).flatten) (by (repeat (first | exact At.z | apply At.s)))
  replace hs := Sat.front hs (e := blk _ (List.replicate c.nf.toNat [Value.bool false]).flatten) (by (repeat (first | exact At.z | apply At.s)))
  replace hs := Sat.front hs (e := blk _ c.vals) (by (repeat (first | exact At.z | apply At.s)))
  exact fin _ _ _ _ hs
end Go.Proofs.YteedolonhdbieaaGreatDoor
end

/- Contracts of the chip's methods that lay nothing into pages. Own work. -/
section
set_option linter.unusedVariables false
namespace Go.Proofs.YteedolonhdbieaaGreatDoor
open Go Go.Vc

def askedM (C : Cm) (i n : Int) : Int := if C.out = true then 8 else if i < 0 then 2 else if n ≤ i then 2 else 0
def asksCellM (C : Cm) (page cell : Int) : Int := if askedM C page C.s.pages.length ≠ 0 then askedM C page C.s.pages.length else askedM C cell C.cfg.cells
def w64 (n : Int) : Int := IntKind.i64.wrap n
def Cm.act (C : Cm) : Cm :=
 if C.left ≠ 0 then { C with acts := w64 (C.acts + 1), left := if C.left - 1 > -1 then C.left - 1 else -1 }
 else { C with acts := w64 (C.acts + 1), out := true, left := -1, mask := [] }
def maskAt (C : Cm) (i : Nat) : Int := if C.left ≠ 0 then 255 else if C.mask = [] then 0 else C.mask.getD (i % C.mask.length) 0
def errM (C : Cm) : Int := if C.left ≠ 0 then 0 else 8

theorem w64_range (n : Int) : -(2 ^ 63) ≤ w64 n ∧ w64 n < 2 ^ 63 := by unfold w64; rw [IntKind.wrap_i64]; omega
theorem Cm.ok.act {C : Cm} (k : C.ok) : C.act.ok := by
 have r := w64_range (C.acts + 1)
 have := k.left
 unfold Cm.act
 split
 ·exact ⟨k.may, k.fits, k.typed, by dsimp only; split <;> omega, by have := k.left2; dsimp only; split <;> omega, k.mask, r, k.mlen⟩
 ·exact ⟨k.may, k.fits, k.typed, by dsimp only; omega, by dsimp only; omega, by intro n hn; simp at hn, r, by simp⟩

theorem chip_close {h0 h : H} {A : List Ent} {i p : Nat} {C C0 : Cm} {a b c m : Sl} (ok : C.ok) (ci : At A i (chipE p C0))
  (hs : Sat h0 (blk p (C.cells a b c m) :: matE 32 a C.s.pages :: sE b 1 (ints .i64 C.s.erases) :: sE c 1 (bools C.s.blown) :: sE m 1 (ints .u8 C.mask) :: del A i) h) : Sat h0 (put A i (chipE p C)) h :=
 Sat.back ci (Sat.close ⟨a, b, c, m⟩ ok hs)
section
variable {h0 h : H} {A : List Ent} {i p : Nat} {C : Cm}
theorem Out_sp {Q : Bool → H → Prop} (hs : Sat h0 A h) (ci : At A i (chipE p C)) (k : Q C.out h) : F_chip_Chip_Out ⟨p, 0, none⟩ Q h := by
 unfold F_chip_Chip_Out G_chip_Chip_Out
 obtain ⟨w, ok, hs⟩ := (hs.front ci).open_; dsimp only [chipL, List.cons_append, List.nil_append, Cm.cells] at hs
 exact ⟨_, hs.ld .z rfl, k⟩
theorem Config_sp {Q : Int → Int → Int → Int → Int → Int → Int → H → Prop} (hs : Sat h0 A h) (ci : At A i (chipE p C))
  (k : ∀ h', Sat h0 A h' → Q C.cfg.cells C.cfg.slots C.cfg.fuses C.cfg.step C.cfg.keys C.cfg.erases C.cfg.area h') : F_chip_Chip_Config ⟨p, 0, none⟩ Q h := by
 unfold F_chip_Chip_Config G_chip_Chip_Config
 obtain ⟨w, ok, hs⟩ := (hs.front ci).open_; dsimp only [chipL, List.cons_append, List.nil_append, Cm.cells] at hs
 try simp only [add_mk, Nat.zero_add]
 (repeat first | refine ⟨_, Sat.ld hs (by (repeat (first | exact At.z | apply At.s))) (by rfl), ?_⟩ | refine ⟨_, _, _, Sat.ld hs (by (repeat (first | exact At.z | apply At.s))) (by rfl), ?_⟩ | (intro _ _ hn; replace hs := Sat.new hs hn; clear hn) | refine ⟨Sat.cs hs (by (repeat (first | exact At.z | apply At.s))) (by rfl), ?_⟩ | (refine ⟨Sat.can hs (by (repeat (first | exact At.z | apply At.s))) (by simp), ?_⟩; intro _ e; replace hs := Sat.wr hs (by (repeat (first | exact At.z | apply At.s))) e; clear e; simp only [put, splice, List.set] at hs))
 refine k _ ?_
 have := chip_close ok ci hs.drop
 rwa [ci.put_self] at this
theorem asked_b {Q : Int → H → Prop} (hs : Sat h0 A h) {a b c m : Sl} (ci : At A i (blk p (C.cells a b c m))) (n j : Int) (k : Q (askedM C j n) h) : F_chip_Chip_asked ⟨p, 0, none⟩ j n Q h := by
 unfold F_chip_Chip_asked G_chip_Chip_asked
 refine ⟨_, hs.ld ci rfl, ?_⟩
 unfold askedM at k
 simp only [ltI_eq, leI_eq, decide_eq_true_eq]
 split
 ·simpa [*] using k
 ·split
  ·simpa [*] using k
  ·split <;> simpa [*] using k
theorem asked_sp {Q : Int → H → Prop} (hs : Sat h0 A h) (ci : At A i (chipE p C)) (n j : Int) (k : Q (askedM C j n) h) : F_chip_Chip_asked ⟨p, 0, none⟩ j n Q h := by
 obtain ⟨w, ok, hs⟩ := (hs.front ci).open_; dsimp only [chipL, List.cons_append, List.nil_append, Cm.cells] at hs
 exact asked_b (C := C) hs .z n j k
theorem asksCell_sp {Q : Int → H → Prop} (hs : Sat h0 A h) (ci : At A i (chipE p C)) (page cell : Int) (k : Q (asksCellM C page cell) h) : F_chip_Chip_asksCell ⟨p, 0, none⟩ page cell Q h := by
 unfold F_chip_Chip_asksCell G_chip_Chip_asksCell
 obtain ⟨w, ok, hs⟩ := (hs.front ci).open_; dsimp only [chipL, List.cons_append, List.nil_append, Cm.cells] at hs
 have hl := (hs.rdM (.s .z)).len
 refine ⟨_, _, _, hs.ld .z rfl, ?_⟩
 unfold asksCellM at k
 rw [hl] at k
 refine asked_b (C := C) hs .z _ _ ?_
 split
 ·rename_i h1; rw [if_pos (by simpa using h1)] at k; exact k
 ·rename_i h1; rw [if_neg (by simpa using h1)] at k
  refine ⟨_, hs.ld .z rfl, asked_b (C := C) hs .z _ _ k⟩

def mayV (v : Value) (f : Nat → Int) : Option (Nat × Sl × List Int) → Prop
 | none => v = .func (.func id_chip_Chip_begins_1) #[] #[] ∧ f = fun _ => 255
 | some (b, _, mask) => v = .func (.func id_chip_Chip_begins_2) #[] #[.pointer (some ⟨b, 0, none⟩)] ∧ f = fun i => if mask = [] then 0 else mask.getD (i % mask.length) 0
def mayL : Option (Nat × Sl × List Int) → List Ent
 | none => []
 | some (b, m, mask) => [blk b [m.v], sE m 1 (ints .u8 mask)]
def mayE (v : Value) (f : Nat → Int) : Ent := exE 3 (mayV v f) mayL
theorem begins_sp {Q : Value → Int → H → Prop} (hs : Sat h0 A h) (ci : At A i (chipE p C))
  (k : ∀ v h', Sat h0 (mayE v (maskAt C) :: put A i (chipE p C.act)) h' → Q v (errM C) h') : F_chip_Chip_begins ⟨p, 0, none⟩ Q h := by
 unfold F_chip_Chip_begins G_chip_Chip_begins
 obtain ⟨w, ok, hs⟩ := (hs.front ci).open_; dsimp only [chipL, List.cons_append, List.nil_append, Cm.cells] at hs
 try simp only [add_mk, Nat.zero_add]
 (repeat first | refine ⟨_, Sat.ld hs (by (repeat (first | exact At.z | apply At.s))) (by rfl), ?_⟩ | refine ⟨_, _, _, Sat.ld hs (by (repeat (first | exact At.z | apply At.s))) (by rfl), ?_⟩ | (intro _ _ hn; replace hs := Sat.new hs hn; clear hn) | refine ⟨Sat.cs hs (by (repeat (first | exact At.z | apply At.s))) (by rfl), ?_⟩ | (refine ⟨Sat.can hs (by (repeat (first | exact At.z | apply At.s))) (by simp), ?_⟩; intro _ e; replace hs := Sat.wr hs (by (repeat (first | exact At.z | apply At.s))) e; clear e; simp only [put, splice, List.set] at hs))
 have hl := ok.left
 have ha := ok.act
 by_cases h1 : C.left = 0
 ·rw [if_neg (by simp [h1])]
  (repeat first | refine ⟨_, Sat.ld hs (by (repeat (first | exact At.z | apply At.s))) (by rfl), ?_⟩ | refine ⟨_, _, _, Sat.ld hs (by (repeat (first | exact At.z | apply At.s))) (by rfl), ?_⟩ | (intro _ _ hn; replace hs := Sat.new hs hn; clear hn) | refine ⟨Sat.cs hs (by (repeat (first | exact At.z | apply At.s))) (by rfl), ?_⟩ | (refine ⟨Sat.can hs (by (repeat (first | exact At.z | apply At.s))) (by simp), ?_⟩; intro _ e; replace hs := Sat.wr hs (by (repeat (first | exact At.z | apply At.s))) e; clear e; simp only [put, splice, List.set] at hs))
  have e : errM C = 8 := by simp [errM, h1]
  rw [e] at k
  have em : maskAt C = fun i => if C.mask = [] then 0 else C.mask.getD (i % C.mask.length) 0 := by funext i; simp [maskAt, h1]
  have ea : C.act = { C with acts := w64 (C.acts + 1), out := true, left := -1, mask := [] } := by simp [Cm.act, h1]
  rw [em] at k
  rw [ea] at k ha
  refine k _ _ ?_
  replace hs := Sat.front hs (e := slE _ _ _ 1 (ints .u8 C.mask)) (by (repeat (first | exact At.z | apply At.s)))
  replace hs := Sat.front hs (e := blk _ [w.m.v]) (by (repeat (first | exact At.z | apply At.s)))
  replace hs := hs.sl_nil 1 none
  replace hs := Sat.front hs (e := slE _ _ _ 1 (ints .u8 [])) (by (repeat (first | exact At.z | apply At.s))); replace hs := Sat.front hs (e := slE _ _ _ 1 (bools _)) (by (repeat (first | exact At.z | apply At.s))); replace hs := Sat.front hs (e := slE _ _ _ 1 (ints .i64 _)) (by (repeat (first | exact At.z | apply At.s))); replace hs := Sat.front hs (e := matE 32 _ _) (by (repeat (first | exact At.z | apply At.s))); replace hs := Sat.front hs (e := blk p _) (by (repeat (first | exact At.z | apply At.s))); simp only [del] at hs
  exact Sat.close (some (_, w.m, C.mask)) ⟨rfl, rfl⟩ (chip_close (a := w.a) (b := w.b) (c := w.c) (m := (none, 0, 0)) ha ci.s.s hs)
 ·rw [if_pos (by simp [h1])]
  (repeat first | refine ⟨_, Sat.ld hs (by (repeat (first | exact At.z | apply At.s))) (by rfl), ?_⟩ | refine ⟨_, _, _, Sat.ld hs (by (repeat (first | exact At.z | apply At.s))) (by rfl), ?_⟩ | (intro _ _ hn; replace hs := Sat.new hs hn; clear hn) | refine ⟨Sat.cs hs (by (repeat (first | exact At.z | apply At.s))) (by rfl), ?_⟩ | (refine ⟨Sat.can hs (by (repeat (first | exact At.z | apply At.s))) (by simp), ?_⟩; intro _ e; replace hs := Sat.wr hs (by (repeat (first | exact At.z | apply At.s))) e; clear e; simp only [put, splice, List.set] at hs))
  have e : errM C = 0 := by simp [errM, h1]
  rw [e] at k
  have em : maskAt C = fun i => 255 := by funext i; simp [maskAt, h1]
  have hw : IntKind.i64.wrap (C.left - 1) = C.left - 1 := by
   have := ok.left2
   rw [IntKind.wrap_i64]; omega
  have ea : C.act = { C with acts := w64 (C.acts + 1), left := if C.left - 1 > -1 then C.left - 1 else -1 } := by simp [Cm.act, h1]
  rw [em] at k
  rw [ea] at k ha
  rw [hw] at hs
  refine k _ _ ?_
  exact Sat.close none ⟨rfl, rfl⟩ (chip_close ha ci hs)
theorem call_may {v : Value} {f : Nat → Int} {Q : List DV → H → Prop} (hs : Sat h0 A h) (mm : At A i (mayE v f)) (n : Nat) {x : Int} (hx : x = n) (k : Q [DV.one (.int .u8 (f n))] h) : callFn PP v [DV.one (.int .i64 x)] Q h := by
 obtain ⟨w, e, hs⟩ := (hs.front mm).open_
 subst hx
 cases w with
 | none =>
  obtain ⟨rfl, rfl⟩ := e
  refine callFn_of R_chip_Chip_begins_1 (by simp) (by simp) (by simp [DV.ok]) ?_
  show F_chip_Chip_begins_1 (n : Int) (fun i h => Q [DV.one (.int .u8 i)] h) h
  unfold F_chip_Chip_begins_1 G_chip_Chip_begins_1
  exact k
 | some w =>
  obtain ⟨b, m, mask⟩ := w
  obtain ⟨rfl, rfl⟩ := e
  refine callFn_of R_chip_Chip_begins_2 (by simp) (by simp) (by simp [DV.ok]) ?_
  show F_chip_Chip_begins_2 (n : Int) ⟨b, 0, none⟩ (fun i h => Q [DV.one (.int .u8 i)] h) h
  unfold F_chip_Chip_begins_2 G_chip_Chip_begins_2
  replace hs : Sat h0 (blk b [m.v] :: sE m 1 (ints .u8 mask) :: del A i) h := hs
  dsimp only at k ⊢
  have hl := hs.sl_len (.s .z)
  simp only [ints_length, Nat.mul_one] at hl
  refine ⟨_, _, _, hs.ld .z rfl, ?_⟩
  by_cases h1 : mask = []
  ·rw [if_pos h1] at k
   subst h1
   rw [if_pos (by simp at hl; simp [← hl])]
   exact k
  ·rw [if_neg h1] at k
   have hp : 0 < mask.length := List.length_pos_iff.2 h1
   rw [if_neg (by simp; omega)]
   refine ⟨_, _, _, hs.ld .z rfl, ?_⟩
   refine ⟨_, _, _, hs.ld .z rfl, ?_⟩
   obtain ⟨q, hq⟩ := hs.sl_some (.s .z) (by omega)
   obtain ⟨mp, ml, mc⟩ := m
   simp only at hq hl
   subst hq
   have e : (n : Int).tmod (ml : Int) = ((n % ml : Nat) : Int) := by rw [Int.tmod_eq_emod_of_nonneg (by omega)]; omega
   rw [hl] at k
   have hlt : n % ml < ml := Nat.mod_lt _ (by omega)
   refine ⟨by dsimp only; omega, _, rfl, by dsimp only; rw [e]; omega, by dsimp only; rw [e]; omega, _, ?_, k⟩
   dsimp only
   rw [e]
   try simp only [add_mk, Nat.zero_add, Int.toNat_natCast, Nat.mul_one]
   refine hs.sld (.s .z) ?_
   rw [ints_get, List.getElem?_eq_getElem (by omega)]
   simp [List.getD, List.getElem?_eq_getElem (show n % ml < mask.length by omega)]

theorem askedM_zero {i n : Int} (e : askedM C i n = 0) : C.out = false ∧ 0 ≤ i ∧ i < n := by
 unfold askedM at e
 split at e
 ·omega
 ·rename_i h1
  split at e
  ·omega
  ·split at e
   ·omega
   ·exact ⟨by simpa using h1, by omega, by omega⟩
def blownM (C : Cm) (i : Int) : Bool × Int := if askedM C i C.s.blown.length ≠ 0 then (false, askedM C i C.s.blown.length) else (C.s.blown.getD i.toNat false, 0)
def erasesM (C : Cm) (i : Int) : Int × Int := if askedM C i C.s.pages.length ≠ 0 then (0, askedM C i C.s.pages.length) else (C.s.erases.getD i.toNat 0, 0)
theorem Blown_sp {Q : Bool → Int → H → Prop} (hs : Sat h0 A h) (ci : At A i (chipE p C)) (j : Int) (k : Q (blownM C j).1 (blownM C j).2 h) : F_chip_Chip_Blown ⟨p, 0, none⟩ j Q h := by
 unfold F_chip_Chip_Blown G_chip_Chip_Blown
 have hs' := hs
 obtain ⟨w, ok, hs⟩ := (hs.front ci).open_; dsimp only [chipL, List.cons_append, List.nil_append, Cm.cells] at hs
 try simp only [add_mk, Nat.zero_add]
 have hl := hs.sl_len (i := 3) (.s (.s (.s .z)))
 simp only [bools_length, Nat.mul_one] at hl
 refine ⟨_, _, _, hs.ld .z rfl, ?_⟩
 rw [← hl]
 refine asked_sp hs' ci _ _ ?_
 unfold blownM at k
 by_cases h1 : askedM C j C.s.blown.length = 0
 ·rw [if_neg (by simpa using h1)]
  rw [if_neg (by simpa using h1)] at k
  obtain ⟨_, h2, h3⟩ := askedM_zero h1
  refine ⟨_, _, _, hs.ld .z rfl, ?_⟩
  obtain ⟨q, hq⟩ := hs.sl_some (i := 3) (.s (.s (.s .z))) (by omega)
  obtain ⟨w1, w2, ⟨cp, cl, cc⟩, w4⟩ := w
  simp only at hq hl
  subst hq
  refine ⟨_, rfl, h2, by simp only; omega, _, ?_, k⟩
  try simp only [add_mk, Nat.zero_add, Nat.mul_one]
  refine hs.sld (i := 3) (.s (.s (.s .z))) ?_
  rw [bools_get, List.getElem?_eq_getElem (by omega)]
  simp [List.getD, List.getElem?_eq_getElem (show j.toNat < C.s.blown.length by omega)]
 ·rw [if_pos (by simpa using h1)]
  rw [if_pos (by simpa using h1)] at k
  exact k
theorem Erases_sp {Q : Int → Int → H → Prop} (hs : Sat h0 A h) (ci : At A i (chipE p C)) (j : Int) (k : Q (erasesM C j).1 (erasesM C j).2 h) : F_chip_Chip_Erases ⟨p, 0, none⟩ j Q h := by
 unfold F_chip_Chip_Erases G_chip_Chip_Erases
 have hs' := hs
 obtain ⟨w, ok, hs⟩ := (hs.front ci).open_; dsimp only [chipL, List.cons_append, List.nil_append, Cm.cells] at hs
 try simp only [add_mk, Nat.zero_add]
 have hl := hs.sl_len (i := 2) (.s (.s .z))
 simp only [ints_length, Nat.mul_one] at hl
 have hl1 := (hs.rdM (.s .z)).len
 have hf := ok.fits
 have hnp := hf.pages
 have hne := hf.erases
 refine ⟨_, _, _, hs.ld .z rfl, ?_⟩
 rw [← hl1]
 refine asked_sp hs' ci _ _ ?_
 unfold erasesM at k
 by_cases h1 : askedM C j C.s.pages.length = 0
 ·rw [if_neg (by simpa using h1)]
  rw [if_neg (by simpa using h1)] at k
  obtain ⟨_, h2, h3⟩ := askedM_zero h1
  refine ⟨_, _, _, hs.ld .z rfl, ?_⟩
  obtain ⟨q, hq⟩ := hs.sl_some (i := 2) (.s (.s .z)) (by omega)
  obtain ⟨w1, ⟨cp, cl, cc⟩, w2, w4⟩ := w
  simp only at hq hl
  subst hq
  refine ⟨_, rfl, h2, by simp only; omega, _, ?_, k⟩
  try simp only [add_mk, Nat.zero_add, Nat.mul_one]
  refine hs.sld (i := 2) (.s (.s .z)) ?_
  rw [ints_get, List.getElem?_eq_getElem (by omega)]
  simp [List.getD, List.getElem?_eq_getElem (show j.toNat < C.s.erases.length by omega)]
 ·rw [if_pos (by simpa using h1)]
  rw [if_pos (by simpa using h1)] at k
  exact k
def blowM (C : Cm) (i : Int) : Cm × Int :=
 if askedM C i C.s.blown.length ≠ 0 then (C, askedM C i C.s.blown.length)
 else (if bits .and .u8 (maskAt C 0) 1 = 1 then { C.act with s := { C.s with blown := C.s.blown.set i.toNat true } } else C.act, errM C)
theorem Blow_sp {Q : Int → H → Prop} (hs : Sat h0 A h) (ci : At A i (chipE p C)) (j : Int) (k : ∀ h', Sat h0 (put A i (chipE p (blowM C j).1)) h' → Q (blowM C j).2 h') : F_chip_Chip_Blow ⟨p, 0, none⟩ j Q h := by
 unfold F_chip_Chip_Blow G_chip_Chip_Blow
 have hs' := hs
 obtain ⟨w, ok, hs⟩ := (hs.front ci).open_; dsimp only [chipL, List.cons_append, List.nil_append, Cm.cells] at hs
 try simp only [add_mk, Nat.zero_add]
 have hl := hs.sl_len (i := 3) (.s (.s (.s .z)))
 simp only [bools_length, Nat.mul_one] at hl
 refine ⟨_, _, _, hs.ld .z rfl, ?_⟩
 rw [← hl]
 refine asked_sp hs' ci _ _ ?_
 unfold blowM at k
 by_cases h1 : askedM C j C.s.blown.length = 0
 case neg =>
  rw [if_pos (by simpa using h1)]
  rw [if_pos (by simpa using h1)] at k
  exact k _ (ci.put_self.symm ▸ hs')
 rw [if_neg (by simpa using h1)]
 rw [if_neg (by simpa using h1)] at k
 obtain ⟨_, h2, h3⟩ := askedM_zero h1
 refine begins_sp hs' ci ?_
 intro v h2' hs
 refine call_may hs .z 0 rfl ?_
 refine ⟨_, _, rfl, _, rfl, rfl, ?_⟩
 by_cases h4 : bits .and .u8 (maskAt C 0) 1 = 1
 case neg =>
  rw [if_neg (by simpa using h4)]
  rw [if_neg h4] at k
  exact k _ hs.drop
 rw [if_pos (by simpa using h4)]
 rw [if_pos h4] at k
 have ci2 := (ci.put (chipE p C.act)).s (x := mayE v (maskAt C))
 obtain ⟨w', ok', hs⟩ := (hs.front ci2).open_
 dsimp only [chipL, List.cons_append, List.nil_append, Cm.cells] at hs
 refine ⟨_, _, _, hs.ld .z rfl, ?_⟩
 have eb : C.act.s = C.s := by unfold Cm.act; split <;> rfl
 rw [eb] at hs
 have hl' := hs.sl_len (i := 3) (.s (.s (.s .z)))
 simp only [bools_length, Nat.mul_one] at hl'
 obtain ⟨q, hq⟩ := hs.sl_some (i := 3) (.s (.s (.s .z))) (by omega)
 obtain ⟨w1, w2, ⟨cp, cl, cc⟩, w4⟩ := w'
 simp only at hq hl'
 subst hq
 refine ⟨_, rfl, h2, by dsimp only; omega, ?_⟩
 try simp only [add_mk, Nat.zero_add, Nat.mul_one]
 refine ⟨hs.scan (i := 3) (.s (.s (.s .z))) (by dsimp only; omega) (by simp; omega), ?_⟩
 intro h5 e5
 replace hs := hs.swr (i := 3) (.s (.s (.s .z))) e5 (by dsimp only; omega) (by simp; omega) (by simp)
 simp only [put, splice] at hs
 have ec : ({ C.act with s := { C.s with blown := C.s.blown.set j.toNat true } } : Cm).ok :=
  ⟨ok'.may, ⟨by have := ok'.fits.pages; rw [eb] at this; exact this, by have := ok'.fits.cells; rw [eb] at this; exact this, by have := ok'.fits.erases; rw [eb] at this; exact this,
   by have := ok'.fits.blown; rw [eb] at this; simpa using this⟩, by have := ok'.typed; rw [eb] at this; exact ⟨this.bytes, this.erases⟩, ok'.left, ok'.left2, ok'.mask, ok'.acts, ok'.mlen⟩
 have e6 : (bools C.s.blown).set j.toNat (Value.bool true) = bools (C.s.blown.set j.toNat true) := by simp [bools, List.map_set]
 rw [e6] at hs
 have := chip_close (a := w1) (b := w2) (c := (some ⟨q, 0, none⟩, cl, cc)) (m := w4) ec ci2 hs
 simp only [put_succ, put_put] at this
 exact k _ this.drop
end
end Go.Proofs.YteedolonhdbieaaGreatDoor
end

/- Contracts of the chip's Read, Program, Erase. Own work. -/
section
set_option linter.unusedVariables false
namespace Go.Proofs.YteedolonhdbieaaGreatDoor
open Go Go.Vc

section
variable {h0 h : H} {A : List Ent} {i p : Nat} {C : Cm}
theorem asksCellM_zero {page cell : Int} (ok : C.ok) (e : asksCellM C page cell = 0) : C.out = false ∧ 0 ≤ page ∧ page < C.s.pages.length ∧ 0 ≤ cell ∧ cell < C.cfg.cells ∧
  ∃ hj : page.toNat < C.s.pages.length, (C.s.pages[page.toNat].length : Int) = 32 * C.cfg.cells ∧ (cell.toNat + 1) * 32 ≤ C.s.pages[page.toNat].length := by
 unfold asksCellM at e
 split at e
 ·rename_i h1; exact absurd e h1
 ·rename_i h1
  have h1 : askedM C page C.s.pages.length = 0 := by simpa using h1
  obtain ⟨h2, h3, h4⟩ := askedM_zero h1
  obtain ⟨_, h5, h6⟩ := askedM_zero e
  have hj : page.toNat < C.s.pages.length := by omega
  have hl := ok.fits.cells _ (List.getElem_mem hj)
  exact ⟨h2, h3, h4, h5, h6, hj, hl, by omega⟩
def readM (C : Cm) (page cell : Int) : List Int × Int :=
 if asksCellM C page cell ≠ 0 then (zeros 32, asksCellM C page cell) else (cellAt (C.s.pages.getD page.toNat []) cell.toNat, 0)
theorem Read_sp {Q : List Int → Int → H → Prop} (hs : Sat h0 A h) (ci : At A i (chipE p C)) (page cell : Int) (k : ∀ h', Sat h0 A h' → Q (readM C page cell).1 (readM C page cell).2 h') :
  F_chip_Chip_Read ⟨p, 0, none⟩ page cell Q h := by
 unfold F_chip_Chip_Read G_chip_Chip_Read
 try simp only [add_mk, Nat.zero_add, List.append_nil]
 (intro _ _ hn; replace hs := Sat.new hs hn; clear hn)
 refine asksCell_sp hs (ci.s) _ _ ?_
 unfold readM at k
 by_cases h1 : asksCellM C page cell = 0
 case neg =>
  rw [if_pos (by simpa using h1)]
  rw [if_pos (by simpa using h1)] at k
  (refine ⟨Sat.can hs (by (repeat (first | exact At.z | apply At.s))) (by simp), ?_⟩; intro _ e; replace hs := Sat.wra hs (by (repeat (first | exact At.z | apply At.s))) e (by simp [*]); clear e; simp only [put] at hs)
  refine ⟨_, ?_, hs.row0 (by (repeat (first | exact At.z | apply At.s))), ?_⟩
  ·simp
  exact k _ hs.drop
 rw [if_neg (by simpa using h1)]
 rw [if_neg (by simpa using h1)] at k
 have hs' := hs
 obtain ⟨w, ok, hs⟩ := (hs.front ci.s).open_
 obtain ⟨_, h2, h3, h4, h5, hj, hl, hk⟩ := asksCellM_zero ok h1
 dsimp only [chipL, List.cons_append, List.nil_append, Cm.cells] at hs
 refine ⟨_, _, _, hs.ld .z rfl, ?_⟩
 have rd := hs.rdM (.s .z)
 have hlen := rd.len
 obtain ⟨q, x, q', e1, e2, e3, e4, e5⟩ := rd.cell hj hk
 rw [e1]
 refine ⟨_, rfl, h2, by (try dsimp only); omega, ?_⟩
 refine ⟨_, _, _, e2, ?_⟩
 refine ⟨_, e4, h4, by omega, ?_⟩
 refine ⟨_, cellAt_length hk, e5, ?_⟩
 replace hs := hs'
 have hcl := cellAt_length hk
 (refine ⟨Sat.can hs (by (repeat (first | exact At.z | apply At.s))) (by simp), ?_⟩; intro _ e; replace hs := Sat.wra hs (by (repeat (first | exact At.z | apply At.s))) e (by simp [*]); clear e; simp only [put] at hs)
 refine ⟨_, ?_, hs.row0 (by (repeat (first | exact At.z | apply At.s))), ?_⟩
 ·exact hcl
 have : C.s.pages.getD page.toNat [] = C.s.pages[page.toNat] := by simp [List.getD, List.getElem?_eq_getElem hj]
 rw [this] at k
 exact k _ hs.drop

def progCell (old x : List Int) (f : Nat → Int) : List Int := mapTo (fun i now => bits .andNot .u8 now (bits .andNot .u8 (f i) (x.getD i 0))) 32 old
def Cm.setPage (C : Cm) (j : Nat) (row : List Int) : Cm := { C with s := { C.s with pages := C.s.pages.set j row } }
def rowOf (C : Cm) (page : Int) : List Int := C.s.pages.getD page.toNat []
def programM (C : Cm) (page cell : Int) (x : List Int) : Cm × Int :=
 if asksCellM C page cell ≠ 0 then (C, asksCellM C page cell)
 else (C.act.setPage page.toNat (rowSet (rowOf C page) cell.toNat (progCell (cellAt (rowOf C page) cell.toNat) x (maskAt C))), errM C)
theorem act_s (C : Cm) : C.act.s = C.s := by unfold Cm.act; split <;> rfl
theorem act_cfg (C : Cm) : C.act.cfg = C.cfg := by unfold Cm.act; split <;> rfl
theorem byte_bits (op : BinOp) (a b : Int) : isByte (bits op .u8 a b) := by
 have h1 := bits_lo_u8 op a b; have h2 := bits_hi_u8 op a b
 unfold isByte; omega
theorem Cm.ok.setPage {C : Cm} (ok : C.ok) {j : Nat} {row : List Int} (hl : (row.length : Int) = 32 * C.cfg.cells) (hb : bytesOk row) : (C.setPage j row).ok := by
 refine ⟨ok.may, ⟨by simpa [Cm.setPage] using ok.fits.pages, ?_, ok.fits.erases, ok.fits.blown⟩, ⟨?_, ok.typed.erases⟩, ok.left, ok.left2, ok.mask, ok.acts, ok.mlen⟩
 ·intro l hm
  rcases List.mem_or_eq_of_mem_set hm with hm | hm
  ·exact ok.fits.cells l hm
  ·rw [hm]; exact hl
 ·intro l hm
  rcases List.mem_or_eq_of_mem_set hm with hm | hm
  ·exact ok.typed.bytes l hm
  ·rw [hm]; exact hb
theorem cellAt_mem {row : List Int} {k : Nat} {v : Int} (h : v ∈ cellAt row k) : v ∈ row := List.mem_of_mem_drop (List.mem_of_mem_take h)
def eraseRow (row : List Int) (f : Nat → Int) : List Int := mapTo (fun i b => bits .or .u8 b (f i)) row.length row
def Cm.setErase (C : Cm) (j : Nat) (n : Int) : Cm := { C with s := { C.s with erases := C.s.erases.set j n } }
def eraseM (C : Cm) (page : Int) : Cm × Int :=
 if askedM C page C.s.pages.length ≠ 0 then (C, askedM C page C.s.pages.length)
 else if C.cfg.erases ≤ C.s.erases.getD page.toNat 0 then (C, 9)
 else ((C.act.setErase page.toNat (C.s.erases.getD page.toNat 0 + 1)).setPage page.toNat (eraseRow (rowOf C page) (maskAt C)), errM C)
theorem Cm.ok.setErase {C : Cm} (ok : C.ok) {j : Nat} {n : Int} (hn : -(2 ^ 63) ≤ n ∧ n < 2 ^ 63) : (C.setErase j n).ok := by
 refine ⟨ok.may, ⟨ok.fits.pages, ok.fits.cells, by simpa [Cm.setErase] using ok.fits.erases, ok.fits.blown⟩, ⟨ok.typed.bytes, ?_⟩, ok.left, ok.left2, ok.mask, ok.acts, ok.mlen⟩
 intro l hm
 rcases List.mem_or_eq_of_mem_set hm with hm | hm
 ·exact ok.typed.erases l hm
 ·rw [hm]; exact hn
end
end Go.Proofs.YteedolonhdbieaaGreatDoor
end

/- Contracts of copies: copied, State, Copy. Own work. -/
section
set_option linter.unusedVariables false
namespace Go.Proofs.YteedolonhdbieaaGreatDoor
open Go Go.Vc

structure St.small (s : St) : Prop where
 pages : s.pages.length * 24 + 4096 ≤ 2 ^ 47
 rows : ∀ l, l ∈ s.pages → l.length + 4096 ≤ 2 ^ 47
 erases : s.erases.length * 8 + 4096 ≤ 2 ^ 47
 blown : s.blown.length + 4096 ≤ 2 ^ 47
theorem Cm.ok.small {C : Cm} (ok : C.ok) : C.s.small := by
 have h1 := ok.may.np; have h2 := ok.may.nf; have h3 := ok.fits; have h4 := ok.may.cells
 refine ⟨by have := h3.pages; omega, fun l hl => by have := h3.cells l hl; omega, by have := h3.erases; omega, by have := h3.blown; omega⟩

section
variable {h0 h : H} {A : List Ent} {i p : Nat} {C : Cm}
theorem chip_make {a b c m : Sl} (ok : C.ok) (hs : Sat h0 (blk p (C.cells a b c m) :: matE 32 a C.s.pages :: sE b 1 (ints .i64 C.s.erases) :: sE c 1 (bools C.s.blown) :: sE m 1 (ints .u8 C.mask) :: A) h) : Sat h0 (chipE p C :: A) h :=
 Sat.close ⟨a, b, c, m⟩ ok hs
end
end Go.Proofs.YteedolonhdbieaaGreatDoor
end

/- What arguments of the statements are: states of chips. Own work. -/
section
set_option maxRecDepth 100000
set_option linter.unusedVariables false
namespace Go.Proofs.YteedolonhdbieaaGreatDoor
open Go Go.Vc Go.ChangeShapes Go.WideShapes Go.ChangeAt Go.RowKit

theorem xInt : xsh PP 8 3 = some [.int .i64] := by kernel_rfl
section
variable {D : Type} {enc : TypeId × Value → D} {W : World}
theorem ints_of {p : Option Addr} {l c : Nat} (h : Sli enc PP W 3 p l c) : ∃ ns : List Int, hsv W.heap p 1 l (ints .i64 ns) ∧ (∀ n, n ∈ ns → -(2 ^ 63) ≤ n ∧ n < 2 ^ 63) ∧ ns.length * 8 + 4096 ≤ 2 ^ 47 := by
 have hb : Tryz.prog.bytesOf 3 = 8 := by kernel_rfl
 have hc : Tryz.prog.cellsOf 3 = 1 := by kernel_rfl
 obtain ⟨ess, h1, h2, h3, _⟩ := h.els xInt
 have hlc := h.1
 have hr := h.2.1
 rw [hb] at hr
 rw [hc] at h3
 have key : ∀ ess : List (List Value), (∀ es, es ∈ ess → es.length = Tryz.prog.cellsOf 3 ∧ XM enc PP W [XSh.int .i64] es) → ∃ ns : List Int, ess.flatten = ints .i64 ns ∧ ∀ n, n ∈ ns → -(2 ^ 63) ≤ n ∧ n < 2 ^ 63 := by
  intro ess
  induction ess with
  | nil => intro _; exact ⟨[], rfl, by intro n hn; simp at hn⟩
  | cons x r ih =>
   intro h
   obtain ⟨ns, e, hn⟩ := ih fun es hes => h es (by simp [hes])
   obtain ⟨n, rest, rfl, hh, hr⟩ := (h x (by simp)).2
   simp only [XM] at hr
   subst hr
   refine ⟨n :: ns, by simp [e], ?_⟩
   intro m hm
   rcases List.mem_cons.1 hm with rfl | hm
   ·exact has_i64 hh
   ·exact hn m hm
 obtain ⟨ns, e, hn⟩ := key ess h2
 rw [e] at h3
 have : ns.length = l := by have := h3.1; simpa using this
 refine ⟨ns, h3, hn, ?_⟩
 unfold reachBytes at hr
 omega
theorem ok_cfg (c : Cfg) : (DV.agg (c.vals.map .c)).ok := by
 intro y hy; simp only [Cfg.vals, List.map_cons, List.map_nil, List.mem_cons, List.not_mem_nil, or_false] at hy
 rcases hy with rfl | rfl | rfl | rfl | rfl | rfl | rfl <;> rfl
end
end Go.Proofs.YteedolonhdbieaaGreatDoor
end

/- Bits of bytes. Own work; generic over any program. -/
section
namespace Go.Vc
abbrev b8 (x : Int) : BitVec 8 := BitVec.ofInt 8 x
theorem b8_nat (v : BitVec 8) : b8 (v.toNat : Int) = v := by simp [b8]
theorem w8_nat (v : BitVec 8) : IntKind.u8.wrap (v.toNat : Int) = (v.toNat : Int) := by
 have := v.isLt
 rw [IntKind.wrap_u8]; omega
theorem bits_or8 (x y : Int) : bits .or .u8 x y = ((b8 x ||| b8 y).toNat : Int) := w8_nat (b8 x ||| b8 y)
theorem bits_xor8 (x y : Int) : bits .xor .u8 x y = ((b8 x ^^^ b8 y).toNat : Int) := w8_nat (b8 x ^^^ b8 y)
theorem bits_andNot8 (x y : Int) : bits .andNot .u8 x y = ((b8 x &&& ~~~ b8 y).toNat : Int) := w8_nat (b8 x &&& ~~~ b8 y)
theorem full_or (b : Int) : bits .or .u8 b 255 = 255 := by
 rw [bits_or8]
 have : b8 255 = BitVec.allOnes 8 := by decide
 rw [this, BitVec.or_allOnes]
 decide
end Go.Vc
end

/- Maps as owned things. Own work; generic over any program. -/
section
set_option linter.unusedVariables false
namespace Go.Vc

@[irreducible] def mapP (r : Nat) (es : List (Value × DV)) (h : H) (f : Nat → Prop) : Prop := hmap h r es ∧ ∀ x, f x ↔ x = r
theorem hmap_lt {h : H} {r : Nat} {es : List (Value × DV)} (m : hmap h r es) : r < h.size := by
 obtain ⟨a, cl, e, _⟩ := m
 exact (Array.getElem?_eq_some_iff.1 e).1
def mapE (r : Nat) (es : List (Value × DV)) : Ent where
 tag := .of r
 P := mapP r es
 st := by unfold mapP; rintro h h' f ⟨⟨a, cl, k, ke⟩, e⟩ hs; exact ⟨⟨a, cl, by rw [hs r ((e r).2 rfl)]; exact k, ke⟩, e⟩
 lt := by unfold mapP; rintro h f x ⟨k, e⟩ hx; rw [(e x).1 hx]; exact hmap_lt k
theorem mapE_P {r : Nat} {es : List (Value × DV)} {h : H} {f : Nat → Prop} : (mapE r es).P h f ↔ hmap h r es ∧ ∀ x, f x ↔ x = r := by
 show mapP r es h f ↔ _; unfold mapP; rfl
theorem Sat.mapNew {h0 h h' : H} {A : List Ent} (s : Sat h0 A h) {b : Nat} (n : hmnew h b h') : Sat h0 (mapE b [] :: A) h' := by
 obtain ⟨rfl, rfl⟩ := n
 refine s.add ⟨by simp, fun x hx _ => by rw [Array.getElem?_push, if_neg (by omega)]⟩ (f := fun x => x = h.size) (mapE_P.2 ⟨⟨#[], 0, by simp, rfl, fun e he => by cases he⟩, fun _ => Iff.rfl⟩) fun x hx => by rw [hx]; exact Nat.le_refl _
theorem Sat.mapAt {h0 h : H} {A : List Ent} (s : Sat h0 A h) {i r : Nat} {es : List (Value × DV)} (a : At A i (mapE r es)) : hmap h r es := by
 obtain ⟨f, hp, _⟩ := s.take a
 exact (mapE_P.1 hp).1
theorem Sat.mapSet {h0 h h' : H} {A : List Ent} (s : Sat h0 A h) {i r : Nat} {es es' : List (Value × DV)} (a : At A i (mapE r es)) (e : hmset h r es' h') : Sat h0 (Vc.put A i (mapE r es')) h' := by
 refine s.upd a fun f hp => ?_
 obtain ⟨k, hf⟩ := mapE_P.1 hp
 have hlt := hmap_lt k
 obtain ⟨m, cl, rfl, hent⟩ := e
 refine ⟨f, mapE_P.2 ⟨⟨m, cl, by rw [Array.getElem?_setIfInBounds_self_of_lt hlt], hent⟩, hf⟩, fun _ => Or.inl, ⟨by simp, fun x _ hx => ?_⟩⟩
 rw [Array.getElem?_setIfInBounds_ne]
 intro y; exact hx ((hf x).2 y.symm)
theorem take_snoc (l : List Int) (n : Nat) (h : n < l.length) : l.take n ++ [l.getD n 0] = l.take (n + 1) := by
 rw [List.take_succ]; simp [List.getD, List.getElem?_eq_getElem h]
end Go.Vc
end

/- SHA-256 in the program: a model on rows of integers, and taking a piece in. Own work. -/
section
set_option maxRecDepth 100000
set_option linter.unusedVariables false
namespace Go.Proofs.YteedolonhdbieaaGreatDoor
open Go Go.Vc

theorem wrapU64 (n : Int) : IntKind.u64.wrap n = n % 18446744073709551616 := by simp [IntKind.wrap, IntKind.signed, IntKind.bits]
theorem hsvI {h : H} {p : Option Addr} {l : Nat} {k : IntKind} {ns : List Int} {x : Nat} (rd : hsv h p 1 l (ints k ns)) (hx : x < l) : ∃ q, p = some q ∧ hc h (q.add x) = some (.int k (ns.getD x 0)) := by
 have hl : ns.length = l := by have := rd.1; simpa using this
 obtain ⟨q, hq, g⟩ := hsv_get rd (i := x) (v := .int k (ns.getD x 0)) (by rw [ints_get, List.getElem?_eq_getElem (by omega)]; simp [List.getD, List.getElem?_eq_getElem (show x < ns.length by omega)])
 exact ⟨q, hq, g⟩

/-! ### The model -/
def kM : List Int := [1116352408, 1899447441, 3049323471, 3921009573, 961987163, 1508970993, 2453635748, 2870763221, 3624381080, 310598401, 607225278, 1426881987, 1925078388, 2162078206, 2614888103, 3248222580, 3835390401, 4022224774, 264347078, 604807628, 770255983, 1249150122, 1555081692, 1996064986, 2554220882, 2821834349, 2952996808, 3210313671, 3336571891, 3584528711, 113926993, 338241895, 666307205, 773529912, 1294757372, 1396182291, 1695183700, 1986661051, 2177026350, 2456956037, 2730485921, 2820302411, 3259730800, 3345764771, 3516065817, 3600352804, 4094571909, 275423344, 430227734, 506948616, 659060556, 883997877, 958139571, 1322822218, 1537002063, 1747873779, 1955562222, 2024104815, 2227730452, 2361852424, 2428436474, 2756734187, 3204031479, 3329325298]
def sM : List Int := [1779033703, 3144134277, 1013904242, 2773480762, 1359893119, 2600822924, 528734635, 1541459225]
def rotM (x : Int) (n : Nat) : Int := bits .or .u32 (IntKind.u32.wrap (x * 2 ^ (32 - n))) (x.fdiv (2 ^ n))
def x3 (a b c : Int) : Int := bits .xor .u32 (bits .xor .u32 a b) c
def sig0 (x : Int) : Int := x3 (rotM x 7) (rotM x 18) (x.fdiv (2 ^ 3))
def sig1 (x : Int) : Int := x3 (rotM x 17) (rotM x 19) (x.fdiv (2 ^ 10))
def accM (bs : List Int) : Nat → Int
 | 0 => 0
 | j + 1 => bits .or .u32 (IntKind.u32.wrap (accM bs j * 2 ^ 8)) (IntKind.u32.wrap (bs.getD j 0))
def nxtM (w : List Int) (t : Nat) : Int :=
 IntKind.u32.wrap (IntKind.u32.wrap (IntKind.u32.wrap (w.getD (t - 16) 0 + sig0 (w.getD (t - 15) 0)) + w.getD (t - 7) 0) + sig1 (w.getD (t - 2) 0))
def wM (bs : List Int) : Nat → List Int
 | 0 => zeros 64
 | t + 1 => (wM bs t).set t (if t < 16 then accM ((bs.drop (4 * t)).take 4) 4 else nxtM (wM bs t) t)
def nots (x : Int) : Int := bits .xor .u32 (if IntKind.u32.signed = true then -1 else IntKind.u32.max) x
def uM (a b c d e f g h k w : Int) : Int :=
 IntKind.u32.wrap (IntKind.u32.wrap (IntKind.u32.wrap (IntKind.u32.wrap (h + x3 (rotM e 6) (rotM e 11) (rotM e 25)) + bits .xor .u32 (bits .and .u32 e f) (bits .and .u32 (nots e) g)) + k) + w)
def vM (a b c : Int) : Int := IntKind.u32.wrap (x3 (rotM a 2) (rotM a 13) (rotM a 22) + x3 (bits .and .u32 a b) (bits .and .u32 a c) (bits .and .u32 b c))
def shStepM (s : List Int) (k w : Int) : List Int :=
 match s with
 | [a, b, c, d, e, f, g, h] => [IntKind.u32.wrap (uM a b c d e f g h k w + vM a b c), a, b, c, IntKind.u32.wrap (d + uM a b c d e f g h k w), e, f, g]
 | s => s
def rM (w s : List Int) : Nat → List Int
 | 0 => s
 | t + 1 => shStepM (rM w s t) (kM.getD t 0) (w.getD t 0)
def aM (s r : List Int) : Nat → List Int
 | 0 => s
 | i + 1 => (aM s r i).set i (IntKind.u32.wrap ((aM s r i).getD i 0 + r.getD i 0))
def pieceM (s bs : List Int) : List Int := aM s (rM (wM bs 64) s 64) 8

theorem wM_len (bs : List Int) (t : Nat) : (wM bs t).length = 64 := by
 induction t with
 | zero => simp [wM, zeros]
 | succ t ih => simp [wM, ih]
theorem len8 {s : List Int} (h : s.length = 8) : ∃ a b c d e f g i, s = [a, b, c, d, e, f, g, i] := by
 match s, h with
 | [a, b, c, d, e, f, g, i], _ => exact ⟨a, b, c, d, e, f, g, i, rfl⟩
theorem rM_len (w s : List Int) (h : s.length = 8) (t : Nat) : (rM w s t).length = 8 := by
 induction t with
 | zero => exact h
 | succ t ih =>
  obtain ⟨a, b, c, d, e, f, g, i, hx⟩ := len8 ih
  show (shStepM (rM w s t) _ _).length = 8
  rw [hx]; rfl
theorem aM_len (s r : List Int) (h : s.length = 8) (i : Nat) : (aM s r i).length = 8 := by
 induction i with
 | zero => exact h
 | succ i ih => simp [aM, ih]
theorem pieceM_len {s bs : List Int} (h : s.length = 8) : (pieceM s bs).length = 8 := aM_len _ _ h _
theorem kM_len : kM.length = 64 := by decide
theorem intsG {k : IntKind} {l : List Int} {i : Nat} (h : i < l.length) : (ints k l)[i]? = some (.int k (l.getD i 0)) := by
 rw [ints_get, List.getElem?_eq_getElem h]; simp [List.getD, List.getElem?_eq_getElem h]
theorem intsP (k : IntKind) (l : List Int) (i : Nat) (v : Int) : splice (ints k l) i [.int k v] = ints k (l.set i v) := by
 show (ints k l).set i (.int k v) = _
 rw [ints_set]

/-! ### The digest in memory -/
abbrev dgL (s sm : List Int) (n : Int) : List Value := ints .u32 s ++ (ints .u8 sm ++ .int .u64 n :: (ints .u32 kM ++ []))
section
variable {s sm : List Int} {n : Int}
theorem dg_len (h1 : s.length = 8) (h2 : sm.length = 64) : (dgL s sm n).length = 137 := by simp [h1, h2, kM_len]
theorem dg_s (h1 : s.length = 8) {i : Nat} (hi : i < 8) : (dgL s sm n)[i]? = some (.int .u32 (s.getD i 0)) := by
 rw [List.getElem?_append_left (by simp [h1, hi]), intsG (by omega)]
theorem dg_m (h1 : s.length = 8) (h2 : sm.length = 64) {i : Nat} (hi : i < 64) : (dgL s sm n)[8 + i]? = some (.int .u8 (sm.getD i 0)) := by
 rw [List.getElem?_append_right (by simp [h1]), List.getElem?_append_left (by simp [h1, h2, hi])]
 rw [show 8 + i - (ints .u32 s).length = i by simp [h1], intsG (by omega)]
theorem dg_n (h1 : s.length = 8) (h2 : sm.length = 64) : (dgL s sm n)[72]? = some (.int .u64 n) := by
 rw [List.getElem?_append_right (by simp [h1]), List.getElem?_append_right (by simp [h1, h2])]
 simp [h1, h2]
theorem dg_k (h1 : s.length = 8) (h2 : sm.length = 64) {i : Nat} (hi : i < 64) : (dgL s sm n)[73 + i]? = some (.int .u32 (kM.getD i 0)) := by
 rw [List.getElem?_append_right (by simp [h1]; omega), List.getElem?_append_right (by simp [h1, h2]; omega)]
 rw [show 73 + i - (ints .u32 s).length - (ints .u8 sm).length = i + 1 by simp [h1, h2]; omega, List.getElem?_cons_succ, List.append_nil, intsG (by rw [kM_len]; omega)]
theorem dg_ps (h1 : s.length = 8) {i : Nat} (hi : i < 8) (v : Int) : splice (dgL s sm n) i [.int .u32 v] = dgL (s.set i v) sm n := by
 show (dgL s sm n).set i _ = _
 rw [List.set_append_left _ _ (by simp [h1, hi]), ints_set]
theorem dg_pn (h1 : s.length = 8) (h2 : sm.length = 64) (v : Int) : splice (dgL s sm n) 72 [.int .u64 v] = dgL s sm v := by
 show (dgL s sm n).set 72 _ = _
 rw [List.set_append_right _ _ (by simp [h1]), List.set_append_right _ _ (by simp [h1, h2])]
 simp [h1, h2]
end
section
variable {h0 h : H} {A : List Ent} {i d : Nat}
theorem rot_sp {Q : Int → H → Prop} (x : Int) (k : Int) (m : Nat) (hm : bits .and .u64 (IntKind.u64.wrap k) 31 = ((32 - m : Nat) : Int)) (h1 : 1 ≤ m) (h2 : m < 32) (q : Q (rotM x m) h) : F_math_bits_RotateLeft32 x k Q h := by
 unfold F_math_bits_RotateLeft32 G_math_bits_RotateLeft32
 rw [hm]
 have e : IntKind.u64.wrap (32 - ((32 - m : Nat) : Int)) = (m : Int) := by rw [wrapU64]; omega
 rw [e]
 refine ⟨by omega, by omega, ?_⟩
 rw [Int.toNat_natCast, Int.toNat_natCast, Nat.min_eq_left (by omega), Nat.min_eq_left (by omega)]
 exact q
theorem shTurn_sp {Q : Int → H → Prop} (x : Int) (m : Nat) (hm : bits .and .u64 (IntKind.u64.wrap (IntKind.i64.wrap (0 - (m : Int)))) 31 = ((32 - m : Nat) : Int)) (h1 : 1 ≤ m) (h2 : m < 32) (q : Q (rotM x m) h) : F_sha_turn x (m : Int) Q h := by
 unfold F_sha_turn G_sha_turn
 exact rot_sp x _ m hm h1 h2 q
end
end Go.Proofs.YteedolonhdbieaaGreatDoor
end

/- SHA-256 in the program: a piece is taken in. Own work. -/
section
set_option maxRecDepth 100000
set_option linter.unusedVariables false
namespace Go.Proofs.YteedolonhdbieaaGreatDoor
open Go Go.Vc

theorem addAdd (a : Addr) (i j : Nat) : (a.add i).add j = a.add (i + j) := by
 unfold Addr.add
 by_cases h : i = 0
 ·subst h; simp
 ·by_cases h2 : j = 0
  ·subst h2; simp
  ·have : ¬ i + j = 0 := by omega
   simp [h, h2]; omega
theorem subRd {h : H} {q : Option Addr} {l o n m : Nat} {k : IntKind} {bs : List Int} (rd : hsv h q 1 l (ints k bs)) (ho : o + n ≤ l) (hm : m = o → n = 0) : hsv h (subAddr q o m 1) 1 n (ints k ((bs.drop o).take n)) := by
 have hl : bs.length = l := by have := rd.1; simpa using this
 refine ⟨by rw [ints_length, List.length_take, List.length_drop]; omega, ints_one _ _, ?_⟩
 by_cases c : n = 0
 ·subst c; exact Or.inl rfl
 unfold subAddr
 rw [if_neg (fun y => c (hm y))]
 obtain ⟨_, _, rd⟩ := rd
 rcases rd with rd | ⟨q', rfl, g⟩
 ·have := congrArg List.length rd
  rw [ints_length, List.length_nil] at this; omega
 ·refine Or.inr ⟨_, rfl, ?_⟩
  intro i v hv
  have hi : i < n := by
   have h1 : i < (ints k ((bs.drop o).take n)).length := (List.getElem?_eq_some_iff.1 hv).1
   rw [ints_length, List.length_take] at h1
   exact Nat.lt_of_lt_of_le h1 (Nat.min_le_left _ _)
  have e := g (o + i) v (by
   rw [ints_get] at hv ⊢
   rw [List.getElem?_take_of_lt hi, List.getElem?_drop] at hv
   exact hv)
  rw [Nat.mul_one, addAdd]
  exact e
theorem setD (l : List Int) (j k : Nat) (v : Int) : (l.set j v).getD k 0 = if j = k ∧ k < l.length then v else l.getD k 0 := by
 rw [List.getD_eq_getElem?_getD, List.getElem?_set]
 by_cases c : j = k
 ·subst c
  by_cases d : j < l.length
  ·simp [d]
  ·simp [d]
 ·simp [c]
theorem setSame (l : List Int) (k : Nat) : l.set k (l.getD k 0) = l := by
 apply List.ext_getElem?
 intro j
 rw [List.getElem?_set]
 by_cases c : k = j
 ·subst c
  by_cases d : k < l.length
  ·simp [d, List.getD, List.getElem?_eq_getElem d]
  ·simp [d]
 ·simp [c]
theorem wM_hi (bs : List Int) : ∀ t k, t ≤ k → (wM bs t).getD k 0 = 0
 | 0, k, _ => by
  show (zeros 64).getD k 0 = 0
  rw [List.getD_eq_getElem?_getD]
  unfold zeros
  rw [List.getElem?_replicate]; split <;> rfl
 | t + 1, k, h => by
  show ((wM bs t).set t _).getD k 0 = 0
  rw [setD, if_neg (by omega)]
  exact wM_hi bs t k (by omega)
theorem turn2_sp {h : H} {Q : Int → H → Prop} (x : Int) (m : Nat) {mi : Int} (e : mi = (m : Int)) (hm : bits .and .u64 (IntKind.u64.wrap (IntKind.i64.wrap (0 - (m : Int)))) 31 = ((32 - m : Nat) : Int)) (h1 : 1 ≤ m) (h2 : m < 32) (q : Q (rotM x m) h) : F_sha_turn x mi Q h := by
 subst e
 exact shTurn_sp x m hm h1 h2 q
section
variable {h0 h : H} {A : List Ent} {i d : Nat}
theorem take_sp {Q : H → Prop} {s sm bs : List Int} {n : Int} {bp : Option Addr} {bc : Nat} (hs : Sat h0 A h) (cd : At A i (blk d (dgL s sm n))) (l1 : s.length = 8) (l2 : sm.length = 64) (hbc : 64 ≤ bc) (rd : ∀ h', Sat h0 A h' → hsv h' bp 1 64 (ints .u8 bs))
  (k : ∀ h', Sat h0 (put A i (blk d (dgL (pieceM s bs) sm n))) h' → Q h') : F_sha_Digest_take ⟨d, 0, none⟩ bp 64 bc Q h := by
 unfold F_sha_Digest_take G_sha_Digest_take
 try simp only [add_mk, Nat.zero_add, List.append_nil]
 intro wn _ hn; replace hs := Sat.new hs hn; clear hn
 intro J10 hJ10
 refine loop_up 16 (fun t h => Sat h0 (blk wn (ints .u32 (wM bs t)) :: A) h) ?_ ?_ 0 _ (by omega) hs
 ·intro t h1 ht hs hk
  apply hJ10
  rw [ltI_eq, if_pos (by simp; omega)]
  have e4 : IntKind.i64.wrap (4 * (t : Int)) = ((4 * t : Nat) : Int) := by rw [wrap_id (by omega)]; push_cast; rfl
  have e8 : IntKind.i64.wrap (((4 * t : Nat) : Int) + 4) = ((4 * t + 4 : Nat) : Int) := by rw [wrap_id (by omega)]; push_cast; rfl
  rw [e4, e8]
  simp only [Int.toNat_natCast, Nat.mul_one]
  refine ⟨by omega, by omega, by omega, ?_⟩
  rw [show 4 * t + 4 - 4 * t = 4 by omega]
  obtain ⟨pc, hpc⟩ : ∃ pc, pc = (bs.drop (4 * t)).take 4 := ⟨_, rfl⟩
  have hlen := wM_len bs t
  intro J13 hJ13
  refine loop_up 4 (fun j h => Sat h0 (blk wn (ints .u32 ((wM bs t).set t (accM pc j))) :: A) h) ?_ ?_ 0 _ (by omega) (by
   have : (wM bs t).set t (accM pc 0) = wM bs t := by
    have := setSame (wM bs t) t
    rw [wM_hi bs t t (Nat.le_refl _)] at this
    exact this
   rw [this]; exact hs)
  ·intro j h2 hj hs hk2
   apply hJ13
   rw [ltI_eq, if_pos (by simp; omega)]
   obtain ⟨q, hq, g⟩ := hsvI (subRd (o := 4 * t) (n := 4) (m := bc) (rd _ hs.drop) (by omega) (by omega)) (x := j) (by omega)
   rw [← hpc] at g
   refine ⟨q, hq, by omega, by omega, _, g, by omega, by omega, ?_⟩
   have gw := hs.ld (i := 0) (b := wn) .z (intsG (k := .u32) (l := (wM bs t).set t (accM pc j)) (i := t) (by simp [hlen]; omega))
   rw [setD, if_pos ⟨rfl, by omega⟩] at gw
   refine ⟨_, gw, by decide, by omega, by omega, ?_⟩
   refine ⟨Sat.can hs (i := 0) .z (by simp [hlen]; omega), ?_⟩
   intro h3 e
   replace hs := Sat.wr hs (i := 0) .z e
   clear e
   rw [intsP, List.set_set] at hs
   rw [wrap_succ (by omega)]
   exact hk2 _ hs
  ·intro h2 hs
   apply hJ13
   rw [ltI_eq, if_neg (by decide), wrap_succ (by omega)]
   refine hk _ ?_
   show Sat h0 (blk wn (ints .u32 ((wM bs t).set t _)) :: A) h2
   rw [if_pos ht, ← hpc]
   exact hs
 ·intro h1 hs
  apply hJ10
  rw [ltI_eq, if_neg (by decide)]
  clear hJ10 J10
  intro J23 hJ23
  refine loop_up 64 (fun t h => 16 ≤ t ∧ Sat h0 (blk wn (ints .u32 (wM bs t)) :: A) h) ?_ ?_ 16 _ (by omega) ⟨by omega, hs⟩
  ·rintro t h2 ht ⟨ht2, hs⟩ hk
   apply hJ23
   rw [ltI_eq, if_pos (by simp; omega)]
   have hlen := wM_len bs t
   have e15 : IntKind.i64.wrap ((t : Int) - 15) = ((t - 15 : Nat) : Int) := by rw [wrap_id (by omega)]; omega
   have e2 : IntKind.i64.wrap ((t : Int) - 2) = ((t - 2 : Nat) : Int) := by rw [wrap_id (by omega)]; omega
   have e16 : IntKind.i64.wrap ((t : Int) - 16) = ((t - 16 : Nat) : Int) := by rw [wrap_id (by omega)]; omega
   have e7 : IntKind.i64.wrap ((t : Int) - 7) = ((t - 7 : Nat) : Int) := by rw [wrap_id (by omega)]; omega
   rw [e15, e2, e16, e7]
   simp only [Int.toNat_natCast, Nat.mul_one]
   have g := fun (x : Nat) (hx : x < 64) => hs.ld (i := 0) (b := wn) .z (intsG (k := .u32) (l := wM bs t) (i := x) (by omega))
   refine ⟨by omega, by omega, _, g _ (by omega), by omega, by omega, _, g _ (by omega), by omega, by omega, _, g _ (by omega), by decide, by omega, by omega, _, g _ (by omega), by decide, ?_⟩
   refine turn2_sp _ 7 rfl (by decide +kernel) (by decide) (by decide) ?_
   refine ⟨hcs_one (g _ (by omega)), hcs_one (g _ (by omega)), ?_⟩
   refine turn2_sp _ 18 rfl (by decide +kernel) (by decide) (by decide) ?_
   refine ⟨hcs_one (g _ (by omega)), hcs_one (g _ (by omega)), ?_⟩
   refine turn2_sp _ 17 rfl (by decide +kernel) (by decide) (by decide) ?_
   refine ⟨hcs_one (g _ (by omega)), hcs_one (g _ (by omega)), ?_⟩
   refine turn2_sp _ 19 rfl (by decide +kernel) (by decide) (by decide) ?_
   refine ⟨hcs_one (g _ (by omega)), hcs_one (g _ (by omega)), by omega, by omega, ?_⟩
   refine ⟨Sat.can hs (i := 0) .z (by simp [hlen]; omega), ?_⟩
   intro h3 e
   replace hs := Sat.wr hs (i := 0) .z e
   clear e
   rw [intsP] at hs
   rw [wrap_succ (by omega)]
   refine hk _ ⟨by omega, ?_⟩
   show Sat h0 (blk wn (ints .u32 ((wM bs t).set t _)) :: A) h3
   rw [if_neg (by omega)]
   exact hs
  ·rintro h2 ⟨_, hs⟩
   apply hJ23
   rw [ltI_eq, if_neg (by decide)]
   clear hJ23 J23
   refine ⟨s, l1, hs.row (i := i + 1) (.s cd) (fun x hx => by rw [Nat.zero_add, dg_s l1 (by omega), List.getElem?_eq_getElem hx]; simp [List.getD, List.getElem?_eq_getElem hx]), ?_⟩
   intro sn _ hn; replace hs := Sat.new hs hn; clear hn
   refine ⟨Sat.can hs (i := 0) .z (by simp [l1, zeros]), ?_⟩
   intro h3 e
   replace hs := Sat.wra hs (i := 0) .z e (by simp [l1, zeros])
   clear e
   simp only [put_zero] at hs
   obtain ⟨w, hw⟩ : ∃ w, w = wM bs 64 := ⟨_, rfl⟩
   have hwl : w.length = 64 := by rw [hw]; exact wM_len _ _
   rw [← hw] at hs
   intro J46 hJ46
   refine loop_up 64 (fun t h => Sat h0 (blk sn (ints .u32 (rM w s t)) :: blk wn (ints .u32 w) :: A) h) ?_ ?_ 0 _ (by omega) hs
   ·intro t h4 ht hs hk
    apply hJ46
    rw [ltI_eq, if_pos (by simp; omega)]
    obtain ⟨a, b, c, dd, e, f, g, hh, hr⟩ := len8 (rM_len w s l1 t)
    rw [hr] at hs
    simp only [Int.toNat_natCast, Nat.mul_one]
    have gk : hc h4 ⟨d, 73 + t, none⟩ = some (.int .u32 (kM.getD t 0)) := hs.ld (i := i + 2) (.s (.s cd)) (dg_k l1 l2 ht)
    have gw : hc h4 ⟨wn, t, none⟩ = some (.int .u32 (w.getD t 0)) := hs.ld (i := 1) (.s .z) (intsG (by omega))
    have g0 : hc h4 ⟨sn, 0, none⟩ = some (.int .u32 a) := hs.ld (i := 0) .z rfl
    have g1 : hc h4 ⟨sn, 1, none⟩ = some (.int .u32 b) := hs.ld (i := 0) .z rfl
    have g2 : hc h4 ⟨sn, 2, none⟩ = some (.int .u32 c) := hs.ld (i := 0) .z rfl
    have g3 : hc h4 ⟨sn, 3, none⟩ = some (.int .u32 dd) := hs.ld (i := 0) .z rfl
    have g4 : hc h4 ⟨sn, 4, none⟩ = some (.int .u32 e) := hs.ld (i := 0) .z rfl
    have g5 : hc h4 ⟨sn, 5, none⟩ = some (.int .u32 f) := hs.ld (i := 0) .z rfl
    have g6 : hc h4 ⟨sn, 6, none⟩ = some (.int .u32 g) := hs.ld (i := 0) .z rfl
    have g7 : hc h4 ⟨sn, 7, none⟩ = some (.int .u32 hh) := hs.ld (i := 0) .z rfl
    refine ⟨by decide, by decide, _, g7, by decide, by decide, _, g4, by decide, by decide, _, g4, by decide, by decide, _, g4, by decide, by decide, _, g4, by decide, by decide, _, g5, by decide, by decide, _, g4, by decide, by decide, _, g6, by omega, by omega, _, gk, by omega, by omega, _, gw, ?_⟩
    refine turn2_sp _ 6 rfl (by decide +kernel) (by decide) (by decide) ?_
    refine ⟨hcs_one gw, hcs_one gk, hcs_one g6, hcs_one g4, hcs_one g5, hcs_one g4, hcs_one g4, hcs_one g4, hcs_one g7, ?_⟩
    refine turn2_sp _ 11 rfl (by decide +kernel) (by decide) (by decide) ?_
    refine ⟨hcs_one gw, hcs_one gk, hcs_one g6, hcs_one g4, hcs_one g5, hcs_one g4, hcs_one g4, hcs_one g7, ?_⟩
    refine turn2_sp _ 25 rfl (by decide +kernel) (by decide) (by decide) ?_
    refine ⟨hcs_one gw, hcs_one gk, hcs_one g6, hcs_one g4, hcs_one g5, hcs_one g4, hcs_one g7, ?_⟩
    refine ⟨by decide, by decide, _, g0, by decide, by decide, _, g0, by decide, by decide, _, g0, by decide, by decide, _, g0, by decide, by decide, _, g1, by decide, by decide, _, g0, by decide, by decide, _, g2, by decide, by decide, _, g1, by decide, by decide, _, g2, ?_⟩
    refine turn2_sp _ 2 rfl (by decide +kernel) (by decide) (by decide) ?_
    refine ⟨hcs_one g2, hcs_one g1, hcs_one g2, hcs_one g0, hcs_one g1, hcs_one g0, hcs_one g0, hcs_one g0, ?_⟩
    refine turn2_sp _ 13 rfl (by decide +kernel) (by decide) (by decide) ?_
    refine ⟨hcs_one g2, hcs_one g1, hcs_one g2, hcs_one g0, hcs_one g1, hcs_one g0, hcs_one g0, ?_⟩
    refine turn2_sp _ 22 rfl (by decide +kernel) (by decide) (by decide) ?_
    refine ⟨hcs_one g2, hcs_one g1, hcs_one g2, hcs_one g0, hcs_one g1, hcs_one g0, ?_⟩
    refine ⟨by decide, by decide, _, g0, by decide, by decide, _, g1, by decide, by decide, _, g2, by decide, by decide, _, g3, by decide, by decide, _, g4, by decide, by decide, _, g5, by decide, by decide, _, g6, ?_⟩
    refine ⟨Sat.can hs (i := 0) .z (by simp), ?_⟩
    intro h5 e5
    replace hs := Sat.wra hs (i := 0) .z e5 rfl
    clear e5
    simp only [put_zero] at hs
    rw [wrap_succ (by omega)]
    refine hk _ ?_
    show Sat h0 (blk sn (ints .u32 (shStepM (rM w s t) _ _)) :: blk wn (ints .u32 w) :: A) h5
    rw [hr]
    exact hs
   ·intro h4 hs
    apply hJ46
    rw [ltI_eq, if_neg (by decide)]
    clear hJ46 J46
    obtain ⟨r, hr⟩ : ∃ r, r = rM w s 64 := ⟨_, rfl⟩
    have hrl : r.length = 8 := by rw [hr]; exact rM_len _ _ l1 _
    rw [← hr] at hs
    intro J89 hJ89
    refine loop_up 8 (fun x h => Sat h0 (blk sn (ints .u32 r) :: blk wn (ints .u32 w) :: put A i (blk d (dgL (aM s r x) sm n))) h) ?_ ?_ 0 _ (by omega) (by
     have : put A i (blk d (dgL (aM s r 0) sm n)) = A := cd.put_self
     rw [this]; exact hs)
    ·intro x h5 hx hs hk
     apply hJ89
     rw [ltI_eq, if_pos (by simp; omega)]
     have cd2 := cd.put (blk d (dgL (aM s r x) sm n))
     have hal := aM_len s r l1 x
     simp only [Int.toNat_natCast, Nat.mul_one]
     refine ⟨by omega, by omega, _, hs.ld (i := i + 2) (.s (.s cd2)) (dg_s hal hx), by omega, by omega, _, hs.ld (i := 0) .z (intsG (by omega)), by omega, by omega, ?_⟩
     refine ⟨Sat.can hs (i := i + 2) (.s (.s cd2)) (by rw [dg_len hal l2]; omega), ?_⟩
     intro h6 e
     replace hs := Sat.wr hs (i := i + 2) (.s (.s cd2)) e
     clear e
     rw [dg_ps hal hx] at hs
     simp only [put_succ, put_put] at hs
     rw [wrap_succ (by omega)]
     exact hk _ hs
    ·intro h5 hs
     apply hJ89
     rw [ltI_eq, if_neg (by decide)]
     refine k _ ?_
     unfold pieceM
     rw [← hw, ← hr]
     exact hs.drop.drop
end
end Go.Proofs.YteedolonhdbieaaGreatDoor
end
