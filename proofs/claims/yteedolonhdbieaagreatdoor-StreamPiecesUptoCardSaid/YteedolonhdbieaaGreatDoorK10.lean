/- StreamPieces: what is proved and its parts, laid together by a program of ours: Tm2 Au Tm3 Tm4 To1 Tq1 Ch8 Rf3 La2 La5 Fu3 Fu4 Ce4 -/
import Derived.Test.YteedolonhdbieaaGreatDoorK9
set_option autoImplicit false
set_option linter.all false
/- Rings of keys, the program's and the document's. Own work. -/
section
set_option maxRecDepth 100000
set_option linter.unusedVariables false
namespace Go.Proofs.YteedolonhdbieaaGreatDoor
open Go Go.Vc

abbrev Sec := Int × List Int
def badM (seen : List Sec) (s : Sec) : Int :=
 if s.1 < 0 then 2 else if 63 < s.1 then 2 else if s.2.length < 1 then 4 else if 256 < s.2.length then 4 else if (seen.find? (fun x => x.1 == s.1)).isSome = true then 18 else 0
def goM (L : List Sec) : Nat → Option (Int × Int)
 | 0 => none
 | k + 1 => if badM (L.take (L.length - (k + 1))) (L.getD (L.length - (k + 1)) (0, [])) = 0 then goM L k else some (badM (L.take (L.length - (k + 1))) (L.getD (L.length - (k + 1)) (0, [])), ((L.length - (k + 1) : Nat) : Int))
def newM (L : List Sec) : Option (Int × Int) := if 64 < L.length then some (3, 64) else goM L L.length
theorem goM_at (L : List Sec) {t : Nat} (ht : t < L.length) : goM L (L.length - t) = if badM (L.take t) L[t] = 0 then goM L (L.length - (t + 1)) else some (badM (L.take t) L[t], (t : Int)) := by
 obtain ⟨k, hk⟩ : ∃ k, L.length - t = k + 1 := ⟨L.length - t - 1, by omega⟩
 rw [hk]
 show (if badM (L.take (L.length - (k + 1))) (L.getD (L.length - (k + 1)) (0, [])) = 0 then _ else _) = _
 rw [show L.length - (k + 1) = t by omega, show L.length - (t + 1) = k by omega]
 have : L.getD t (0, []) = L[t] := by rw [List.getD_eq_getElem?_getD, List.getElem?_eq_getElem ht]; rfl
 rw [this]
structure SR where
 key : Int
 bytes : List Int
 p : Option Addr
 c : Nat
abbrev SR.kv (x : SR) : Sec := (x.key, x.bytes)
abbrev SR.ent (x : SR) : Value × DV := (.int .i64 x.key, .one (.slice x.p x.bytes.length x.c))
abbrev SR.sl (x : SR) : Ent := slE x.p x.bytes.length x.c 1 (ints .u8 x.bytes)
def secV : List SR → List Value
 | [] => []
 | x :: r => [.int .i64 x.key, .slice x.p x.bytes.length x.c] ++ secV r
theorem secV_app (a b : List SR) : secV (a ++ b) = secV a ++ secV b := by
 induction a with
 | nil => rfl
 | cons x r ih => show [_, _] ++ secV (r ++ b) = [_, _] ++ secV r ++ secV b; rw [ih]; rfl
theorem secV_get (R : List SR) (i : Nat) (hi : i < R.length) : (secV R)[i * 2]? = some (.int .i64 R[i].key) ∧ (secV R)[i * 2 + 1]? = some (.slice R[i].p R[i].bytes.length R[i].c) := by
 induction R generalizing i with
 | nil => simp at hi
 | cons x r ih =>
  cases i with
  | zero => exact ⟨rfl, rfl⟩
  | succ i =>
   have := ih i (by simpa using hi)
   rw [show (i + 1) * 2 = i * 2 + 1 + 1 by omega]
   exact this
def SR.at_ (R : List SR) (key : Int) : Option SR := R.find? (fun x => x.key == key)
theorem at_kv (R : List SR) (key : Int) : (SR.at_ R key).map SR.kv = (R.map SR.kv).find? (fun x => x.1 == key) := by
 unfold SR.at_
 induction R with
 | nil => rfl
 | cons x r ih =>
  rw [List.map_cons, List.find?_cons, List.find?_cons]
  by_cases c : (x.key == key) = true
  ·rw [c]; simp only [c]; rfl
  ·have c' : (x.key == key) = false := by simpa using c
   rw [c']; simp only [c']; exact ih
theorem mlook_at (R : List SR) (key : Int) (z : DV) : mlook (.int .i64 key) z (R.map SR.ent) = match SR.at_ R key with | some x => some (.one (.slice x.p x.bytes.length x.c), true) | none => some (z, false) := by
 unfold SR.at_
 induction R with
 | nil => rfl
 | cons x r ih =>
  rw [List.map_cons, List.find?_cons]
  unfold mlook
  have e : keyEq (.int .i64 key) (SR.ent x).1 = some (key == x.key) := rfl
  rw [e]
  by_cases c : key = x.key
  ·have c1 : (key == x.key) = true := by simpa using c
   have c2 : (x.key == key) = true := by simpa using c.symm
   rw [c1, c2]
  ·have c1 : (key == x.key) = false := by simpa using c
   have c2 : (x.key == key) = false := by simpa using fun y => c y.symm
   rw [c1, c2]
   exact ih
theorem mins_at (R : List SR) (key : Int) (d : DV) (h : SR.at_ R key = none) : mins (.int .i64 key) d (R.map SR.ent) = some (R.map SR.ent ++ [(.int .i64 key, d)]) := by
 unfold SR.at_ at h
 induction R with
 | nil => rfl
 | cons x r ih =>
  rw [List.find?_cons] at h
  rw [List.map_cons]
  unfold mins
  have e : keyEq (.int .i64 key) (SR.ent x).1 = some (key == x.key) := rfl
  rw [e]
  by_cases c : key = x.key
  ·have c2 : (x.key == key) = true := by simpa using c.symm
   rw [c2] at h; cases h
  ·have c1 : (key == x.key) = false := by simpa using c
   have c2 : (x.key == key) = false := by simpa using fun y => c y.symm
   rw [c2] at h
   rw [c1]
   dsimp only
   rw [ih h]
   rfl
def SecsAt (h : H) (p : Option Addr) (l : Nat) (X : List SR) : Prop := l = X.length ∧ ∀ i (hi : i < X.length), ∃ q, p = some q ∧ hc h (q.add (i * 2)) = some (.int .i64 X[i].key) ∧ hc h ((q.add (i * 2)).add 1) = some (.slice X[i].p X[i].bytes.length X[i].c) ∧ hsv h X[i].p 1 X[i].bytes.length (ints .u8 X[i].bytes) ∧ isBy X[i].bytes ∧ X[i].bytes.length < 2 ^ 47
theorem SecsAt.ext {h0 h : H} {A : List Ent} (hs : Sat h0 A h) {p : Option Addr} {l : Nat} {X : List SR} (s : SecsAt h0 p l X) : SecsAt h p l X := by
 refine ⟨s.1, fun i hi => ?_⟩
 obtain ⟨q, h1, h2, h3, h4, h5, h6⟩ := s.2 i hi
 exact ⟨q, h1, hc_ext hs.ex h2 (fun y => y), hc_ext hs.ex h3 (fun y => y), hs.base h4, h5, h6⟩
theorem takeSec {L : List Sec} {t : Nat} (h : t < L.length) : L.take (t + 1) = L.take t ++ [L[t]] := by rw [List.take_succ, List.getElem?_eq_getElem h]; rfl
abbrev ringP (r m : Nat) (R : List SR) : List Ent := blk r [.map (some m)] :: mapE m (R.map SR.ent) :: R.map SR.sl
abbrev ringD (r : Nat) (lp : Option Addr) (lc : Nat) (R : List SR) : List Ent := blk r [.slice lp R.length lc] :: slE lp R.length lc 2 (secV R) :: R.map SR.sl
def SR.good (R : List SR) : Prop := ∀ x, x ∈ R → x.bytes.length ≤ 256 ∧ x.bytes.length ≤ x.c ∧ isBy x.bytes
section
variable {h0 h : H} {A : List Ent} {i j d r m : Nat}
theorem hasN_sp {Q : Bool → H → Prop} (key : Int) {R : List SR} (hs : Sat h0 A h) (cr : At A i (blk r [.map (some m)])) (cm : At A j (mapE m (R.map SR.ent))) (q : Q (SR.at_ R key).isSome h) : F_keys_Ring_Has ⟨r, 0, none⟩ key Q h := by
 cases e : SR.at_ R key with
 | none => exact has_sp key hs cr cm (b := false) (op := none) (ol := 0) (oc := 0) (by rw [mlook_at, e]) (by rw [e] at q; exact q)
 | some x => exact has_sp key hs cr cm (b := true) (op := x.p) (ol := x.bytes.length) (oc := x.c) (by rw [mlook_at, e]) (by rw [e] at q; exact q)
theorem keysN_sp {Q : Option Addr → Int → Int → H → Prop} {X : List SR} {L : List Sec} {p : Option Addr} {l c : Nat} (hs : Sat h0 A h) (eL : X.map SR.kv = L) (rd : ∀ h', Sat h0 A h' → SecsAt h' p l X) (hl : l < 2 ^ 47)
  (kE : ∀ e i h', newM L = some (e, i) → Sat h0 A h' → Q none e i h')
  (kT : newM L = none → ∀ r m R h', R.map SR.kv = L → SR.good R → Sat h0 (ringP r m R ++ A) h' → Q (some ⟨r, 0, none⟩) 0 0 h') : F_keys_New p l c Q h := by
 unfold F_keys_New G_keys_New
 try simp only [add_mk, Nat.zero_add]
 have hL : l = L.length := by rw [← eL, List.length_map]; exact (rd _ hs).1
 rw [ltI_eq]
 by_cases g : 64 < l
 ·rw [if_pos (by rw [decide_eq_true_iff]; omega)]
  exact kE _ _ _ (by unfold newM; rw [if_pos (by omega)]) hs
 rw [if_neg (by rw [decide_eq_true_iff]; omega)]
 have hn : newM L = goM L L.length := by unfold newM; rw [if_neg (by omega)]
 rw [hn] at kT
 replace kE : ∀ e i h', goM L L.length = some (e, i) → Sat h0 A h' → Q none e i h' := fun e i h' x => kE e i h' (hn.trans x)
 intro m _ hn; replace hs := hs.mapNew hn; clear hn
 intro r _ hn; replace hs := Sat.new hs hn; clear hn
 intro J13 hJ13
 refine loopN L.length (fun t (_ : List SR) => [si t]) (fun t R h => goM L L.length = goM L (L.length - t) ∧ R.map SR.kv = L.take t ∧ SR.good R ∧ Sat h0 (ringP r m R ++ A) h) ?_ ?_ 0 [] _ (by omega) ⟨rfl, rfl, (show SR.good [] from fun x hx => by cases hx), hs⟩
 ·rintro t R h1 ht ⟨hg, hR, hgd, hs⟩ hk
  apply hJ13
  rw [ltI_eq, if_pos (by rw [decide_eq_true_iff]; omega)]
  have rd' : ∀ {B : List Ent} {h' : H}, Sat h0 (B ++ (ringP r m R ++ A)) h' → Sat h0 A h' := fun {B h'} hs' => by
   refine hs'.sub ?_
   exact (List.sublist_append_right _ _).trans (List.sublist_append_right _ _)
  have htX : t < X.length := by rw [← eL, List.length_map] at ht; exact ht
  obtain ⟨q, hq, g0, g1, _, hby, hbl⟩ := (rd _ (rd' (B := []) hs)).2 t htX
  have rdb : ∀ {B : List Ent} {h' : H}, Sat h0 (B ++ (ringP r m R ++ A)) h' → hsv h' X[t].p 1 X[t].bytes.length (ints .u8 X[t].bytes) := fun {B h'} hs' => by
   obtain ⟨_, _, _, _, y, _⟩ := (rd _ (rd' (B := B) hs')).2 t htX
   exact y
  rw [goM_at L ht] at hg
  have hkv : L[t] = (X[t].key, X[t].bytes) := by subst eL; simp
  obtain ⟨key, hkey⟩ : ∃ key, key = X[t].key := ⟨_, rfl⟩
  obtain ⟨bs, hbs⟩ : ∃ bs, bs = X[t].bytes := ⟨_, rfl⟩
  obtain ⟨bp, hbp⟩ : ∃ bp, bp = X[t].p := ⟨_, rfl⟩
  obtain ⟨bc, hbc⟩ : ∃ bc, bc = X[t].c := ⟨_, rfl⟩
  rw [← hkey, ← hbs] at hkv
  rw [← hkey] at g0
  rw [← hbp, ← hbs, ← hbc] at g1
  rw [← hbs] at hby hbl
  have rdb' : ∀ {B : List Ent} {h' : H}, Sat h0 (B ++ (ringP r m R ++ A)) h' → hsv h' bp 1 bs.length (ints .u8 bs) := fun {B h'} hs' => by
   rw [hbp, hbs]; exact rdb (B := B) hs'
  obtain ⟨bl, hbsl⟩ : ∃ bl, bs.length = bl := ⟨_, rfl⟩
  rw [hbsl] at g1 hbl
  rw [hkv] at hg
  refine ⟨q, hq, by omega, by omega, ?_⟩
  simp only [Int.toNat_natCast]
  refine ⟨_, g0, _, _, _, g1, ?_⟩
  intro b _ hn; replace hs := Sat.new hs hn; clear hn
  refine ⟨Sat.can hs (i := 0) .z (by simp), ?_⟩
  intro h2 e
  replace hs := Sat.wra hs (i := 0) .z e rfl
  clear e
  simp only [put_zero] at hs
  have bad : ∀ e, e ≠ 0 → badM (L.take t) (key, bs) = e → ∀ h', Sat h0 A h' → Q none e t h' := by
   intro e he hb h' hs'
   rw [hb, if_neg he] at hg
   exact kE e t h' hg hs'
  intro J26 hJ26
  have no : badM (L.take t) (key, bs) = 2 → J26 [.dv (.one (.bool true))] h2 := by
   intro hb
   apply hJ26
   rw [if_pos rfl]
   exact bad 2 (by decide) hb _ (rd' (B := [_]) hs)
  have way : 0 ≤ key → key < 64 → J26 [.dv (.one (.bool false))] h2 := by
   intro k0 k1
   apply hJ26
   clear hJ26 no
   rw [if_neg (by decide)]
   have bm : badM (L.take t) (key, bs) = if bs.length < 1 then 4 else if 256 < bs.length then 4 else if ((L.take t).find? (fun x => x.1 == key)).isSome = true then 18 else 0 := by
    unfold badM
    dsimp only
    rw [if_neg (by omega), if_neg (by omega)]
   rw [bm] at hg bad
   refine ⟨_, _, _, hs.ld (i := 0) .z rfl, ?_⟩
   rw [ltI_eq]
   by_cases b1 : bl < 1
   ·rw [if_pos (by rw [decide_eq_true_iff]; omega)]
    exact bad 4 (by decide) (by rw [if_pos (by omega)]) _ (rd' (B := [_]) hs)
   rw [if_neg (by rw [decide_eq_true_iff]; omega)]
   rw [if_neg (show ¬ bs.length < 1 by omega)] at hg bad
   refine ⟨_, _, _, hs.ld (i := 0) .z rfl, ?_⟩
   rw [ltI_eq]
   by_cases b2 : 256 < bl
   ·rw [if_pos (by rw [decide_eq_true_iff]; omega)]
    exact bad 4 (by decide) (by rw [if_pos (by omega)]) _ (rd' (B := [_]) hs)
   rw [if_neg (by rw [decide_eq_true_iff]; omega)]
   rw [if_neg (show ¬ 256 < bs.length by omega)] at hg bad
   refine ⟨_, hs.ld (i := 0) .z rfl, ?_⟩
   refine hasN_sp key hs (i := 1) (j := 2) (.s .z) (.s (.s .z)) ?_
   have ekv : (SR.at_ R key).isSome = ((L.take t).find? (fun x => x.1 == key)).isSome := by rw [← hR, ← at_kv]; simp
   rw [ekv]
   by_cases b3 : ((L.take t).find? (fun x => x.1 == key)).isSome = true
   ·rw [if_pos b3]
    exact bad 18 (by decide) (by rw [if_pos b3]) _ (rd' (B := [_]) hs)
   rw [if_neg b3]
   rw [if_neg b3, if_pos rfl] at hg
   clear bad
   have hnone : SR.at_ R key = none := by
    rw [← ekv] at b3
    cases e : SR.at_ R key with
    | none => rfl
    | some x => rw [e] at b3; exact absurd rfl b3
   refine ⟨_, hs.ld (i := 1) (.s .z) rfl, _, hs.ld (i := 0) .z rfl, _, _, _, hs.ld (i := 0) .z rfl, ?_⟩
   refine clone1_sp (vs := ints .u8 bs) hs (by omega) (fun h' hs' => ?_) ?_
   ·rw [← hbsl]; exact rdb' (B := [_]) hs'
   intro p' c' h3 _ hs
   refine ⟨hcs_one (hs.ld (i := 1) (.s .z) rfl), hcs_one (hs.ld (i := 2) (.s (.s .z)) rfl), _, _, _, rfl, hs.mapAt (i := 3) (.s (.s (.s .z))), mins_at R key _ hnone, ?_⟩
   intro h4 e
   replace hs := hs.mapSet (i := 3) (.s (.s (.s .z))) e
   clear e
   simp only [put_succ, put_zero] at hs
   rw [wrap_succ (by omega)]
   have hc' := capS hs (i := 0) .z
   refine hk (R ++ [⟨key, bs, p', c'⟩]) h4 ⟨hg, ?_, ?_, ?_⟩
   ·rw [List.map_append, hR, takeSec ht, hkv]; rfl
   ·intro x hx
    rcases List.mem_append.1 hx with hx | hx
    ·exact hgd x hx
    ·simp only [List.mem_cons, List.not_mem_nil, or_false] at hx
     subst hx
     exact ⟨by dsimp only; omega, by dsimp only; omega, hby⟩
   ·rw [← hbsl] at hs
    have e1 : (R ++ [(⟨key, bs, p', c'⟩ : SR)]).map SR.ent = R.map SR.ent ++ [(.int .i64 key, .one (.slice p' bs.length c'))] := by rw [List.map_append]; rfl
    have e2 : (R ++ [(⟨key, bs, p', c'⟩ : SR)]).map SR.sl = R.map SR.sl ++ [slE p' bs.length c' 1 (ints .u8 bs)] := by rw [List.map_append]; rfl
    unfold ringP
    rw [e1, e2]
    refine Sat.perm (hs.sub (B := slE p' bs.length c' 1 (ints .u8 bs) :: blk r [.map (some m)] :: mapE m (R.map SR.ent ++ [(.int .i64 key, .one (.slice p' bs.length c'))]) :: (R.map SR.sl ++ A)) (by (repeat (first | exact List.Sublist.refl _ | apply List.Sublist.cons_cons | apply List.Sublist.cons)))) ?_
    simp only [List.cons_append, List.append_assoc, List.nil_append]
    refine (List.Perm.swap _ _ _).trans (List.Perm.cons _ ?_)
    refine (List.Perm.swap _ _ _).trans (List.Perm.cons _ ?_)
    exact List.perm_middle.symm
  refine ⟨_, hs.ld (i := 0) .z rfl, ?_⟩
  rw [ltI_eq]
  by_cases k0 : key < 0
  ·rw [if_pos (by rw [decide_eq_true_iff]; omega)]
   exact no (by unfold badM; dsimp only; rw [if_pos k0])
  rw [if_neg (by rw [decide_eq_true_iff]; omega)]
  refine ⟨_, hs.ld (i := 0) .z rfl, ?_⟩
  rw [leI_eq]
  by_cases k1 : 63 < key
  ·rw [decide_eq_true (by omega)]
   exact no (by unfold badM; dsimp only; rw [if_neg k0, if_pos k1])
  ·rw [decide_eq_false (by omega)]
   exact way (by omega) (by omega)
 ·rintro R h1 ⟨hg, hR, hgd, hs⟩
  apply hJ13
  rw [ltI_eq, if_neg (by rw [decide_eq_true_iff]; omega)]
  rw [List.take_of_length_le (Nat.le_refl _)] at hR
  rw [Nat.sub_self] at hg
  exact kT hg r m R h1 hR hgd hs
theorem find_sp {Q : Int → H → Prop} (key : Int) {lp : Option Addr} {lc : Nat} {R : List SR} (hs : Sat h0 A h) (cr : At A i (blk r [.slice lp R.length lc])) (cl : At A j (slE lp R.length lc 2 (secV R))) (hR : R.length < 2 ^ 40)
  (k : ∀ n : Int, (SR.at_ R key = none ∧ n = -1) ∨ (∃ t, ∃ ht : t < R.length, n = (t : Int) ∧ SR.at_ R key = some R[t]) → Q n h) : F_portcullisref12_Ring_find ⟨r, 0, none⟩ key Q h := by
 unfold F_portcullisref12_Ring_find G_portcullisref12_Ring_find
 intro J hJ
 refine loop_up R.length (fun t h' => SR.at_ R key = SR.at_ (R.drop t) key ∧ h' = h) ?_ ?_ 0 _ (by omega) ⟨rfl, rfl⟩
 ·rintro t h1 ht ⟨hf, rfl⟩ hk
  apply hJ
  refine ⟨_, _, _, hs.ld cr rfl, ?_⟩
  rw [ltI_eq, if_pos (by rw [decide_eq_true_iff]; omega)]
  obtain ⟨q, hq, g⟩ := hsv_get (hs.sv cl) (secV_get R t ht).1
  refine ⟨_, _, _, hs.ld cr rfl, q, hq, by omega, by omega, ?_⟩
  simp only [Int.toNat_natCast]
  refine ⟨_, g, ?_⟩
  rw [List.drop_eq_getElem_cons ht] at hf
  unfold SR.at_ at hf
  rw [List.find?_cons] at hf
  by_cases c : R[t].key = key
  ·have c2 : (R[t].key == key) = true := by simpa using c
   rw [c2] at hf
   rw [if_pos c2]
   exact k _ (Or.inr ⟨t, ht, rfl, hf⟩)
  ·have c2 : (R[t].key == key) = false := by simpa using c
   rw [c2] at hf
   rw [if_neg (by rw [c2]; decide), wrap_succ (by omega)]
   exact hk _ ⟨hf, rfl⟩
 ·rintro h1 ⟨hf, rfl⟩
  apply hJ
  refine ⟨_, _, _, hs.ld cr rfl, ?_⟩
  rw [ltI_eq, if_neg (by simp)]
  rw [List.drop_of_length_le (Nat.le_refl _)] at hf
  exact k _ (Or.inl ⟨hf, rfl⟩)
theorem rhas_sp {Q : Bool → H → Prop} (key : Int) {lp : Option Addr} {lc : Nat} {R : List SR} (hs : Sat h0 A h) (cr : At A i (blk r [.slice lp R.length lc])) (cl : At A j (slE lp R.length lc 2 (secV R))) (hR : R.length < 2 ^ 40) (q : Q (SR.at_ R key).isSome h) : F_portcullisref12_Ring_Has ⟨r, 0, none⟩ key Q h := by
 unfold F_portcullisref12_Ring_Has G_portcullisref12_Ring_Has
 refine find_sp key hs cr cl hR ?_
 intro n hn
 rw [leI_eq]
 rcases hn with ⟨e, rfl⟩ | ⟨t, ht, rfl, e⟩
 ·rw [e] at q; exact q
 ·rw [e] at q
  rw [decide_eq_true (by omega)]
  exact q
theorem ringsN_sp {Q : Option Addr → Int → Int → H → Prop} {X : List SR} {L : List Sec} {p : Option Addr} {l c : Nat} (hs : Sat h0 A h) (eL : X.map SR.kv = L) (rd : ∀ h', Sat h0 A h' → SecsAt h' p l X) (hl : l < 2 ^ 47)
  (kE : ∀ e i h', newM L = some (e, i) → Sat h0 A h' → Q none e i h')
  (kT : newM L = none → ∀ r lp lc R h', R.map SR.kv = L → SR.good R → Sat h0 (ringD r lp lc R ++ A) h' → Q (some ⟨r, 0, none⟩) 0 0 h') : F_portcullisref12_New p l c Q h := by
 unfold F_portcullisref12_New G_portcullisref12_New
 have hL : l = L.length := by rw [← eL, List.length_map]; exact (rd _ hs).1
 rw [ltI_eq]
 by_cases g : 64 < l
 ·rw [if_pos (by rw [decide_eq_true_iff]; omega)]
  exact kE _ _ _ (by unfold newM; rw [if_pos (by omega)]) hs
 rw [if_neg (by rw [decide_eq_true_iff]; omega)]
 have hn : newM L = goM L L.length := by unfold newM; rw [if_neg (by omega)]
 rw [hn] at kT
 replace kE : ∀ e i h', goM L L.length = some (e, i) → Sat h0 A h' → Q none e i h' := fun e i h' x => kE e i h' (hn.trans x)
 intro r _ hn; replace hs := Sat.new hs hn; clear hn
 intro J9 hJ9
 refine loopN L.length (fun t (_ : List SR × Option Addr × Nat) => [si t]) (fun t s h => goM L L.length = goM L (L.length - t) ∧ s.1.map SR.kv = L.take t ∧ SR.good s.1 ∧ Sat h0 (ringD r s.2.1 s.2.2 s.1 ++ A) h) ?_ ?_ 0 ([], none, 0) _ (by omega) ⟨rfl, rfl, (show SR.good [] from fun x hx => by cases hx), ?_⟩
 ·rintro t ⟨R, lp, lc⟩ h1 ht ⟨hg, hR, hgd, hs⟩ hk
  dsimp only at hg hR hgd hs hk ⊢
  apply hJ9
  rw [ltI_eq, if_pos (by rw [decide_eq_true_iff]; omega)]
  have hRl : R.length = t := by
   have := congrArg List.length hR
   rw [List.length_map, List.length_take] at this; omega
  have rd' : ∀ {B : List Ent} {h' : H}, Sat h0 (B ++ (ringD r lp lc R ++ A)) h' → Sat h0 A h' := fun {B h'} hs' => by
   refine hs'.sub ?_
   exact (List.sublist_append_right _ _).trans (List.sublist_append_right _ _)
  have htX : t < X.length := by rw [← eL, List.length_map] at ht; exact ht
  obtain ⟨q, hq, g0, g1, _, hby, hbl⟩ := (rd _ (rd' (B := []) hs)).2 t htX
  rw [goM_at L ht] at hg
  have hkv : L[t] = (X[t].key, X[t].bytes) := by subst eL; simp
  obtain ⟨Y, hY⟩ : ∃ Y, Y = X[t] := ⟨_, rfl⟩
  have rdY : ∀ {B : List Ent} {h' : H}, Sat h0 (B ++ (ringD r lp lc R ++ A)) h' → hc h' (q.add (t * 2)) = some (.int .i64 Y.key) ∧ hc h' ((q.add (t * 2)).add 1) = some (.slice Y.p Y.bytes.length Y.c) ∧ hsv h' Y.p 1 Y.bytes.length (ints .u8 Y.bytes) := fun {B h'} hs' => by
   obtain ⟨q', hq', y0, y1, y2, _, _⟩ := (rd _ (rd' (B := B) hs')).2 t htX
   rw [hq] at hq'
   injection hq' with hq'
   subst hq'
   rw [hY]
   exact ⟨y0, y1, y2⟩
  rw [← hY] at hkv hby hbl
  clear g0 g1
  obtain ⟨g0, g1, _⟩ := rdY (B := []) hs
  rw [hkv] at hg
  have bad : ∀ e, e ≠ 0 → badM (L.take t) (Y.key, Y.bytes) = e → Q none e t h1 := by
   intro e he hb
   rw [hb, if_neg he] at hg
   exact kE e t h1 hg (rd' (B := []) hs)
  simp only [Int.toNat_natCast]
  intro J12 hJ12
  have way : 0 ≤ Y.key → Y.key < 64 → J12 [] h1 := by
   intro k0 k1
   apply hJ12
   clear hJ12
   have bm : badM (L.take t) (Y.key, Y.bytes) = if Y.bytes.length < 1 then 4 else if 256 < Y.bytes.length then 4 else if ((L.take t).find? (fun x => x.1 == Y.key)).isSome = true then 18 else 0 := by
    unfold badM
    dsimp only
    rw [if_neg (by omega), if_neg (by omega)]
   rw [bm] at hg bad
   intro J14 hJ14
   refine ⟨q, hq, by omega, by omega, _, _, _, g1, ?_⟩
   rw [ltI_eq]
   by_cases b1 : Y.bytes.length < 1
   ·rw [if_pos (by rw [decide_eq_true_iff]; omega)]
    exact bad 4 (by decide) (by rw [if_pos (by omega)])
   rw [if_neg (by rw [decide_eq_true_iff]; omega)]
   rw [if_neg (show ¬ Y.bytes.length < 1 by omega)] at hg bad
   refine ⟨q, hq, by omega, by omega, _, _, _, g1, ?_⟩
   rw [ltI_eq]
   by_cases b2 : 256 < Y.bytes.length
   ·rw [if_pos (by rw [decide_eq_true_iff]; omega)]
    exact bad 4 (by decide) (by rw [if_pos (by omega)])
   rw [if_neg (by rw [decide_eq_true_iff]; omega)]
   rw [if_neg (show ¬ 256 < Y.bytes.length by omega)] at hg bad
   apply hJ14
   clear hJ14
   refine ⟨q, hq, by omega, by omega, _, g0, ?_⟩
   refine rhas_sp Y.key hs (i := 0) (j := 1) .z (.s .z) (by omega) ?_
   have ekv : (SR.at_ R Y.key).isSome = ((L.take t).find? (fun x => x.1 == Y.key)).isSome := by rw [← hR, ← at_kv]; simp
   rw [ekv]
   by_cases b3 : ((L.take t).find? (fun x => x.1 == Y.key)).isSome = true
   ·rw [if_pos b3]
    exact bad 18 (by decide) (by rw [if_pos b3])
   rw [if_neg b3]
   rw [if_neg b3, if_pos rfl] at hg
   clear bad
   intro eb _ hn; replace hs := Sat.new hs hn; clear hn
   obtain ⟨g0, g1, gb⟩ := rdY (B := [_]) hs
   refine ⟨_, _, _, hs.ld (i := 1) (.s .z) rfl, q, hq, by omega, by omega, _, g0, q, hq, by omega, by omega, _, _, _, g1, _, gb, ?_⟩
   refine Sat.app_new hs (by simp) rfl (ints_one _ _) (by omega) ?_
   intro p' c' h3 hs
   have hc' := capS hs (i := 0) .z
   obtain ⟨g0, g1, gb⟩ := rdY (B := [_, _]) hs
   refine ⟨hcs_one g0, hcs_one (hs.ld (i := 2) (.s (.s .z)) rfl), ?_⟩
   intro nb _ hn; replace hs := Sat.new hs hn; clear hn
   have one2 : ∀ v, v ∈ [Value.int .i64 Y.key, .slice p' Y.bytes.length c'] → v.oneCell' = true := by
    intro v hv
    simp only [List.mem_cons, List.not_mem_nil, or_false] at hv
    rcases hv with rfl | rfl <;> rfl
   refine ⟨hcs_one (hs.ld (i := 3) (.s (.s (.s .z))) rfl), _, hs.bv (i := 0) (l := 1) (sz := 2) .z rfl one2, ?_⟩
   refine Sat.app hs (i := 4) (vs := [Value.int .i64 Y.key, .slice p' Y.bytes.length c']) (.s (.s (.s (.s .z)))) rfl rfl one2 (by omega) ?_
   intro lp2 lc2 h4 hs
   simp only [put_succ, put_zero] at hs
   refine ⟨Sat.can hs (i := 3) (.s (.s (.s .z))) (by simp), ?_⟩
   intro h5 e
   replace hs := Sat.wra (xs := [.slice lp2 (R.length + 1) lc2]) hs (i := 3) (.s (.s (.s .z))) e rfl
   clear e
   simp only [put_succ, put_zero] at hs
   rw [wrap_succ (by omega)]
   refine hk (R ++ [⟨Y.key, Y.bytes, p', c'⟩], lp2, lc2) h5 ⟨hg, ?_, ?_, ?_⟩
   ·dsimp only
    rw [List.map_append, hR, takeSec ht, hkv]; rfl
   ·intro x hx
    rcases List.mem_append.1 hx with hx | hx
    ·exact hgd x hx
    ·simp only [List.mem_cons, List.not_mem_nil, or_false] at hx
     subst hx
     exact ⟨by dsimp only; omega, by dsimp only; omega, hby⟩
   ·dsimp only
    have e1 : secV (R ++ [(⟨Y.key, Y.bytes, p', c'⟩ : SR)]) = secV R ++ [.int .i64 Y.key, .slice p' Y.bytes.length c'] := by rw [secV_app]; rfl
    have e2 : (R ++ [(⟨Y.key, Y.bytes, p', c'⟩ : SR)]).map SR.sl = R.map SR.sl ++ [slE p' Y.bytes.length c' 1 (ints .u8 Y.bytes)] := by rw [List.map_append]; rfl
    have e3 : (R ++ [(⟨Y.key, Y.bytes, p', c'⟩ : SR)]).length = R.length + 1 := by simp
    unfold ringD
    rw [e1, e2, e3]
    refine Sat.perm (hs.sub (B := slE p' Y.bytes.length c' 1 (ints .u8 Y.bytes) :: blk r [.slice lp2 (R.length + 1) lc2] :: slE lp2 (R.length + 1) lc2 2 (secV R ++ [.int .i64 Y.key, .slice p' Y.bytes.length c']) :: (R.map SR.sl ++ A)) (by (repeat (first | exact List.Sublist.refl _ | apply List.Sublist.cons_cons | apply List.Sublist.cons)))) ?_
    simp only [List.cons_append, List.append_assoc, List.nil_append]
    refine (List.Perm.swap _ _ _).trans (List.Perm.cons _ ?_)
    refine (List.Perm.swap _ _ _).trans (List.Perm.cons _ ?_)
    exact List.perm_middle.symm
  refine ⟨q, hq, by omega, by omega, _, g0, ?_⟩
  rw [ltI_eq]
  by_cases k0 : Y.key < 0
  ·rw [if_pos (by rw [decide_eq_true_iff]; omega)]
   exact bad 2 (by decide) (by unfold badM; dsimp only; rw [if_pos k0])
  rw [if_neg (by rw [decide_eq_true_iff]; omega)]
  refine ⟨q, hq, by omega, by omega, _, g0, ?_⟩
  rw [ltI_eq]
  by_cases k1 : 63 < Y.key
  ·rw [if_pos (by rw [decide_eq_true_iff]; omega)]
   exact bad 2 (by decide) (by unfold badM; dsimp only; rw [if_neg k0, if_pos k1])
  ·rw [if_neg (by rw [decide_eq_true_iff]; omega)]
   exact way (by omega) (by omega)
 ·rintro ⟨R, lp, lc⟩ h1 ⟨hg, hR, hgd, hs⟩
  dsimp only at hg hR hgd hs ⊢
  apply hJ9
  rw [ltI_eq, if_neg (by rw [decide_eq_true_iff]; omega)]
  rw [List.take_of_length_le (Nat.le_refl _)] at hR
  rw [Nat.sub_self] at hg
  exact kT hg r lp lc R h1 hR hgd hs
 ·dsimp only
  have := hs.sl_nil 2 none
  exact this.perm (List.Perm.swap _ _ _)
end
end Go.Proofs.YteedolonhdbieaaGreatDoor
end

/- What arguments of the statements are: secrets. Own work. -/
section
set_option maxRecDepth 100000
set_option linter.unusedVariables false
namespace Go.Proofs.YteedolonhdbieaaGreatDoor
open Go Go.Vc Go.ChangeShapes Go.WideShapes Go.ChangeAt Go.RowKit
theorem xSec : xsh PP 8 172 = some [.int .i64, .slc 5] := by kernel_rfl
section
variable {D : Type} {enc : TypeId × Value → D} {W : World}
theorem secsC_of {p : Option Addr} {l c : Nat} (h : Sli enc PP W 172 p l c) : ∃ X : List SR, SecsAt W.heap p l X ∧ l < 2 ^ 47 ∧ ∀ i (hi : i < X.length), X[i].bytes.length ≤ X[i].c := by
 have hb : Tryz.prog.bytesOf 172 = 32 := by kernel_rfl
 have hc : Tryz.prog.cellsOf 172 = 2 := by kernel_rfl
 obtain ⟨ess, h1, h2, _, h4⟩ := h.els xSec
 have hlc := h.1
 have hr := h.2.1
 rw [hb] at hr
 unfold reachBytes at hr
 have key : ∀ ess : List (List Value), (∀ es, es ∈ ess → es.length = Tryz.prog.cellsOf 172 ∧ XM enc PP W [.int .i64, .slc 5] es) → ∃ X : List SR, X.length = ess.length ∧ ∀ i (hi : i < X.length) (hi2 : i < ess.length), ess[i] = [.int .i64 X[i].key, .slice X[i].p X[i].bytes.length X[i].c] ∧ hsv W.heap X[i].p 1 X[i].bytes.length (ints .u8 X[i].bytes) ∧ isBytes X[i].bytes ∧ X[i].bytes.length < 2 ^ 47 ∧ X[i].bytes.length ≤ X[i].c := by
  intro ess
  induction ess with
  | nil => intro _; exact ⟨[], rfl, fun i hi => by simp at hi⟩
  | cons x r ih =>
   intro h
   obtain ⟨X, e1, e2⟩ := ih fun es hes => h es (by simp [hes])
   obtain ⟨k, _, rfl, _, xp, xl, xc, _, rfl, hh, hr⟩ := (h x (by simp)).2
   simp only [XM] at hr
   subst hr
   obtain ⟨bs, b1, b2, b3, b4⟩ := bytes24_of hh
   have hbl : bs.length = xl := by have := b1.1; simpa using this
   refine ⟨⟨k, bs, xp, xc⟩ :: X, by simp [e1], ?_⟩
   intro i hi hi2
   cases i with
   | zero => subst hbl; exact ⟨rfl, b1, b2, by dsimp only [List.getElem_cons_zero]; omega, b3⟩
   | succ i => exact e2 i (by simpa using hi) (by simpa using hi2)
 obtain ⟨X, e1, e2⟩ := key ess h2
 refine ⟨X, ⟨by omega, fun i hi => ?_⟩, by omega, fun i hi => (e2 i hi (by omega)).2.2.2.2⟩
 obtain ⟨e3, e4, e5, e6, _⟩ := e2 i hi (by omega)
 obtain ⟨q, hq, g⟩ := h4 i (by omega)
 rw [e3, hc] at g
 have g0 := g 0 _ rfl
 rw [add_zero] at g0
 exact ⟨q, hq, g0, g 1 _ rfl, e4, e5, e6⟩
theorem secs_of {p : Option Addr} {l c : Nat} (h : Sli enc PP W 172 p l c) : ∃ X : List SR, SecsAt W.heap p l X ∧ l < 2 ^ 47 := by
 obtain ⟨X, a, b, _⟩ := secsC_of h
 exact ⟨X, a, b⟩
end
end Go.Proofs.YteedolonhdbieaaGreatDoor
end

/- Issue, of the program and the document. Own work. -/
section
set_option maxRecDepth 100000
set_option linter.unusedVariables false
namespace Go.Proofs.YteedolonhdbieaaGreatDoor
open Go Go.Vc

structure TkE where
 e : Int
 key : Int
 id : List Int
 tag : List Int
section
variable {h0 h : H} {A : List Ent} {i j d r m : Nat}
end
end Go.Proofs.YteedolonhdbieaaGreatDoor
end

/- TokenMakes: walked. Own work. -/
section
set_option maxRecDepth 100000
set_option linter.unusedVariables false
namespace Go.Proofs.YteedolonhdbieaaGreatDoor
open Go Go.Vc

structure NkE where
 e : Int
 key : Int
 id : List Int
 cs : List CvM
 tag : List Int
section
variable {h0 h : H} {A : List Ent} {i j d r m : Nat}
theorem keysU_sp {Q : Option Addr → Int → Int → H → Prop} {X : List SR} {L : List Sec} {p : Option Addr} {l c : Nat} (hs : Sat h0 A h) (eL : X.map SR.kv = L) (rd : ∀ h', Sat h0 A h' → SecsAt h' p l X) (hl : l < 2 ^ 47)
  (k : ∀ o e i h' B, Sat h0 (B ++ A) h' → (newM L = some (e, i) ∧ o = none) ∨ (newM L = none ∧ e = 0 ∧ ∃ r m R, o = some ⟨r, 0, none⟩ ∧ R.map SR.kv = L ∧ SR.good R ∧ B = ringP r m R) → Q o e i h') : F_keys_New p l c Q h :=
 keysN_sp hs eL rd hl (fun e i h' he hs => k none e i h' [] hs (Or.inl ⟨he, rfl⟩)) (fun hn r m R h' e1 e2 hs => k _ 0 0 h' _ hs (Or.inr ⟨hn, rfl, r, m, R, rfl, e1, e2, rfl⟩))
theorem ringsU_sp {Q : Option Addr → Int → Int → H → Prop} {X : List SR} {L : List Sec} {p : Option Addr} {l c : Nat} (hs : Sat h0 A h) (eL : X.map SR.kv = L) (rd : ∀ h', Sat h0 A h' → SecsAt h' p l X) (hl : l < 2 ^ 47)
  (k : ∀ o e i h' B, Sat h0 (B ++ A) h' → (newM L = some (e, i) ∧ o = none) ∨ (newM L = none ∧ e = 0 ∧ ∃ r lp lc R, o = some ⟨r, 0, none⟩ ∧ R.map SR.kv = L ∧ SR.good R ∧ B = ringD r lp lc R) → Q o e i h') : F_portcullisref12_New p l c Q h :=
 ringsN_sp hs eL rd hl (fun e i h' he hs => k none e i h' [] hs (Or.inl ⟨he, rfl⟩)) (fun hn r lp lc R h' e1 e2 hs => k _ 0 0 h' _ hs (Or.inr ⟨hn, rfl, r, lp, lc, R, rfl, e1, e2, rfl⟩))
end
end Go.Proofs.YteedolonhdbieaaGreatDoor
end

/- Tokens: the document's pairs on the way to a tag. Own work. -/
section
set_option maxRecDepth 100000
set_option linter.unusedVariables false
namespace Go.Proofs.YteedolonhdbieaaGreatDoor
open Go Go.Vc
attribute [local irreducible] macM

structure PrM where
 key : List Int
 b : List Int
 tag : List Int
section
variable {h0 h : H} {A : List Ent} {i j d r m : Nat}
end
end Go.Proofs.YteedolonhdbieaaGreatDoor
end

/- Tokens: tags held against each other; whether a token has its right tag. Own work. -/
section
set_option maxRecDepth 100000
set_option linter.unusedVariables false
namespace Go.Proofs.YteedolonhdbieaaGreatDoor
open Go Go.Vc
attribute [local irreducible] macM

theorem or_xor0 {a x y : Int} (ha : 0 ≤ a ∧ a < 256) (hx : 0 ≤ x ∧ x < 256) (hy : 0 ≤ y ∧ y < 256) : bits .or .u8 a (bits .xor .u8 x y) = 0 ↔ a = 0 ∧ x = y := by
 obtain ⟨a, rfl⟩ := Int.eq_ofNat_of_zero_le ha.1
 obtain ⟨x, rfl⟩ := Int.eq_ofNat_of_zero_le hx.1
 obtain ⟨y, rfl⟩ := Int.eq_ofNat_of_zero_le hy.1
 have e1 : bits .xor .u8 (x : Int) (y : Int) = ((x ^^^ y : Nat) : Int) := by
  have : bits .xor .u8 (x : Int) (y : Int) = IntKind.u8.wrap ((BitVec.ofInt 8 (x : Int) ^^^ BitVec.ofInt 8 (y : Int)).toNat : Int) := rfl
  rw [this, IntKind.wrap_u8]
  simp only [BitVec.toNat_xor, BitVec.toNat_ofInt]
  have ex : ((x : Int) % ((2 ^ 8 : Nat) : Int)).toNat = x := by omega
  have ey : ((y : Int) % ((2 ^ 8 : Nat) : Int)).toNat = y := by omega
  rw [ex, ey]
  have : x ^^^ y < 2 ^ 8 := Nat.xor_lt_two_pow (by omega) (by omega)
  omega
 have hz : x ^^^ y < 2 ^ 8 := Nat.xor_lt_two_pow (by omega) (by omega)
 rw [e1]
 obtain ⟨z, hzz⟩ : ∃ z, z = x ^^^ y := ⟨_, rfl⟩
 rw [← hzz] at hz ⊢
 have e2 : bits .or .u8 (a : Int) (z : Int) = ((a ||| z : Nat) : Int) := by
  have : bits .or .u8 (a : Int) (z : Int) = IntKind.u8.wrap ((BitVec.ofInt 8 (a : Int) ||| BitVec.ofInt 8 (z : Int)).toNat : Int) := rfl
  rw [this, IntKind.wrap_u8]
  simp only [BitVec.toNat_or, BitVec.toNat_ofInt]
  have ex : ((a : Int) % ((2 ^ 8 : Nat) : Int)).toNat = a := by omega
  have ey : ((z : Int) % ((2 ^ 8 : Nat) : Int)).toNat = z := by omega
  rw [ex, ey]
  have : a ||| z < 2 ^ 8 := Nat.or_lt_two_pow (by omega) hz
  omega
 rw [e2]
 have e3 : ((a ||| z : Nat) : Int) = 0 ↔ a = 0 ∧ z = 0 := by
  rw [Int.natCast_eq_zero, Nat.or_eq_zero_iff]
 have e4 : x ^^^ y = 0 ↔ x = y := by
  constructor
  ·intro g
   have : x = (x ^^^ y) ^^^ y := by rw [Nat.xor_assoc, Nat.xor_self, Nat.xor_zero]
   rw [g, Nat.zero_xor] at this
   exact this
  ·rintro rfl; exact Nat.xor_self x
 rw [e3, hzz, e4]
 omega
section
variable {h0 h : H} {A : List Ent} {i j d r m : Nat}
theorem equal_sp {Q : Bool → H → Prop} {px py : Addr} {c c2 : Nat} {x y : List Int} (hx : isBy x) (hy : isBy y) (lx : x.length = 32) (ly : y.length = 32) (rx : hrow h px .u8 x) (ry : hrow h py .u8 y) (k : Q (decide (x = y)) h) : F_mac_Equal (some px) 32 c (some py) 32 c2 Q h := by
 unfold F_mac_Equal G_mac_Equal
 rw [if_neg (by simp)]
 intro J hJ
 refine loopS 32 (fun t (s : Int) => [.dv (.one (.int .u8 s)), si t]) (fun t s h' => h' = h ∧ (0 ≤ s ∧ s < 256) ∧ (s = 0 ↔ x.take t = y.take t)) ?_ ?_ 0 0 _ (by omega) ⟨rfl, by decide, by simp⟩
 ·rintro t s h1 ht ⟨rfl, hs, he⟩ hk
  apply hJ
  rw [ltI_eq, if_pos (by rw [decide_eq_true_iff]; omega)]
  have tx : t < x.length := by omega
  have ty : t < y.length := by omega
  have gx := rx t (.int .u8 x[t]) (by rw [ints_get, List.getElem?_eq_getElem tx]; rfl)
  have gy := ry t (.int .u8 y[t]) (by rw [ints_get, List.getElem?_eq_getElem ty]; rfl)
  refine ⟨px, rfl, by omega, by omega, x[t], by simpa using gx, py, rfl, by omega, by omega, y[t], by simpa using gy, ?_⟩
  have bx := hx x[t] (List.getElem_mem tx)
  have by_ := hy y[t] (List.getElem_mem ty)
  rw [wrap_succ (by omega)]
  refine hk (bits .or .u8 s (bits .xor .u8 x[t] y[t])) _ ⟨rfl, ?_, ?_⟩
  ·have : bits .or .u8 s (bits .xor .u8 x[t] y[t]) = IntKind.u8.wrap ((BitVec.ofInt 8 s ||| BitVec.ofInt 8 (bits .xor .u8 x[t] y[t])).toNat : Int) := rfl
   rw [this, IntKind.wrap_u8]; omega
  ·rw [or_xor0 hs bx by_, he, take_snoc _ tx, take_snoc _ ty]
   constructor
   ·rintro ⟨a, b⟩; rw [a, b]
   ·intro a
    have := List.append_inj a (by simp; omega)
    exact ⟨this.1, by simpa using this.2⟩
 ·rintro s h1 ⟨rfl, hs, he⟩
  apply hJ
  rw [ltI_eq, if_neg (by decide)]
  rw [List.take_of_length_le (by omega), List.take_of_length_le (by omega)] at he
  have : (s == 0) = decide (x = y) := by
   by_cases c : x = y
   ·rw [decide_eq_true c]; simpa using he.2 c
   ·rw [decide_eq_false c]; simpa using fun y => c (he.1 y)
  rw [this]
  exact k
end
end Go.Proofs.YteedolonhdbieaaGreatDoor
end

/- Contract of chip.Lay. Own work. -/
section
set_option linter.unusedVariables false
namespace Go.Proofs.YteedolonhdbieaaGreatDoor
open Go Go.Vc

structure St.lays (c : Cfg) (s : St) : Prop where
 fits : s.fits c
 pos : ∀ n, n ∈ s.erases → 0 ≤ n
section
variable {h0 h : H} {A : List Ent} {i p : Nat} {C : Cm}
end
end Go.Proofs.YteedolonhdbieaaGreatDoor
end

/- Contracts of the document's chip: configs, copies, new ones. Own work. -/
section
set_option linter.unusedVariables false
namespace Go.Proofs.YteedolonhdbieaaGreatDoor
open Go Go.Vc

section
variable {h0 h : H} {A : List Ent} {i p : Nat} {C : Cm}
theorem rwithin_iff (n a b : Int) (Q : Bool → H → Prop) (h : H) : F_portcullisref04_within n a b Q h = Q (decide (a ≤ n) && decide (n ≤ b)) h := by
 unfold F_portcullisref04_within G_portcullisref04_within
 by_cases h1 : a ≤ n <;> simp [h1]
theorem rMay_sp (c : Cfg) {Q : Int → H → Prop} (hs : Sat h0 A h) (k : ∀ h', Sat h0 A h' → Q c.may? h') :
  F_portcullisref04_May c.cells c.slots c.fuses c.step c.keys c.erases c.area Q h := by
 unfold F_portcullisref04_May G_portcullisref04_May
 try simp only [add_mk, Nat.zero_add]
 intro n1 h' hn; replace hs := Sat.new hs hn; clear hn
 replace k := k h' hs.drop
 have kb := hs.blkOf .z
 have hc0 := kb.hc
 intro J hJ
 have w3 : 1 ≤ c.slots ∧ c.slots ≤ 8 → IntKind.i64.wrap (c.slots + 3) = c.slots + 3 := by
  intro h1; rw [IntKind.wrap_i64]; omega
 have fin : ∀ r : Bool, (r = true ↔ (1 ≤ c.slots ∧ c.slots ≤ 8) ∧ (c.slots + 3 ≤ c.cells ∧ c.cells ≤ 256) ∧ (1 ≤ c.fuses ∧ c.fuses ≤ 64) ∧ (1 ≤ c.step ∧ c.step ≤ 65536)) → J [SV.dv (DV.one (Value.bool r))] h' := by
  intro r hr
  apply hJ
  simp only [hc0, rwithin_iff, List.getElem?_cons_succ, List.getElem?_cons_zero, Option.some.injEq, Value.int.injEq, true_and, exists_eq_left', Bool.and_eq_true, decide_eq_true_eq]
  have bad : ¬ c.may → Q 1 h' := fun hm => by unfold Cfg.may? at k; rwa [if_neg hm] at k
  have good : c.may → Q 0 h' := fun hm => by unfold Cfg.may? at k; rwa [if_pos hm] at k
  by_cases h4 : 1 ≤ c.keys ∧ c.keys ≤ 64
  case neg => rw [if_neg h4]; split <;> exact bad fun m => h4 m.keys
  rw [if_pos h4]
  by_cases h5 : 0 ≤ c.erases ∧ c.erases ≤ 65536
  case neg => rw [if_neg h5]; split <;> exact bad fun m => h5 m.erases
  rw [if_pos h5]
  cases r with
  | false =>
   have := mt hr.2 (by simp)
   simp only [Bool.not_false, if_true]
   exact bad fun m => this ⟨m.slots, m.cells, m.fuses, m.step⟩
  | true =>
   obtain ⟨a1, a2, a3, a4⟩ := hr.1 rfl
   rw [if_neg (by simp)]
   by_cases h6 : 0 ≤ c.area ∧ c.area ≤ 64
   ·rw [if_neg (by simp; omega)]; exact good ⟨a1, a2, a3, a4, h4, h5, h6⟩
   ·rw [if_pos (by simp; omega)]; exact bad fun m => h6 m.area
 simp only [hc0, rwithin_iff, List.getElem?_cons_succ, List.getElem?_cons_zero, Option.some.injEq, Value.int.injEq, true_and, exists_eq_left', Bool.and_eq_true, decide_eq_true_eq]
 split
 case isFalse h1 => exact fin false (by simp; intro a b; exact absurd ⟨a, b⟩ h1)
 rename_i h1
 rw [w3 h1]
 split
 case isFalse h2 => exact fin false (by simp; intro _ _ a b; exact absurd ⟨a, b⟩ h2)
 rename_i h2
 split
 case isFalse h3 => exact fin false (by simp; intro _ _ _ _ a b; exact absurd ⟨a, b⟩ h3)
 rename_i h3
 refine fin _ ?_
 simp only [Bool.and_eq_true, decide_eq_true_eq]
 exact ⟨fun h4 => ⟨h1, h2, h3, h4⟩, fun m => m.2.2.2⟩

theorem rBlank_sp {Q : List Int → H → Prop} (hs : Sat h0 A h) (k : ∀ h', Sat h0 A h' → Q blankCell h') : F_portcullisref04_Blank Q h := by
 unfold F_portcullisref04_Blank G_portcullisref04_Blank
 try simp only [add_mk, Nat.zero_add, List.append_nil]
 (intro _ _ hn; replace hs := Sat.new hs hn; clear hn)
 (intro _ _ hn; replace hs := Sat.new hs hn; clear hn)
 (refine ⟨Sat.can hs (by (repeat (first | exact At.z | apply At.s))) (by simp), ?_⟩; intro _ e; replace hs := Sat.wra hs (by (repeat (first | exact At.z | apply At.s))) e (by simp [*]); clear e; simp only [put] at hs)
 intro J hJ
 refine loop_up 32 (fun i h => Sat h0 (blk _ (ints .u8 (mapTo (fun _ _ => 255) i (zeros 32))) :: blk _ (ints .u8 (zeros 32)) :: A) h) ?_ ?_ 0 _ (by omega) (by rw [mapTo_zero]; exact hs)
 ·intro j h7 hjl hs hk'
  apply hJ
  rw [ltI_eq, if_pos (by simp; omega)]
  simp only [Int.toNat_natCast, Nat.mul_one]
  refine ⟨by omega, by omega, hs.can .z (by simp; omega), ?_⟩
  intro h8 e8
  replace hs := hs.wr .z e8
  rw [wrap_succ (by omega)]
  refine hk' _ ?_
  simp only [splice_cons, splice_nil, ints_set, put] at hs
  rw [mapTo_succ (fun _ _ => 255) j (zeros 32) (by simpa using hjl)] at hs
  exact hs
 ·intro h7 hs
  apply hJ
  rw [ltI_eq, if_neg (by simp)]
  rw [mapTo_const 32 255 _ (by simp)] at hs
  refine ⟨blankCell, by simp [blankCell], hs.row0 .z, ?_⟩
  have : (ints .u8 blankCell).length = 32 := by simp [blankCell]
  refine ⟨hs.can (.s .z) (by simp), ?_⟩
  intro _ e
  replace hs := Sat.wra hs (.s .z) e (by simp [blankCell])
  simp only [put] at hs
  refine ⟨blankCell, by simp [blankCell], hs.row0 (.s .z), k _ hs.drop.drop⟩

end
end Go.Proofs.YteedolonhdbieaaGreatDoor

/- Contracts of the document's chip: new ones, laid ones, copies. Own work. -/
set_option linter.unusedVariables false
namespace Go.Proofs.YteedolonhdbieaaGreatDoor
open Go Go.Vc

section
variable {h0 h : H} {A : List Ent} {i p : Nat} {C : Cm}
theorem wnp {c : Cfg} (m : c.may) : IntKind.i64.wrap (2 + IntKind.i64.wrap (2 * c.area)) = c.np := by
 have := m.area; unfold Cfg.np; simp only [IntKind.wrap_i64]; omega
theorem wnf {c : Cfg} (m : c.may) : IntKind.i64.wrap (IntKind.i64.wrap (c.slots * c.fuses) + c.keys) = c.nf := by
 have h1 := m.slots; have h2 := m.fuses; have h3 := m.keys
 have e1 : 0 ≤ c.slots * c.fuses := Int.mul_nonneg (by omega) (by omega)
 have e2 : c.slots * c.fuses ≤ 8 * 64 := Int.mul_le_mul (by omega) (by omega) (by omega) (by omega)
 unfold Cfg.nf; simp only [IntKind.wrap_i64]; omega
theorem fresh_sp (c : Cfg) (hm : c.may) {Q : Option Addr → Nat → Nat → Option Addr → Nat → Nat → Option Addr → Nat → Nat → H → Prop} (hs : Sat h0 A h)
  (k : ∀ (a' b' c' : Sl) h', Sat h0 (stL a' b' c' (freshSt c) ++ A) h' → Q a'.1 a'.2.1 a'.2.2 b'.1 b'.2.1 b'.2.2 c'.1 c'.2.1 c'.2.2 h') :
  F_portcullisref04_fresh c.cells c.slots c.fuses c.step c.keys c.erases c.area Q h := by
 unfold F_portcullisref04_fresh G_portcullisref04_fresh
 try simp only [add_mk, Nat.zero_add, List.append_nil]
 intro g _ hn; replace hs := Sat.new hs hn; clear hn
 intro n2 _ hn; replace hs := Sat.new hs hn; clear hn
 intro J hJ
 have hnp := hm.np
 have hnf := hm.nf
 have hmc := hm.cells
 have hms := hm.slots
 have fin : ∀ p a b h', Sat h0 (blk p [.slice none 0 0, .slice (some ⟨a, 0, none⟩) c.np.toNat c.np.toNat, .slice (some ⟨b, 0, none⟩) c.nf.toNat c.nf.toNat] :: blk a (List.replicate c.np.toNat [Value.int .i64 0]).flatten :: blk b (List.replicate c.nf.toNat [Value.bool false]).flatten ::
   blk g c.vals :: blk n2 [.slice none 0 0, .slice none 0 0, .slice none 0 0] :: A) h' → J [SV.dv (DV.addr ⟨p, 0, none⟩)] h' := by
  intro p a b h' hs
  apply hJ
  simp only [Cfg.vals] at hs
  intro J2 hJ2
  replace hs := hs.mat_nil 32 none
  refine loop_up c.np.toNat (fun i h => ∃ hd : Sl, hd.2.1 = i ∧ Sat h0 (matE 32 hd (List.replicate i (blankRow c)) :: blk p [hd.v, .slice (some ⟨a, 0, none⟩) c.np.toNat c.np.toNat, .slice (some ⟨b, 0, none⟩) c.nf.toNat c.nf.toNat] :: blk a (List.replicate c.np.toNat [Value.int .i64 0]).flatten :: blk b (List.replicate c.nf.toNat [Value.bool false]).flatten ::
   blk g c.vals :: blk n2 [.slice none 0 0, .slice none 0 0, .slice none 0 0] :: A) h) ?_ ?_ 0 _ (by omega) ⟨_, rfl, hs⟩
  ·rintro i h1 hi ⟨⟨hp, hl, hc⟩, e, hs⟩ hk
   simp only at e; subst e
   apply hJ2
   simp only [Cfg.vals] at hs
   refine ⟨_, Sat.ld hs (by (repeat (first | exact At.z | apply At.s))) (by rfl), ?_⟩
   rw [wnp hm, ltI_eq, if_pos (by simp; omega)]
   refine ⟨_, Sat.ld hs (by (repeat (first | exact At.z | apply At.s))) (by rfl), ?_⟩
   refine ⟨by omega, by omega, by omega, by omega, ?_⟩
   intro nr _ hn; replace hs := Sat.new hs hn; clear hn
   intro J3 hJ3
   have hrl : ∀ i, ((List.replicate i blankCell).flatten ++ (List.replicate (c.cells.toNat - i) (zeros 32)).flatten).length = i * 32 + (c.cells.toNat - i) * 32 := fun i => by
    simp [blankCell]
   refine loop_up c.cells.toNat (fun i h => Sat h0 (blk nr (ints .u8 ((List.replicate i blankCell).flatten ++ (List.replicate (c.cells.toNat - i) (zeros 32)).flatten)) :: matE 32 (hp, hl, hc) (List.replicate hl (blankRow c)) :: blk p [.slice hp hl hc, .slice (some ⟨a, 0, none⟩) c.np.toNat c.np.toNat, .slice (some ⟨b, 0, none⟩) c.nf.toNat c.nf.toNat] :: blk a (List.replicate c.np.toNat [Value.int .i64 0]).flatten :: blk b (List.replicate c.nf.toNat [Value.bool false]).flatten ::
    blk g c.vals :: blk n2 [.slice none 0 0, .slice none 0 0, .slice none 0 0] :: A) h) ?_ ?_ 0 _ (by omega) ?_
   ·intro j h2 hj hs hk2
    apply hJ3
    simp only [Cfg.vals] at hs
    refine ⟨_, Sat.ld hs (by (repeat (first | exact At.z | apply At.s))) (by rfl), ?_⟩
    rw [ltI_eq, if_pos (by simp; omega)]
    refine rBlank_sp hs ?_
    intro h3 hs
    refine ⟨_, rfl, by omega, by omega, ?_⟩
    try simp only [add_mk, Nat.zero_add, Int.toNat_natCast]
    refine ⟨hs.can .z (by rw [ints_length, hrl]; omega), ?_⟩
    intro h4 e4
    replace hs := hs.wr .z e4
    rw [wrap_succ (by omega)]
    refine hk2 _ ?_
    have esp : splice (ints .u8 ((List.replicate j blankCell).flatten ++ (List.replicate (c.cells.toNat - j) (zeros 32)).flatten)) (j * 32) (ints .u8 blankCell) = ints .u8 ((List.replicate (j + 1) blankCell).flatten ++ (List.replicate (c.cells.toNat - (j + 1)) (zeros 32)).flatten) := by
     have e1 : (List.replicate (c.cells.toNat - j) (zeros 32)).flatten = zeros 32 ++ (List.replicate (c.cells.toNat - (j + 1)) (zeros 32)).flatten := by
      rw [show c.cells.toNat - j = 1 + (c.cells.toNat - (j + 1)) by omega, rep_add]; simp
     have e2 : (ints .u8 (List.replicate j blankCell).flatten).length = j * 32 := by simp [blankCell]
     rw [e1, ints_append, ints_append, ← List.append_assoc, ← e2, splice_append _ _ _ _ (by simp [blankCell]), rep_add j 1]
     simp
    rw [esp] at hs
    exact hs
   ·intro h2 hs
    apply hJ3
    simp only [Cfg.vals] at hs
    refine ⟨_, Sat.ld hs (by (repeat (first | exact At.z | apply At.s))) (by rfl), ?_⟩
    rw [ltI_eq, if_neg (by simp; omega)]
    refine ⟨_, _, _, Sat.ld hs (by (repeat (first | exact At.z | apply At.s))) (by rfl), ?_⟩
    intro nh _ hn; replace hs := Sat.new hs hn; clear hn
    refine ⟨_, Sat.bv hs (.z) (by simp) (by simp), ?_⟩
    replace hs := hs.as_sl (i := 1) (l := c.cells.toNat) (sz := 32) (.s .z) (by rw [ints_length, hrl]; omega) (ints_one _ _)
    simp only [put] at hs
    replace hs := Sat.front (e := sE (some ⟨nr, 0, none⟩, c.cells.toNat, c.cells.toNat) 32 _) hs (.s .z)
    refine Sat.app_row hs (i := 1) (.s .z) (by omega) ?_
    intro p2 c2' h4 hs
    simp only [put, del] at hs
    (refine ⟨Sat.can hs (by (repeat (first | exact At.z | apply At.s))) (by simp), ?_⟩; intro _ e; replace hs := Sat.wr hs (by (repeat (first | exact At.z | apply At.s))) e; clear e; simp only [put, splice, List.set] at hs)
    rw [wrap_succ (by omega)]
    refine hk _ ⟨(p2, hl + 1, c2'), rfl, ?_⟩
    have e1 : (List.replicate c.cells.toNat blankCell).flatten ++ (List.replicate (c.cells.toNat - c.cells.toNat) (zeros 32)).flatten = blankRow c := by simp [blankRow]
    rw [e1] at hs
    rw [List.replicate_succ']
    exact hs.sub (by (repeat (first | exact List.Sublist.refl _ | apply List.Sublist.cons_cons | apply List.Sublist.cons)))
   ·have e0 : (List.replicate c.cells.toNat (ints .u8 (zeros 32))).flatten = ints .u8 ((List.replicate 0 blankCell).flatten ++ (List.replicate (c.cells.toNat - 0) (zeros 32)).flatten) := by
     simp [ints, List.map_flatten]
    rw [e0] at hs
    exact hs
  ·rintro h1 ⟨⟨hp, hl, hc⟩, e, hs⟩
   simp only at e; subst e
   apply hJ2
   simp only [Cfg.vals] at hs
   refine ⟨_, Sat.ld hs (by (repeat (first | exact At.z | apply At.s))) (by rfl), ?_⟩
   rw [wnp hm, ltI_eq, if_neg (by simp; omega)]
   (repeat first | refine ⟨_, Sat.ld hs (by (repeat (first | exact At.z | apply At.s))) (by rfl), ?_⟩ | refine ⟨_, _, _, Sat.ld hs (by (repeat (first | exact At.z | apply At.s))) (by rfl), ?_⟩ | (intro _ _ hn; replace hs := Sat.new hs hn; clear hn) | refine ⟨Sat.cs hs (by (repeat (first | exact At.z | apply At.s))) (by rfl), ?_⟩ | (refine ⟨Sat.can hs (by (repeat (first | exact At.z | apply At.s))) (by simp), ?_⟩; intro _ e; replace hs := Sat.wr hs (by (repeat (first | exact At.z | apply At.s))) e; clear e; simp only [put, splice, List.set] at hs))
   refine k (hp, _, hc) (some ⟨a, 0, none⟩, _, _) (some ⟨b, 0, none⟩, _, _) _ ?_
   have eb : (List.replicate c.nf.toNat [Value.bool false]).flatten = bools (freshSt c).blown := by simp [freshSt, bools]
   have ea : (List.replicate c.np.toNat [Value.int .i64 0]).flatten = ints .i64 (freshSt c).erases := by simp [freshSt, zeros, ints]
   rw [ea, eb] at hs
   replace hs := Sat.front hs (e := blk p _) (by (repeat (first | exact At.z | apply At.s)))
   replace hs := Sat.front hs (e := blk g _) (by (repeat (first | exact At.z | apply At.s)))
   replace hs := Sat.front hs (e := blk n2 _) (by (repeat (first | exact At.z | apply At.s)))
   simp only [del] at hs
   replace hs := hs.drop.drop.drop
   replace hs := hs.as_sl (i := 1) (l := c.np.toNat) (sz := 1) (.s .z) (by simp [freshSt]) (ints_one _ _)
   replace hs := hs.as_sl (i := 2) (l := c.nf.toNat) (sz := 1) (.s (.s .z)) (by simp [freshSt]) (bools_one _)
   exact hs
 (repeat first | refine ⟨_, Sat.ld hs (by (repeat (first | exact At.z | apply At.s))) (by rfl), ?_⟩ | refine ⟨_, _, _, Sat.ld hs (by (repeat (first | exact At.z | apply At.s))) (by rfl), ?_⟩ | (intro _ _ hn; replace hs := Sat.new hs hn; clear hn) | refine ⟨Sat.cs hs (by (repeat (first | exact At.z | apply At.s))) (by rfl), ?_⟩ | (refine ⟨Sat.can hs (by (repeat (first | exact At.z | apply At.s))) (by simp), ?_⟩; intro _ e; replace hs := Sat.wr hs (by (repeat (first | exact At.z | apply At.s))) e; clear e; simp only [put, splice, List.set] at hs))
 simp only [wnp hm, wnf hm]
 repeat' (first
  | refine ⟨_, Sat.ld hs (by (repeat (first | exact At.z | apply At.s))) (by rfl), ?_⟩
  | (intro _ _ hn; replace hs := Sat.new hs hn; clear hn)
  | refine ⟨Sat.cs hs (by (repeat (first | exact At.z | apply At.s))) (by rfl), ?_⟩
  | (refine ⟨Sat.can hs (by (repeat (first | exact At.z | apply At.s))) (by simp), ?_⟩; intro _ e; replace hs := Sat.wr hs (by (repeat (first | exact At.z | apply At.s))) e; clear e; simp only [put, splice, List.set] at hs)
  | refine ⟨by omega, ?_⟩
  | refine And.intro ?_ ?_)
 all_goals
  replace hs := Sat.front hs (e := blk n2 _) (by (repeat (first | exact At.z | apply At.s)))
  replace hs := Sat.front hs (e := blk g _) (by (repeat (first | exact At.z | apply At.s)))
  replace hs := Sat.front hs (e := blk _ (List.replicate c.nf.toNat [Value.bool false]).flatten) (by (repeat (first | exact At.z | apply At.s)))
  replace hs := Sat.front hs (e := blk _ (List.replicate c.np.toNat [Value.int .i64 0]).flatten) (by (repeat (first | exact At.z | apply At.s)))
  replace hs := Sat.front hs (e := blk _ [Value.slice none 0 0, Value.slice (some ⟨_, 0, none⟩) _ _, Value.slice (some ⟨_, 0, none⟩) _ _]) (by (repeat (first | exact At.z | apply At.s)))
  exact fin _ _ _ _ hs
theorem rNew_sp (c : Cfg) {Q : Option Addr → Int → H → Prop} (hs : Sat h0 A h)
  (k1 : ¬ c.may → ∀ h', Sat h0 A h' → Q none 1 h')
  (k2 : c.may → ∀ p h', Sat h0 (chipE p (freshC c) :: A) h' → Q (some ⟨p, 0, none⟩) 0 h') :
  F_portcullisref04_New c.cells c.slots c.fuses c.step c.keys c.erases c.area Q h := by
 unfold F_portcullisref04_New G_portcullisref04_New
 try simp only [add_mk, Nat.zero_add]
 intro g _ hn; replace hs := Sat.new hs hn; clear hn
 (repeat first | refine ⟨_, Sat.ld hs (by (repeat (first | exact At.z | apply At.s))) (by rfl), ?_⟩ | refine ⟨_, _, _, Sat.ld hs (by (repeat (first | exact At.z | apply At.s))) (by rfl), ?_⟩ | (intro _ _ hn; replace hs := Sat.new hs hn; clear hn) | refine ⟨Sat.cs hs (by (repeat (first | exact At.z | apply At.s))) (by rfl), ?_⟩ | (refine ⟨Sat.can hs (by (repeat (first | exact At.z | apply At.s))) (by simp), ?_⟩; intro _ e; replace hs := Sat.wr hs (by (repeat (first | exact At.z | apply At.s))) e; clear e; simp only [put, splice, List.set] at hs))
 refine rMay_sp c hs ?_
 intro h1 hs
 unfold Cfg.may?
 by_cases hm : c.may
 case neg =>
  rw [if_neg hm, if_pos (by decide)]
  exact k1 hm _ hs.drop
 rw [if_pos hm, if_neg (by decide)]
 (repeat first | refine ⟨_, Sat.ld hs (by (repeat (first | exact At.z | apply At.s))) (by rfl), ?_⟩ | refine ⟨_, _, _, Sat.ld hs (by (repeat (first | exact At.z | apply At.s))) (by rfl), ?_⟩ | (intro _ _ hn; replace hs := Sat.new hs hn; clear hn) | refine ⟨Sat.cs hs (by (repeat (first | exact At.z | apply At.s))) (by rfl), ?_⟩ | (refine ⟨Sat.can hs (by (repeat (first | exact At.z | apply At.s))) (by simp), ?_⟩; intro _ e; replace hs := Sat.wr hs (by (repeat (first | exact At.z | apply At.s))) e; clear e; simp only [put, splice, List.set] at hs))
 refine fresh_sp c hm hs ?_
 intro a b c' h2 hs
 replace hs : Sat h0 (matE 32 a (freshSt c).pages :: sE b 1 (ints .i64 (freshSt c).erases) :: sE c' 1 (bools (freshSt c).blown) :: blk g c.vals :: A) h2 := hs
 simp only [Cfg.vals] at hs
 (repeat first | refine ⟨_, Sat.ld hs (by (repeat (first | exact At.z | apply At.s))) (by rfl), ?_⟩ | refine ⟨_, _, _, Sat.ld hs (by (repeat (first | exact At.z | apply At.s))) (by rfl), ?_⟩ | (intro _ _ hn; replace hs := Sat.new hs hn; clear hn) | refine ⟨Sat.cs hs (by (repeat (first | exact At.z | apply At.s))) (by rfl), ?_⟩ | (refine ⟨Sat.can hs (by (repeat (first | exact At.z | apply At.s))) (by simp), ?_⟩; intro _ e; replace hs := Sat.wr hs (by (repeat (first | exact At.z | apply At.s))) e; clear e; simp only [put, splice, List.set] at hs))
 refine k2 hm _ _ ?_
 replace hs := hs.sl_nil 1 none
 replace hs := Sat.front hs (e := slE _ _ _ 1 (bools _)) (by (repeat (first | exact At.z | apply At.s)))
 replace hs := Sat.front hs (e := slE _ _ _ 1 (ints .i64 _)) (by (repeat (first | exact At.z | apply At.s)))
 replace hs := Sat.front hs (e := matE 32 _ _) (by (repeat (first | exact At.z | apply At.s)))
 replace hs := Sat.front hs (e := blk _ [_, _, _, _, _, _, _, _, _, _, _, _, _, _]) (by (repeat (first | exact At.z | apply At.s)))
 simp only [del] at hs
 exact (chip_make (C := freshC c) (a := a) (b := b) (c := c') (m := (none, 0, 0)) (freshC_ok hm) hs).sub (by (repeat (first | exact List.Sublist.refl _ | apply List.Sublist.cons_cons | apply List.Sublist.cons)))
end
end Go.Proofs.YteedolonhdbieaaGreatDoor

/- Contracts of the document's chip: its methods. Own work. -/
set_option linter.unusedVariables false
namespace Go.Proofs.YteedolonhdbieaaGreatDoor
open Go Go.Vc

structure RefW (C : Cm) (w : Pl × List Int) : Prop where
 ok : C.ok
 b : bytesOk w.2
 l : w.2.length ≤ 2 ^ 47
 m : 0 ≤ C.left → w.2 = C.mask
section
variable {h0 h : H} {A : List Ent} {i p : Nat} {C : Cm}
end
end Go.Proofs.YteedolonhdbieaaGreatDoor
end

/- Contracts of the chip's statements: a state is written over. Own work. -/
section
set_option linter.unusedVariables false
namespace Go.Proofs.YteedolonhdbieaaGreatDoor
open Go Go.Vc

section
variable {h0 h : H} {A : List Ent} {i p : Nat} {C : Cm}
end
end Go.Proofs.YteedolonhdbieaaGreatDoor

/- Contracts of the chip's statements: pairs of chips. Own work. -/
set_option maxRecDepth 100000
set_option linter.unusedVariables false
namespace Go.Proofs.YteedolonhdbieaaGreatDoor
open Go Go.Vc

section
variable {h0 h : H} {A : List Ent} {i j p r : Nat} {C : Cm}
theorem chip_ok (hs : Sat h0 A h) (ci : At A i (chipE p C)) : C.ok := by
 obtain ⟨w, ok, _⟩ := (hs.front ci).open_
 exact ok
end
end Go.Proofs.YteedolonhdbieaaGreatDoor
end

/- Contracts of the chip's statements: a step. Own work. -/
section
set_option maxRecDepth 100000
set_option linter.unusedVariables false
namespace Go.Proofs.YteedolonhdbieaaGreatDoor
open Go Go.Vc

structure Stp where
 kind : Int
 a : Int
 b : Int
 x : List Int
 mask : List Int
structure Stp.ok (s : Stp) : Prop where
 a : -(2 ^ 63) ≤ s.a ∧ s.a < 2 ^ 63
 x : s.x.length = 32
 mb : bytesOk s.mask
 ml : s.mask.length + 4096 ≤ 2 ^ 47
section
variable {h0 h : H} {A : List Ent} {i j p r : Nat} {C : Cm}
end
end Go.Proofs.YteedolonhdbieaaGreatDoor

/- Contracts of the chip's statements: games; calls whose answers are fixed. Own work. -/
set_option maxRecDepth 100000
set_option linter.unusedVariables false
namespace Go.Proofs.YteedolonhdbieaaGreatDoor
open Go Go.Vc

section
variable {h0 h : H} {A : List Ent} {i j p r : Nat} {C : Cm}
structure ScriptRd (h : H) (p : Option Addr) (l : Nat) (sc : List Stp) : Prop where
 len : sc.length = l
 small : l < 2 ^ 62
 el : ∀ i (hi : i < sc.length), ∃ (q : Addr) (mp : Option Addr) (ml mc : Nat), p = some q ∧ hc h (q.add (i * 36)) = some (.int .i64 sc[i].kind) ∧ hc h ((q.add (i * 36)).add 1) = some (.int .i64 sc[i].a) ∧
  hc h ((q.add (i * 36)).add 2) = some (.int .i64 sc[i].b) ∧ hrow h ((q.add (i * 36)).add 3) .u8 sc[i].x ∧ hc h ((q.add (i * 36)).add 35) = some (.slice mp ml mc) ∧ hsv h mp 1 ml (ints .u8 sc[i].mask) ∧ sc[i].ok
end
end Go.Proofs.YteedolonhdbieaaGreatDoor

/- Contracts of the chip's statements: ChipLays. Own work. -/
set_option maxRecDepth 100000
set_option linter.unusedVariables false
namespace Go.Proofs.YteedolonhdbieaaGreatDoor
open Go Go.Vc

section
variable {h0 h : H} {A : List Ent} {i j p r : Nat} {C : Cm}
end
end Go.Proofs.YteedolonhdbieaaGreatDoor
end

/- The fuses' model: counts of a row, raising, revoking; laws about numbers alone. Own work. -/
section
set_option maxRecDepth 100000
set_option linter.unusedVariables false
namespace Go.Proofs.YteedolonhdbieaaGreatDoor
open Go Go.Vc

theorem loop_st {J : List SV → H → Prop} {σ : Type} (N : Nat) (S : Nat → σ → List SV) (Inv : Nat → σ → H → Prop) (step : ∀ i s h, i < N → Inv i s h → (∀ s' h', Inv (i + 1) s' h' → J (S (i + 1) s') h') → J (S i s) h)
  (exit : ∀ s h, Inv N s h → J (S N s) h) (i : Nat) (s : σ) (h : H) (hi : i ≤ N) (inv : Inv i s h) : J (S i s) h := by
 generalize e : N - i = n
 induction n generalizing i s h with
 | zero =>
  have : i = N := by omega
  subst this; exact exit s h inv
 | succ n ih => exact step i s h (by omega) inv fun s' h' inv' => ih (i + 1) s' h' (by omega) inv' (by omega)

def cnt (bl : List Bool) (a : Nat) : Nat → Nat
 | 0 => 0
 | n + 1 => cnt bl a n + (if bl.getD (a + n) false = true then 1 else 0)
def lst (bl : List Bool) (a : Nat) : Nat → Option Nat
 | 0 => none
 | n + 1 => match lst bl a n with | some k => some k | none => if bl.getD (a + n) false = true then none else some (a + n)
def lstI : Option Nat → Int
 | none => -1
 | some k => k
theorem cnt_le (bl : List Bool) (a n : Nat) : cnt bl a n ≤ n := by
 induction n with
 | zero => exact Nat.le_refl _
 | succ n ih => unfold cnt; split <;> omega
def countM (C : Cm) (slot : Int) : Int × Int :=
 if askedM C slot C.cfg.slots ≠ 0 then (0, askedM C slot C.cfg.slots) else (cnt C.s.blown (slot * C.cfg.fuses).toNat C.cfg.fuses.toNat, 0)
def revokedM (C : Cm) (key : Int) : Bool × Int :=
 if askedM C key C.cfg.keys ≠ 0 then (false, askedM C key C.cfg.keys) else (C.s.blown.getD (C.cfg.slots * C.cfg.fuses + key).toNat false, 0)
def revokeM (C : Cm) (key : Int) : Cm × Int :=
 if (revokedM C key).2 ≠ 0 then (C, (revokedM C key).2) else if (revokedM C key).1 = true then (C, (revokedM C key).2) else blowM C (C.cfg.slots * C.cfg.fuses + key)

theorem askedM_in {C : Cm} {i n : Int} (ho : C.out = false) (h1 : 0 ≤ i) (h2 : i < n) : askedM C i n = 0 := by
 unfold askedM; rw [if_neg (by simp [ho]), if_neg (by omega), if_neg (by omega)]
theorem act_out {C : Cm} (ho : C.out = false) (hl : C.left ≠ 0) : C.act.out = false := by
 unfold Cm.act; rw [if_pos hl]; exact ho
theorem row_in {C : Cm} (ok : C.ok) {slot : Int} (h1 : 0 ≤ slot) (h2 : slot < C.cfg.slots) : ((slot * C.cfg.fuses).toNat : Int) = slot * C.cfg.fuses ∧ (C.cfg.fuses.toNat : Int) = C.cfg.fuses ∧ (slot * C.cfg.fuses).toNat + C.cfg.fuses.toNat ≤ C.s.blown.length ∧
  C.s.blown.length ≤ 576 ∧ (slot * C.cfg.fuses).toNat + C.cfg.fuses.toNat ≤ (C.cfg.slots * C.cfg.fuses).toNat ∧ C.cfg.fuses.toNat ≤ 64 := by
 have hb := ok.fits.blown
 have hf := ok.may.fuses
 have hn := ok.may.nf
 have hk := ok.may.keys
 unfold Cfg.nf at hb hn
 have e1 : 0 ≤ slot * C.cfg.fuses := Int.mul_nonneg h1 (by omega)
 have e2 : (slot + 1) * C.cfg.fuses ≤ C.cfg.slots * C.cfg.fuses := Int.mul_le_mul_of_nonneg_right (by omega) (by omega)
 rw [Int.add_mul] at e2
 omega
structure Raised (a f : Nat) (n : Int) (C D : Cm) (e : Int) : Prop where
 cfg : D.cfg = C.cfg
 len : D.s.blown.length = C.s.blown.length
 same : ∀ k, k < a ∨ a + f ≤ k → D.s.blown.getD k false = C.s.blown.getD k false
 up : ∀ k, C.s.blown.getD k false = true → D.s.blown.getD k false = true
 ge : cnt C.s.blown a f ≤ cnt D.s.blown a f
 le : (cnt D.s.blown a f : Int) ≤ max n (cnt C.s.blown a f)
 good : e = 0 → (cnt D.s.blown a f : Int) = max n (cnt C.s.blown a f)
 on : e = 0 → D.out = false
 bad : e ≠ 0 → e = 8 ∧ 0 ≤ C.left ∧ C.left < n - cnt C.s.blown a f
end Go.Proofs.YteedolonhdbieaaGreatDoor

/- Contracts of the fuses' package. Own work. -/
set_option maxRecDepth 100000
set_option linter.unusedVariables false
namespace Go.Proofs.YteedolonhdbieaaGreatDoor
open Go Go.Vc

section
variable {h0 h : H} {A : List Ent} {i j p r : Nat} {C : Cm}
theorem fasked_sp {Q : Int → H → Prop} (hs : Sat h0 A h) (ci : At A i (chipE p C)) (n j : Int) (k : Q (askedM C j n) h) : F_fuse_asked ⟨p, 0, none⟩ j n Q h := by
 unfold F_fuse_asked G_fuse_asked
 refine Out_sp hs ci ?_
 unfold askedM at k
 simp only [ltI_eq, leI_eq, decide_eq_true_eq]
 split
 ·simpa [*] using k
 ·split
  ·simpa [*] using k
  ·split <;> simpa [*] using k
abbrev rowS (bl : List Bool) (a : Nat) (n : Nat) : List SV := [.dv (.one (.int .i64 (cnt bl a n : Int))), .dv (.one (.int .i64 (lstI (lst bl a n)))), .dv (.one (.int .i64 (n : Int)))]
theorem lst_succ (bl : List Bool) (a n : Nat) : lst bl a (n + 1) = match lst bl a n with | some k => some k | none => if bl.getD (a + n) false = true then none else some (a + n) := rfl
theorem frow_sp {Q : Int → Int → Int → H → Prop} (hs : Sat h0 A h) (ci : At A i (chipE p C)) (ho : C.out = false) {slot : Int} (h1 : 0 ≤ slot) (h2 : slot < C.cfg.slots)
  (k : ∀ h', Sat h0 A h' → Q (cnt C.s.blown (slot * C.cfg.fuses).toNat C.cfg.fuses.toNat) (lstI (lst C.s.blown (slot * C.cfg.fuses).toNat C.cfg.fuses.toNat)) 0 h') : F_fuse_row ⟨p, 0, none⟩ slot Q h := by
 unfold F_fuse_row G_fuse_row
 refine Config_sp hs ci ?_
 intro h1' hs
 have ok := chip_ok hs ci
 obtain ⟨e1, e2, e3, e4, e5, e6⟩ := row_in ok h1 h2
 have hsl := ok.may.slots
 intro J hJ
 generalize hf : C.cfg.fuses.toNat = f at *
 generalize ha : (slot * C.cfg.fuses).toNat = a at *
 refine loop_st f (fun n (_ : Unit) => rowS C.s.blown a n) (fun _ _ h => Sat h0 A h) ?_ ?_ 0 () _ (by omega) hs
 ·intro n _ h2 hn hs hk
  apply hJ
  rw [ltI_eq, if_pos (by simp; omega)]
  have ew : IntKind.i64.wrap (IntKind.i64.wrap (slot * C.cfg.fuses) + n) = ((a + n : Nat) : Int) := by
   rw [wrap_id (n := slot * C.cfg.fuses) (by omega), wrap_id (by omega)]; omega
  rw [ew]
  have eb : blownM C ((a + n : Nat) : Int) = (C.s.blown.getD (a + n) false, 0) := by
   unfold blownM; rw [askedM_in ho (by omega) (by omega), if_neg (by simp), Int.toNat_natCast]
  refine Blown_sp hs ci _ ?_
  rw [eb]
  rw [if_neg (by simp)]
  have hcl := cnt_le C.s.blown a n
  have hk := hk () _ hs
  have ls := lst_succ C.s.blown a n
  by_cases hb : C.s.blown.getD (a + n) false = true
  ·rw [if_pos (by simpa using hb), wrap_succ (by omega), wrap_succ (by omega)]
   have e7 : cnt C.s.blown a (n + 1) = cnt C.s.blown a n + 1 := by rw [cnt, if_pos hb]
   have e8 : lst C.s.blown a (n + 1) = lst C.s.blown a n := by
    rw [ls]
    cases lst C.s.blown a n with
    | none => exact if_pos hb
    | some k => rfl
   simp only [rowS, e7, e8] at hk
   exact hk
  ·rw [if_neg (by simpa using hb), wrap_succ (by omega)]
   have e7 : cnt C.s.blown a (n + 1) = cnt C.s.blown a n := by rw [cnt, if_neg hb]; rfl
   cases e : lst C.s.blown a n with
   | none =>
    rw [e] at ls
    dsimp only at ls
    rw [if_neg hb] at ls
    rw [ltI_eq, if_pos (by simp [lstI])]
    simp only [rowS, e7, ls, lstI] at hk
    exact hk
   | some x =>
    rw [e] at ls
    dsimp only at ls
    have e10 : ¬ (decide (lstI (some x) < 0) = true) := by
     have : (0 : Int) ≤ (x : Int) := Int.natCast_nonneg x
     rw [decide_eq_true_eq]
     exact Int.not_lt.2 this
    rw [ltI_eq, if_neg e10]
    simp only [rowS, e7, ls, lstI] at hk
    exact hk
 ·intro _ h2 hs
  apply hJ
  rw [ltI_eq, if_neg (by simp; omega)]
  exact k _ hs
theorem Count_sp {Q : Int → Int → H → Prop} (hs : Sat h0 A h) (ci : At A i (chipE p C)) (slot : Int) (k : ∀ h', Sat h0 A h' → Q (countM C slot).1 (countM C slot).2 h') : F_fuse_Count ⟨p, 0, none⟩ slot Q h := by
 unfold F_fuse_Count G_fuse_Count
 refine Config_sp hs ci ?_
 intro h1 hs
 refine fasked_sp hs ci _ _ ?_
 unfold countM at k
 by_cases e : askedM C slot C.cfg.slots = 0
 ·obtain ⟨ho, h1, h2⟩ := askedM_zero e
  rw [if_neg (by simpa using e)] at k ⊢
  exact frow_sp hs ci ho h1 h2 fun h' hs' => k _ hs'
 ·rw [if_pos (by simpa using e)] at k ⊢
  exact k _ hs
theorem key_in (ok : C.ok) {key : Int} (h1 : 0 ≤ key) (h2 : key < C.cfg.keys) : IntKind.i64.wrap (IntKind.i64.wrap (C.cfg.slots * C.cfg.fuses) + key) = C.cfg.slots * C.cfg.fuses + key ∧ 0 ≤ C.cfg.slots * C.cfg.fuses + key ∧ C.cfg.slots * C.cfg.fuses + key < C.s.blown.length := by
 have hb := ok.fits.blown
 have hn := ok.may.nf
 have hk := ok.may.keys
 have hf := ok.may.fuses
 have hsl := ok.may.slots
 unfold Cfg.nf at hb hn
 have e1 : 0 ≤ C.cfg.slots * C.cfg.fuses := Int.mul_nonneg (by omega) (by omega)
 refine ⟨?_, by omega, by omega⟩
 rw [wrap_id (n := C.cfg.slots * C.cfg.fuses) (by omega), wrap_id (by omega)]
theorem of_sp {Q : Int → H → Prop} (hs : Sat h0 A h) (ci : At A i (chipE p C)) (key : Int) (h1 : 0 ≤ key) (h2 : key < C.cfg.keys) (k : ∀ h', Sat h0 A h' → Q (C.cfg.slots * C.cfg.fuses + key) h') : F_fuse_of ⟨p, 0, none⟩ key Q h := by
 unfold F_fuse_of G_fuse_of
 refine Config_sp hs ci ?_
 intro h3 hs
 refine Config_sp hs ci ?_
 intro h4 hs
 rw [(key_in (chip_ok hs ci) h1 h2).1]
 exact k _ hs
theorem Revoked_sp {Q : Bool → Int → H → Prop} (hs : Sat h0 A h) (ci : At A i (chipE p C)) (key : Int) (k : ∀ h', Sat h0 A h' → Q (revokedM C key).1 (revokedM C key).2 h') : F_fuse_Revoked ⟨p, 0, none⟩ key Q h := by
 unfold F_fuse_Revoked G_fuse_Revoked
 refine Config_sp hs ci ?_
 intro h1 hs
 refine fasked_sp hs ci _ _ ?_
 unfold revokedM at k
 by_cases e : askedM C key C.cfg.keys = 0
 case neg =>
  rw [if_pos (by simpa using e)] at k ⊢
  exact k _ hs
 obtain ⟨ho, h1, h2⟩ := askedM_zero e
 rw [if_neg (by simpa using e)] at k ⊢
 refine of_sp hs ci key h1 h2 ?_
 intro h3 hs
 obtain ⟨x1, x2, x3⟩ := key_in (chip_ok hs ci) h1 h2
 refine Blown_sp hs ci _ ?_
 have eb : blownM C (C.cfg.slots * C.cfg.fuses + key) = (C.s.blown.getD (C.cfg.slots * C.cfg.fuses + key).toNat false, 0) := by
  unfold blownM; rw [askedM_in ho x2 x3, if_neg (by simp)]
 rw [eb]
 exact k _ hs
theorem revoked_ok {key : Int} (e : (revokedM C key).2 = 0) : 0 ≤ key ∧ key < C.cfg.keys := by
 unfold revokedM at e
 split at e
 ·rename_i h1; exact absurd e h1
 ·rename_i h1
  obtain ⟨_, h2, h3⟩ := askedM_zero (show askedM C key C.cfg.keys = 0 by simpa using h1)
  exact ⟨h2, h3⟩
theorem Revoke_sp {Q : Int → H → Prop} (hs : Sat h0 A h) (ci : At A i (chipE p C)) (key : Int) (k : ∀ h', Sat h0 (put A i (chipE p (revokeM C key).1)) h' → Q (revokeM C key).2 h') : F_fuse_Revoke ⟨p, 0, none⟩ key Q h := by
 unfold F_fuse_Revoke G_fuse_Revoke
 refine Revoked_sp hs ci key ?_
 intro h1 hs
 unfold revokeM at k
 by_cases e : (revokedM C key).2 = 0
 case neg =>
  rw [if_pos (by simpa using e)] at k ⊢
  exact k _ (by rw [ci.put_self]; exact hs)
 obtain ⟨h1, h2⟩ := revoked_ok e
 rw [if_neg (by simpa using e)] at k ⊢
 by_cases e2 : (revokedM C key).1 = true
 ·rw [if_pos e2] at k ⊢
  exact k _ (by rw [ci.put_self]; exact hs)
 rw [if_neg e2] at k ⊢
 refine of_sp hs ci key h1 h2 ?_
 intro h3 hs
 exact Blow_sp hs ci _ fun h' hs' => k _ hs'
end
end Go.Proofs.YteedolonhdbieaaGreatDoor

/- Contracts of the document's fuses. Own work. -/
set_option maxRecDepth 100000
set_option linter.unusedVariables false
namespace Go.Proofs.YteedolonhdbieaaGreatDoor
open Go Go.Vc

section
variable {h0 h : H} {A : List Ent} {i j p r : Nat} {C : Cm}
end
end Go.Proofs.YteedolonhdbieaaGreatDoor
end

/- Contracts of the fuses' statements: FuseDoes. Own work. -/
section
set_option maxRecDepth 100000
set_option linter.unusedVariables false
namespace Go.Proofs.YteedolonhdbieaaGreatDoor
open Go Go.Vc

section
variable {h0 h : H} {A : List Ent} {i j p r : Nat} {C : Cm}
structure Stp7 where
 kind : Int
 a : Int
 n : Int
structure Stp7.ok (s : Stp7) : Prop where
 n : s.n < 2 ^ 63
structure Script7 (h : H) (p : Option Addr) (l : Nat) (sc : List Stp7) : Prop where
 len : sc.length = l
 small : l < 2 ^ 62
 el : ∀ i (hi : i < sc.length), ∃ (q : Addr), p = some q ∧ hc h (q.add (i * 3)) = some (.int .i64 sc[i].kind) ∧ hc h ((q.add (i * 3)).add 1) = some (.int .i64 sc[i].a) ∧
  hc h ((q.add (i * 3)).add 2) = some (.int .i64 sc[i].n) ∧ sc[i].ok
end
end Go.Proofs.YteedolonhdbieaaGreatDoor
end

/- Cells' bytes: tables, bytes of numbers, the sum of bytes; laws about numbers alone. Own work. -/
section
set_option maxRecDepth 100000
set_option linter.unusedVariables false
namespace Go.Proofs.YteedolonhdbieaaGreatDoor
open Go Go.Vc

def tab (n : Nat) (f : Nat → Int) : List Int := (List.range n).map f
@[simp] theorem tab_length (n : Nat) (f : Nat → Int) : (tab n f).length = n := by simp [tab]
theorem tab_get (n : Nat) (f : Nat → Int) (i : Nat) : (tab n f)[i]? = if i < n then some (f i) else none := by
 unfold tab
 rw [List.getElem?_map]
 by_cases h : i < n
 ·rw [List.getElem?_range h, if_pos h]; rfl
 ·rw [if_neg h, List.getElem?_eq_none (by simpa using h)]; rfl
theorem tab_set (n : Nat) (f : Nat → Int) (k : Nat) (v : Int) : (tab n f).set k v = tab n (fun i => if i = k then v else f i) := by
 apply List.ext_getElem?
 intro i
 rw [List.getElem?_set, tab_get, tab_get]
 by_cases h : k = i
 ·subst h; simp
 ·rw [if_neg h]; simp only [show (i = k) = False by simp; omega, if_false]
theorem tab_ext {n : Nat} {f g : Nat → Int} (h : ∀ i, i < n → f i = g i) : tab n f = tab n g := by
 apply List.ext_getElem?
 intro i
 rw [tab_get, tab_get]
 split
 ·rw [h i (by assumption)]
 ·rfl
theorem zeros_tab (n : Nat) : zeros n = tab n fun _ => 0 := by
 apply List.ext_getElem?
 intro i
 rw [tab_get]
 unfold zeros
 by_cases h : i < n
 ·rw [List.getElem?_replicate, if_pos h]
  try rw [if_pos h]
 ·rw [List.getElem?_replicate, if_neg h]
  try rw [if_neg h]
theorem ints_tab_set (k : IntKind) (n : Nat) (f : Nat → Int) (j : Nat) (v : Int) : splice (ints k (tab n f)) j [.int k v] = ints k (tab n (fun i => if i = j then v else f i)) := by
 rw [splice_cons, splice_nil, ints_set, tab_set]
def byteAt (n : Int) (i : Nat) : Int := IntKind.u8.wrap (n.fdiv (2 ^ (8 * i)))
theorem wrap_u8_byte (n : Int) : isByte (IntKind.u8.wrap n) := by unfold isByte; rw [IntKind.wrap_u8]; omega
def compl8 (x : Int) : Int := bits .xor .u8 255 x

/-! ### The sum -/
abbrev b32 (x : Int) : BitVec 32 := BitVec.ofInt 32 x
theorem w32_nat (v : BitVec 32) : IntKind.u32.wrap (v.toNat : Int) = (v.toNat : Int) := by
 have := v.isLt
 rw [IntKind.wrap_u32]; omega
theorem b32_nat (v : BitVec 32) : b32 (v.toNat : Int) = v := by simp [b32]
theorem bits_xor32 (x y : Int) : bits .xor .u32 x y = ((b32 x ^^^ b32 y).toNat : Int) := w32_nat (b32 x ^^^ b32 y)
theorem bits_and32 (x y : Int) : bits .and .u32 x y = ((b32 x &&& b32 y).toNat : Int) := w32_nat (b32 x &&& b32 y)
def is32 (x : Int) : Prop := 0 ≤ x ∧ x < 2 ^ 32
theorem is32_nat (v : BitVec 32) : is32 (v.toNat : Int) := by have := v.isLt; unfold is32; omega
theorem of32 {x : Int} (h : is32 x) : ((b32 x).toNat : Int) = x := by
 unfold is32 at h
 simp only [BitVec.toNat_ofInt]
 omega
def crcStep (x : Int) : Int := if bits .and .u32 x 1 = 1 then bits .xor .u32 (x.fdiv (2 ^ 1)) 3988292384 else x.fdiv (2 ^ 1)
def crcIt : Nat → Int → Int
 | 0, x => x
 | n + 1, x => crcIt n (crcStep x)
def vStep (v : BitVec 32) : BitVec 32 := if v.getLsbD 0 = true then (v >>> 1) ^^^ 3988292384#32 else v >>> 1
def vIt : Nat → BitVec 32 → BitVec 32
 | 0, v => v
 | n + 1, v => vIt n (vStep v)
theorem shr_nat (v : BitVec 32) (k : Nat) : ((v.toNat : Int)).fdiv (2 ^ k) = ((v >>> k).toNat : Int) := by
 rw [BitVec.toNat_ushiftRight, Nat.shiftRight_eq_div_pow, Int.fdiv_eq_ediv_of_nonneg _ (Int.le_of_lt (Int.pow_pos (by decide)))]
 simp
theorem crcStep_v (v : BitVec 32) : crcStep (v.toNat : Int) = ((vStep v).toNat : Int) := by
 unfold crcStep vStep
 rw [bits_and32, shr_nat, b32_nat]
 have : ((((v &&& b32 1).toNat : Nat) : Int) = 1) ↔ v.getLsbD 0 = true := by
  have e1 : b32 1 = 1#32 := by decide
  rw [e1]
  have : (v &&& 1#32).toNat = v.toNat % 2 := by
   rw [BitVec.toNat_and]
   exact Nat.and_one_is_mod _
  rw [this]
  have : v.getLsbD 0 = decide (v.toNat % 2 = 1) := by
   rw [BitVec.getLsbD, Nat.testBit_zero]
  rw [this, decide_eq_true_eq]; omega
 by_cases h : v.getLsbD 0 = true
 ·rw [if_pos (this.2 h), if_pos h, bits_xor32, b32_nat]; rfl
 ·rw [if_neg (fun x => h (this.1 x)), if_neg h]
theorem crcIt_v (n : Nat) : ∀ v : BitVec 32, crcIt n (v.toNat : Int) = ((vIt n v).toNat : Int) := by
 induction n with
 | zero => intro v; rfl
 | succ n ih => intro v; unfold crcIt vIt; rw [crcStep_v, ih]
theorem vStep_xor (v w : BitVec 32) : vStep (v ^^^ w) = vStep v ^^^ vStep w := by
 unfold vStep
 have e : (v ^^^ w) >>> 1 = (v >>> 1) ^^^ (w >>> 1) := BitVec.ushiftRight_xor_distrib v w 1
 rw [BitVec.getLsbD_xor, e]
 generalize v >>> 1 = a
 generalize w >>> 1 = b
 generalize 3988292384#32 = P
 cases v.getLsbD 0 <;> cases w.getLsbD 0 <;> simp only [Bool.xor_true, Bool.xor_false, Bool.not_true, Bool.not_false, Bool.false_eq_true, if_true, if_false]
 all_goals
  ext i hi
  simp only [BitVec.getElem_xor]
  cases a[i] <;> cases b[i] <;> cases P[i] <;> rfl
theorem vIt_xor (n : Nat) : ∀ v w : BitVec 32, vIt n (v ^^^ w) = vIt n v ^^^ vIt n w := by
 induction n with
 | zero => intro v w; rfl
 | succ n ih => intro v w; unfold vIt; rw [vStep_xor, ih]
theorem vIt_low (n : Nat) : ∀ v : BitVec 32, (∀ i, i < n → v.getLsbD i = false) → vIt n v = v >>> n := by
 induction n with
 | zero => intro v _; simp [vIt]
 | succ n ih =>
  intro v h
  unfold vIt
  have : vStep v = v >>> 1 := by unfold vStep; rw [h 0 (by omega)]; simp
  rw [this, ih]
  ·rw [← BitVec.shiftRight_add, Nat.add_comm]
  ·intro i hi
   rw [BitVec.getLsbD_ushiftRight]
   have := h (1 + i) (by omega)
   exact this
theorem crc_one (v : BitVec 32) (c : Int) (hc : isByte c) : bits .xor .u32 (crcIt 8 (IntKind.u32.wrap (bits .xor .u8 (IntKind.u8.wrap (v.toNat : Int)) c))) ((v.toNat : Int).fdiv (2 ^ 8)) = crcIt 8 (bits .xor .u32 (v.toNat : Int) (IntKind.u32.wrap c)) := by
 rw [shr_nat, bits_xor8, bits_xor32, bits_xor32]
 obtain ⟨c1, c2⟩ := hc
 have hw : IntKind.u32.wrap c = c := by rw [IntKind.wrap_u32]; omega
 rw [hw]
 have low : (IntKind.u32.wrap ((b8 (IntKind.u8.wrap (v.toNat : Int)) ^^^ b8 c).toNat : Int)) = (((v &&& 255#32) ^^^ b32 c).toNat : Int) := by
  have h1 : (b8 (IntKind.u8.wrap (v.toNat : Int)) ^^^ b8 c).toNat < 256 := (b8 (IntKind.u8.wrap (v.toNat : Int)) ^^^ b8 c).isLt
  rw [IntKind.wrap_u32]
  have h2 : (b8 (IntKind.u8.wrap (v.toNat : Int)) ^^^ b8 c).toNat = ((v &&& 255#32) ^^^ b32 c).toNat := by
   rw [BitVec.toNat_xor, BitVec.toNat_xor, BitVec.toNat_and]
   have e1 : (b8 (IntKind.u8.wrap (v.toNat : Int))).toNat = v.toNat % 256 := by
    simp only [BitVec.toNat_ofInt]; rw [IntKind.wrap_u8]; omega
   have e2 : (b8 c).toNat = c.toNat := by simp only [BitVec.toNat_ofInt]; omega
   have e3 : (b32 c).toNat = c.toNat := by simp only [BitVec.toNat_ofInt]; omega
   have e4 : v.toNat &&& (255#32).toNat = v.toNat % 256 := Nat.and_two_pow_sub_one_eq_mod v.toNat 8
   rw [e1, e2, e3, e4]
  omega
 rw [low, crcIt_v, b32_nat, b32_nat, b32_nat, crcIt_v]
 congr 1
 have split : v ^^^ b32 c = ((v &&& 255#32) ^^^ b32 c) ^^^ (v &&& ~~~ 255#32) := by
  ext i hi
  simp only [BitVec.getElem_xor, BitVec.getElem_and, BitVec.getElem_not]
  cases v[i] <;> cases (b32 c)[i] <;> cases (255#32)[i] <;> rfl
 rw [split, vIt_xor 8 (v &&& 255#32 ^^^ b32 c) (v &&& ~~~ 255#32)]
 congr 1
 have hb : ∀ i, i < 8 → (v &&& ~~~ 255#32).getLsbD i = false := by
  intro i hi
  have : (~~~ 255#32).getLsbD i = false := by
   have : ∀ i, i < 8 → (~~~ 255#32).getLsbD i = false := by decide
   exact this i hi
  rw [BitVec.getLsbD_and, this, Bool.and_false]
 rw [vIt_low 8 _ hb]
 congr 1
 ext i hi
 simp only [BitVec.getElem_ushiftRight, BitVec.getLsbD_and]
 have : ∀ j, j < 32 → (~~~ 255#32).getLsbD j = decide (8 ≤ j) := by decide
 by_cases hj : 8 + i < 32
 ·rw [this _ hj]; simp
 ·rw [BitVec.getLsbD_of_ge _ _ (by omega)]; simp
def crcF (x : Int) (c : Int) : Int := bits .xor .u32 (crcIt 8 (IntKind.u32.wrap (bits .xor .u8 (IntKind.u8.wrap x) c))) (x.fdiv (2 ^ 8))
def crcG (x : Int) (c : Int) : Int := crcIt 8 (bits .xor .u32 x (IntKind.u32.wrap c))
theorem crcFG {x c : Int} (hx : is32 x) (hc : isByte c) : crcF x c = crcG x c ∧ is32 (crcG x c) := by
 have e := of32 hx
 have := crc_one (b32 x) c hc
 rw [e] at this
 refine ⟨this, ?_⟩
 unfold crcG
 rw [bits_xor32, crcIt_v]
 exact is32_nat _
def crcM (bs : List Int) : Int := bits .xor .u32 4294967295 (bs.foldl crcG 4294967295)
theorem crc_fold (bs : List Int) (hb : bytesOk bs) : ∀ x, is32 x → bs.foldl crcF x = bs.foldl crcG x := by
 induction bs with
 | nil => intro x _; rfl
 | cons c r ih =>
  intro x hx
  obtain ⟨e1, e2⟩ := crcFG hx (hb c (by simp))
  rw [List.foldl_cons, List.foldl_cons, e1]
  exact ih (fun n hn => hb n (by simp [hn])) _ e2
theorem crcM_is (bs : List Int) : is32 (crcM bs) := by unfold crcM; rw [bits_xor32]; exact is32_nat _

/-! ### Numbers of eight bytes -/
abbrev b64 (x : Int) : BitVec 64 := BitVec.ofInt 64 x
theorem wrap_u64' (n : Int) : IntKind.u64.wrap n = n % 18446744073709551616 := by simp [IntKind.wrap, IntKind.bits, IntKind.signed]
theorem b64_nat (v : BitVec 64) : b64 (v.toNat : Int) = v := by simp [b64]
theorem or_u64 (x y : Int) : b64 (bits .or .u64 x y) = b64 x ||| b64 y := by
 have : bits .or .u64 x y = IntKind.u64.wrap ((b64 x ||| b64 y).toNat : Int) := rfl
 rw [this]
 have h := (b64 x ||| b64 y).isLt
 have : IntKind.u64.wrap ((b64 x ||| b64 y).toNat : Int) = ((b64 x ||| b64 y).toNat : Int) := by rw [wrap_u64']; omega
 rw [this, b64_nat]
theorem wrap_b64u (x : Int) : b64 (IntKind.u64.wrap x) = b64 x := by
 apply BitVec.eq_of_toNat_eq
 simp only [BitVec.toNat_ofInt]
 rw [wrap_u64']; omega
theorem wrap_b64i (x : Int) : b64 (IntKind.i64.wrap x) = b64 x := by
 apply BitVec.eq_of_toNat_eq
 simp only [BitVec.toNat_ofInt]
 rw [IntKind.wrap_i64]; omega
theorem or_i64 (x y : Int) : b64 (bits .or .i64 x y) = b64 x ||| b64 y := by
 have : bits .or .i64 x y = IntKind.i64.wrap ((b64 x ||| b64 y).toNat : Int) := rfl
 rw [this, wrap_b64i, b64_nat]
theorem wrap_of_b64 {x y : Int} (h : b64 x = b64 y) : IntKind.i64.wrap x = IntKind.i64.wrap y := by
 have h2 := congrArg BitVec.toNat h
 simp only [BitVec.toNat_ofInt] at h2
 rw [IntKind.wrap_i64, IntKind.wrap_i64]; omega
def gotU (l : List Int) : Nat → Int
 | 0 => 0
 | n + 1 => bits .or .u64 (gotU l n) (IntKind.u64.wrap (IntKind.u64.wrap (l.getD n 0) * 2 ^ (8 * n)))
def gotI (l : List Int) : Nat → Int
 | 0 => 0
 | n + 1 => bits .or .i64 (gotI l n) (IntKind.i64.wrap (IntKind.i64.wrap (l.getD n 0) * 2 ^ (8 * n)))
theorem got_b (l : List Int) (hb : bytesOk l) (n : Nat) : b64 (gotU l n) = b64 (gotI l n) := by
 induction n with
 | zero => rfl
 | succ n ih =>
  unfold gotU gotI
  rw [or_u64, or_i64, ih, wrap_b64u, wrap_b64i]
  have : isByte (l.getD n 0) := by
   rw [List.getD_eq_getElem?_getD]
   cases e : l[n]? with
   | none => exact ⟨by decide, by decide⟩
   | some v => exact hb v (List.mem_iff_getElem?.2 ⟨n, e⟩)
  obtain ⟨h1, h2⟩ := this
  have e1 : IntKind.u64.wrap (l.getD n 0) = l.getD n 0 := by rw [wrap_u64']; omega
  have e2 : IntKind.i64.wrap (l.getD n 0) = l.getD n 0 := by rw [IntKind.wrap_i64]; omega
  rw [e1, e2]
theorem gotI_range (l : List Int) (n : Nat) : IntKind.i64.wrap (gotI l n) = gotI l n := by
 cases n with
 | zero => exact (by decide : IntKind.i64.wrap 0 = 0)
 | succ n =>
  unfold gotI
  have : ∀ x y, IntKind.i64.wrap (bits .or .i64 x y) = bits .or .i64 x y := by
   intro x y
   have : bits .or .i64 x y = IntKind.i64.wrap ((b64 x ||| b64 y).toNat : Int) := rfl
   rw [this, IntKind.wrap_i64, IntKind.wrap_i64]; omega
  exact this _ _
theorem got_eq (l : List Int) (hb : bytesOk l) (n : Nat) : IntKind.i64.wrap (gotU l n) = gotI l n := by
 rw [wrap_of_b64 (got_b l hb n), gotI_range]
end Go.Proofs.YteedolonhdbieaaGreatDoor

/- Contracts of sums, rails and cells. Own work. -/
set_option maxRecDepth 100000
set_option linter.unusedVariables false
namespace Go.Proofs.YteedolonhdbieaaGreatDoor
open Go Go.Vc

section
variable {h0 h : H} {A : List Ent} {i j p r b : Nat} {C : Cm}
theorem max32 : (if IntKind.u32.signed = true then (-1 : Int) else IntKind.u32.max) = 4294967295 := by decide
theorem max8 : (if IntKind.u8.signed = true then (-1 : Int) else IntKind.u8.max) = 255 := by decide
theorem Sat.tab_to {N : Nat} {f g : Nat → Int} {k : IntKind} (hs : Sat h0 (blk b (ints k (tab N f)) :: A) h) (e : ∀ i, i < N → f i = g i) : Sat h0 (blk b (ints k (tab N g)) :: A) h := by
 rw [← tab_ext e]; exact hs
theorem Sat.part (hs : Sat h0 A h) {ms xs : List Int} {k : IntKind} (m : At A i (blk b (ints k ms))) (o : Nat) (e : (ms.drop o).take xs.length = xs) : hsv h (some ⟨b, o, none⟩) 1 xs.length (ints k xs) := by
 refine ⟨by simp, ints_one _ _, Or.inr ⟨_, rfl, hs.cs m ?_⟩⟩
 rw [ints_length]
 unfold ints
 rw [← List.map_drop, ← List.map_take, e]
theorem hsv_int {p : Option Addr} {l : Nat} {k : IntKind} {ns : List Int} {x : Nat} (rd : hsv h p 1 l (ints k ns)) (hx : x < l) : ∃ q, p = some q ∧ hc h (q.add x) = some (.int k (ns.getD x 0)) := by
 have hl : ns.length = l := by have := rd.1; simpa using this
 obtain ⟨q, hq, g⟩ := hsv_get rd (i := x) (v := .int k (ns.getD x 0)) (by rw [ints_get, List.getElem?_eq_getElem (by omega)]; simp [List.getD, List.getElem?_eq_getElem (show x < ns.length by omega)])
 exact ⟨q, hq, g⟩
theorem eight_sp {Q : Int → H → Prop} {x : Int} (hs : Sat h0 A h) (k : ∀ h', Sat h0 A h' → Q (crcIt 8 (IntKind.u32.wrap x)) h') : F_crc_eight x Q h := by
 unfold F_crc_eight G_crc_eight
 intro J hJ
 generalize hR : crcIt 8 (IntKind.u32.wrap x) = R at k
 refine loop_st 8 (fun n (y : Int) => [.dv (.one (.int .u32 y)), .dv (.one (.int .i64 (n : Int)))]) (fun n y h => Sat h0 A h ∧ crcIt (8 - n) y = R) ?_ ?_ 0 _ _ (by omega) ⟨hs, hR⟩
 ·rintro n y h1 hn ⟨hs, hy⟩ hk
  apply hJ
  rw [ltI_eq, if_pos (by simp; omega)]
  refine ⟨by decide, ?_⟩
  obtain ⟨m, hm⟩ : ∃ m, 8 - n = m + 1 := ⟨7 - n, by omega⟩
  rw [hm] at hy
  unfold crcIt crcStep at hy
  rw [wrap_succ (by omega)]
  split
  ·rename_i h2
   intro _ e; subst e
   refine hk _ _ ⟨hs, ?_⟩
   rw [if_pos (by simpa using h2)] at hy
   rw [show 8 - (n + 1) = m by omega]; exact hy
  ·rename_i h2
   refine hk _ _ ⟨hs, ?_⟩
   rw [if_neg (by simpa using h2)] at hy
   rw [show 8 - (n + 1) = m by omega]; exact hy
 ·rintro y h1 ⟨hs, hy⟩
  apply hJ
  rw [ltI_eq, if_neg (by simp)]
  have hy : y = R := hy
  rw [hy]
  exact k _ hs
theorem getD_snoc (bs : List Int) (n : Nat) (hn : n < bs.length) (f : Int → Int → Int) (x : Int) : (bs.take (n + 1)).foldl f x = f ((bs.take n).foldl f x) (bs.getD n 0) := by
 rw [List.take_succ, List.foldl_append]
 simp [List.getElem?_eq_getElem hn]
theorem Write_sp {Q : H → Prop} {t : Int} {s : Nat} {q : Option Addr} {l c : Nat} {bs : List Int} (hs : Sat h0 A h) (m : At A i (blk s [.int .u32 t])) (rd : ∀ h', Sat h0 A h' → hsv h' q 1 l (ints .u8 bs)) (hl : l < 2 ^ 62)
  (k : ∀ h', Sat h0 (put A i (blk s [.int .u32 (bits .xor .u32 4294967295 (bs.foldl crcF (bits .xor .u32 4294967295 t)))])) h' → Q h') : F_crc_Sum_Write ⟨s, 0, none⟩ q l c Q h := by
 unfold F_crc_Sum_Write G_crc_Sum_Write
 simp only [max32]
 refine ⟨_, hs.ld m rfl, ?_⟩
 have hbl : bs.length = l := by have := (rd _ hs).1; simpa using this
 intro J hJ
 refine loop_st l (fun n (_ : Unit) => [.dv (.one (.int .u32 ((bs.take n).foldl crcF (bits .xor .u32 4294967295 t)))), .dv (.one (.int .i64 (n : Int)))]) (fun n _ h => Sat h0 A h) ?_ ?_ 0 () _ (by omega) hs
 ·intro n _ h1 hn hs hk
  apply hJ
  rw [ltI_eq, if_pos (by simp; omega)]
  obtain ⟨q', hq, g⟩ := hsv_int (rd _ hs) hn
  refine ⟨_, hq, by omega, by omega, _, by rw [Int.toNat_natCast, Nat.mul_one]; exact g, ?_⟩
  refine eight_sp hs ?_
  intro h2 hs
  refine ⟨by decide, ?_⟩
  have := hk () _ hs
  rw [getD_snoc bs n (by omega)] at this
  rw [wrap_succ (by omega)]
  exact this
 ·intro _ h1 hs
  apply hJ
  rw [ltI_eq, if_neg (by simp), List.take_of_length_le (by omega)]
  refine ⟨hs.can m (by simp), ?_⟩
  intro h2 e
  exact k _ (hs.wr m e)
theorem crcOf_sp {Q : Int → H → Prop} {q : Option Addr} {l c : Nat} {bs : List Int} (hs : Sat h0 A h) (rd : ∀ h', Sat h0 A h' → hsv h' q 1 l (ints .u8 bs)) (hb : bytesOk bs) (hl : l < 2 ^ 62)
  (k : ∀ h', Sat h0 A h' → Q (crcM bs) h') : F_crc_Of q l c Q h := by
 unfold F_crc_Of G_crc_Of F_crc_New G_crc_New
 intro n1 _ hn; replace hs := Sat.new hs hn; clear hn
 refine ⟨_, rfl, ?_⟩
 refine Write_sp hs .z (fun h' hs' => rd h' hs'.drop) hl ?_
 intro h1 hs
 refine ⟨_, rfl, ?_⟩
 unfold F_crc_Sum_Sum G_crc_Sum_Sum
 refine ⟨_, hs.ld (.z) rfl, ?_⟩
 have e0 : bits .xor .u32 4294967295 0 = 4294967295 := by decide
 rw [e0, crc_fold bs hb _ ⟨by decide, by decide⟩]
 exact k _ hs.drop
theorem step8_eq {n : Nat} (h : n < 8) : min (IntKind.i64.wrap (8 * (n : Int))).toNat 64 = 8 * n := by
 rw [wrap_id (by omega)]; omega
theorem put_sp {Q : H → Prop} {N o l c : Nat} {f : Nat → Int} (x : Int) (hs : Sat h0 A h) (m : At A i (blk b (ints .u8 (tab N f)))) (hl : l ≤ 8) (ho : o + l ≤ N)
  (k : ∀ h', Sat h0 (put A i (blk b (ints .u8 (tab N fun k => if o ≤ k ∧ k < o + l then byteAt x (k - o) else f k)))) h' → Q h') : F_cell_put (some ⟨b, o, none⟩) l c x Q h := by
 unfold F_cell_put G_cell_put
 intro J hJ
 refine loop_up l (fun n h => Sat h0 (put A i (blk b (ints .u8 (tab N fun k => if o ≤ k ∧ k < o + n then byteAt x (k - o) else f k)))) h) ?_ ?_ 0 _ (by omega) ?_
 ·intro n h1 hn hs hk
  apply hJ
  rw [ltI_eq, if_pos (by simp; omega)]
  rw [step8_eq (by omega)]
  refine ⟨by rw [wrap_id (by omega)]; omega, _, rfl, by omega, by omega, ?_⟩
  rw [Int.toNat_natCast, Nat.mul_one, add_mk]
  refine ⟨hs.can (m.put _) (by simp; omega), ?_⟩
  intro h2 e
  replace hs := hs.wr (m.put _) e
  rw [put_put, ints_tab_set] at hs
  rw [wrap_succ (by omega)]
  refine hk _ ?_
  have : (tab N fun k => if o ≤ k ∧ k < o + (n + 1) then byteAt x (k - o) else f k) = tab N (fun i => if i = o + n then IntKind.u8.wrap (x.fdiv (2 ^ (8 * n))) else if o ≤ i ∧ i < o + n then byteAt x (i - o) else f i) := by
   apply tab_ext
   intro i hi
   by_cases e : i = o + n
   ·rw [if_pos e, if_pos (by omega), e, Nat.add_sub_cancel_left]; rfl
   ·rw [if_neg e]
    by_cases e2 : o ≤ i ∧ i < o + n
    ·rw [if_pos e2, if_pos (by omega)]
    ·rw [if_neg e2, if_neg (by omega)]
  rw [this]; exact hs
 ·intro h1 hs
  apply hJ
  rw [ltI_eq, if_neg (by simp)]
  exact k _ hs
 ·have : (tab N fun k => if o ≤ k ∧ k < o + 0 then byteAt x (k - o) else f k) = tab N f := tab_ext fun i _ => if_neg (by omega)
  rw [this, m.put_self]; exact hs
theorem got_sp {Q : Int → H → Prop} {q : Option Addr} {l c : Nat} {bs : List Int} (hs : Sat h0 A h) (rd : ∀ h', Sat h0 A h' → hsv h' q 1 l (ints .u8 bs)) (hl : l ≤ 8) (k : ∀ h', Sat h0 A h' → Q (gotU bs l) h') : F_cell_got q l c Q h := by
 unfold F_cell_got G_cell_got
 intro J hJ
 refine loop_st l (fun n (_ : Unit) => [.dv (.one (.int .u64 (gotU bs n))), .dv (.one (.int .i64 (n : Int)))]) (fun n _ h => Sat h0 A h) ?_ ?_ 0 () _ (by omega) hs
 ·intro n _ h1 hn hs hk
  apply hJ
  rw [ltI_eq, if_pos (by simp; omega)]
  obtain ⟨q', hq, g⟩ := hsv_int (rd _ hs) hn
  refine ⟨_, hq, by omega, by omega, _, by rw [Int.toNat_natCast, Nat.mul_one]; exact g, by rw [wrap_id (by omega)]; omega, ?_⟩
  rw [step8_eq (by omega), wrap_succ (by omega)]
  exact hk () _ hs
 ·intro _ h1 hs
  apply hJ
  rw [ltI_eq, if_neg (by simp)]
  exact k _ hs
theorem flat_bytes (n : Nat) : (List.replicate n [Value.int .u8 0]).flatten = ints .u8 (tab n fun _ => 0) := by
 rw [← zeros_tab]; simp [ints, zeros]
theorem railPut_sp {Q : Option Addr → Nat → Nat → H → Prop} {q : Option Addr} {l c : Nat} {bs : List Int} (hs : Sat h0 A h) (rd : ∀ h', Sat h0 A h' → hsv h' q 1 l (ints .u8 bs)) (hl : l ≤ 2 ^ 40)
  (k : ∀ n h', Sat h0 (blk n (ints .u8 (tab (2 * l) fun k => if k < l then bs.getD k 0 else compl8 (bs.getD (k - l) 0))) :: A) h' → Q (some ⟨n, 0, none⟩) (2 * l) (2 * l) h') : F_rail_Put q l c Q h := by
 unfold F_rail_Put G_rail_Put
 have e1 : IntKind.i64.wrap (2 * (l : Int)) = ((2 * l : Nat) : Int) := by rw [wrap_id (by omega)]; omega
 simp only [e1, max8, Int.toNat_natCast]
 refine ⟨by omega, by omega, by omega, by omega, ?_⟩
 intro n1 _ hn
 rw [flat_bytes] at hn
 replace hs := Sat.new hs hn; clear hn
 unfold F_rail_halves G_rail_halves
 have e2 : IntKind.i64.wrap ((((2 * l : Nat) : Int)).tdiv 2) = (l : Int) := by rw [Int.tdiv_eq_ediv_of_nonneg (by omega), wrap_id (by omega)]; omega
 simp only [e2, e1, Int.toNat_natCast]
 refine ⟨by decide, by omega, by omega, by omega, by omega, by omega, by omega, by omega, ?_⟩
 have hbl : bs.length = l := by have := (rd _ hs.drop).1; simpa using this
 intro J hJ
 have a1 : 0 < l → subAddr (some ⟨n1, 0, none⟩) 0 l 1 = some ⟨n1, 0, none⟩ := by
  intro h; unfold subAddr; rw [if_neg (by omega)]; simp [add_mk]
 have a2 : 0 < l → subAddr (some ⟨n1, 0, none⟩) l (2 * l) 1 = some ⟨n1, l, none⟩ := by
  intro h; unfold subAddr; rw [if_neg (by omega)]; simp [add_mk]
 refine loop_up l (fun n h => Sat h0 (blk n1 (ints .u8 (tab (2 * l) fun k => if k < n then bs.getD k 0 else if l ≤ k ∧ k < l + n then compl8 (bs.getD (k - l) 0) else 0)) :: A) h) ?_ ?_ 0 _ (by omega) ?_
 ·intro n h1 hn hs hk
  apply hJ
  rw [ltI_eq, if_pos (by simp; omega)]
  obtain ⟨q', hq, g⟩ := hsv_int (rd _ hs.drop) hn
  refine ⟨_, hq, by omega, by omega, _, by rw [Int.toNat_natCast, Nat.mul_one]; exact g, ?_⟩
  refine ⟨_, hq, by omega, by omega, _, by rw [Int.toNat_natCast, Nat.mul_one]; exact g, ?_⟩
  refine ⟨_, a1 (by omega), by omega, by omega, ?_⟩
  rw [Int.toNat_natCast, Nat.mul_one, add_mk]
  refine ⟨hs.can .z (by simp; omega), ?_⟩
  intro h2 e
  replace hs := hs.wr .z e
  rw [put_zero, ints_tab_set] at hs
  refine ⟨_, a2 (by omega), by omega, by omega, ?_⟩
  rw [add_mk]
  refine ⟨hs.can .z (by simp; omega), ?_⟩
  intro h3 e
  replace hs := hs.wr .z e
  rw [put_zero, ints_tab_set] at hs
  rw [wrap_succ (by omega)]
  refine hk _ ?_
  refine Sat.tab_to hs fun i hi => ?_
  by_cases e : i = l + n
  ·rw [if_pos e, if_neg (by omega), if_pos (by omega), e, Nat.add_sub_cancel_left]; rfl
  ·rw [if_neg e]
   by_cases e2 : i = 0 + n
   ·rw [if_pos e2, if_pos (by omega), show i = n by omega]
   ·rw [if_neg e2]
    by_cases e3 : i < n
    ·rw [if_pos e3, if_pos (by omega)]
    ·rw [if_neg e3]
     by_cases e4 : l ≤ i ∧ i < l + n
     ·rw [if_pos e4, if_neg (show ¬ i < n + 1 by omega), if_pos (show l ≤ i ∧ i < l + (n + 1) by omega)]
     ·rw [if_neg e4, if_neg (show ¬ i < n + 1 by omega), if_neg (show ¬ (l ≤ i ∧ i < l + (n + 1)) by omega)]
 ·intro h1 hs
  apply hJ
  rw [ltI_eq, if_neg (by simp)]
  refine k _ _ ?_
  refine Sat.tab_to hs fun i hi => ?_
  by_cases e : i < l
  ·rw [if_pos e, if_pos e]
  ·rw [if_neg e, if_neg e, if_pos (by omega)]
 ·refine Sat.tab_to hs fun i hi => ?_
  rw [if_neg (by omega), if_neg (by omega)]
def bodyF (kind slot n : Int) (k : Nat) : Int := if k = 0 then kind else if k = 1 then IntKind.u8.wrap slot else if k < 4 then 0 else if k < 12 then byteAt (IntKind.u64.wrap n) (k - 4) else 0
def bodyM (kind slot n : Int) (k : Nat) : Int := if 12 ≤ k then byteAt (crcM (tab 12 (bodyF kind slot n))) (k - 12) else bodyF kind slot n k
def laidM (kind slot n : Int) : List Int := tab 32 fun k => if k < 16 then bodyM kind slot n k else compl8 (bodyM kind slot n (k - 16))
theorem bodyF_byte {kind slot n : Int} (hk : isByte kind) (k : Nat) : isByte (bodyF kind slot n k) := by
 unfold bodyF
 repeat' split
 ·exact hk
 ·exact wrap_u8_byte _
 ·exact ⟨by decide, by decide⟩
 ·exact wrap_u8_byte _
 ·exact ⟨by decide, by decide⟩
theorem tab_bytes {n : Nat} {f : Nat → Int} (h : ∀ k, isByte (f k)) : bytesOk (tab n f) := by
 intro x hx
 simp only [tab, List.mem_map] at hx
 obtain ⟨k, _, rfl⟩ := hx
 exact h k
theorem laid_sp {Q : List Int → H → Prop} (kind slot n : Int) (hk : isByte kind) (hs : Sat h0 A h) (k : ∀ h', Sat h0 A h' → Q (laidM kind slot n) h') : F_cell_laid kind slot n Q h := by
 unfold F_cell_laid G_cell_laid
 try simp only [add_mk, Nat.zero_add, List.append_nil]
 intro n1 _ hn; replace hs := Sat.new hs hn; clear hn
 intro n2 _ hn; replace hs := Sat.new hs hn; clear hn
 (refine ⟨Sat.can hs (by (repeat (first | exact At.z | apply At.s))) (by simp), ?_⟩; intro _ e; replace hs := Sat.wra hs (by (repeat (first | exact At.z | apply At.s))) e (by simp [*]); clear e; simp only [put] at hs)
 have e0 : [kind, IntKind.u8.wrap slot, 0, 0, 0, 0, 0, 0, 0, 0, 0, 0, 0, 0, 0, 0] = tab 16 (fun k => if k = 0 then kind else if k = 1 then IntKind.u8.wrap slot else 0) := rfl
 rw [e0] at hs
 refine ⟨by decide, by decide, by decide, ?_⟩
 rw [show subAddr (some ⟨n2, 0, none⟩) 4 16 1 = some ⟨n2, 4, none⟩ from rfl]
 refine put_sp (IntKind.u64.wrap n) hs .z (by decide) (by decide) ?_
 intro h1 hs
 rw [put_zero] at hs
 have e1 : (tab 16 fun k => if 4 ≤ k ∧ k < 4 + 8 then byteAt (IntKind.u64.wrap n) (k - 4) else if k = 0 then kind else if k = 1 then IntKind.u8.wrap slot else 0) = tab 16 (bodyF kind slot n) := by
  apply tab_ext
  intro i hi
  unfold bodyF
  by_cases q1 : i = 0
  ·rw [if_neg (by omega), if_pos q1, if_pos q1]
  by_cases q2 : i = 1
  ·rw [if_neg (by omega), if_neg q1, if_pos q2, if_neg q1, if_pos q2]
  rw [if_neg q1, if_neg q2, if_neg q1, if_neg q2]
  by_cases q3 : i < 4
  ·rw [if_neg (by omega), if_pos q3]
  rw [if_neg q3]
  by_cases q4 : i < 12
  ·rw [if_pos (by omega), if_pos q4]
  ·rw [if_neg (by omega), if_neg q4]
 rw [e1] at hs
 refine ⟨by decide, by decide, by decide, by decide, ?_⟩
 have e2 : ((tab 16 (bodyF kind slot n)).drop 0).take (tab 12 (bodyF kind slot n)).length = tab 12 (bodyF kind slot n) := rfl
 refine crcOf_sp (bs := tab 12 (bodyF kind slot n)) hs (fun h' hs' => Sat.part hs' .z 0 e2) (tab_bytes (bodyF_byte hk)) (by decide) ?_
 intro h2 hs
 have e3 : IntKind.u64.wrap (crcM (tab 12 (bodyF kind slot n))) = crcM (tab 12 (bodyF kind slot n)) := by
  obtain ⟨c1, c2⟩ := crcM_is (tab 12 (bodyF kind slot n))
  rw [wrap_u64']; omega
 rw [e3]
 refine put_sp (crcM (tab 12 (bodyF kind slot n))) hs .z (by decide) (by decide) ?_
 intro h3 hs
 rw [put_zero] at hs
 have e4 : (tab 16 fun k => if 12 ≤ k ∧ k < 12 + 4 then byteAt (crcM (tab 12 (bodyF kind slot n))) (k - 12) else bodyF kind slot n k) = tab 16 (bodyM kind slot n) := by
  apply tab_ext
  intro i hi
  unfold bodyM
  by_cases q1 : 12 ≤ i
  ·rw [if_pos (by omega), if_pos q1]
  ·rw [if_neg (by omega), if_neg q1]
 rw [e4] at hs
 intro n3 _ hn; replace hs := Sat.new hs hn; clear hn
 have e5 : ((tab 16 (bodyM kind slot n)).drop 0).take (tab 16 (bodyM kind slot n)).length = tab 16 (bodyM kind slot n) := rfl
 refine railPut_sp (bs := tab 16 (bodyM kind slot n)) hs (fun h' hs' => Sat.part hs' (.s .z) 0 e5) (by decide) ?_
 intro n4 h4 hs
 have e6 : (tab (2 * 16) fun k => if k < 16 then (tab 16 (bodyM kind slot n)).getD k 0 else compl8 ((tab 16 (bodyM kind slot n)).getD (k - 16) 0)) = laidM kind slot n := rfl
 rw [e6] at hs
 have hll : (laidM kind slot n).length = 32 := rfl
 refine ⟨ints .u8 (laidM kind slot n), ⟨by rw [ints_length, hll]; rfl, ints_one _ _, Or.inr ⟨_, rfl, hs.cs .z (by rw [ints_length, hll]; exact List.take_of_length_le (by rw [List.drop_zero, ints_length, hll]; decide))⟩⟩, Or.inr ⟨_, rfl, hs.can (.s .z) (by decide)⟩, ?_⟩
 intro h5 e
 replace hs := Sat.wra hs (.s .z) e (by rw [ints_length, ints_length, hll]; rfl)
 simp only [put] at hs
 refine ⟨_, hll, hs.row0 (.s .z), ?_⟩
 (refine ⟨Sat.can hs (by (repeat (first | exact At.z | apply At.s))) (by simp), ?_⟩; intro _ e; replace hs := Sat.wra hs (by (repeat (first | exact At.z | apply At.s))) e (by simp [*]); clear e; simp only [put] at hs)
 refine ⟨_, hll, hs.row0 (by (repeat (first | exact At.z | apply At.s))), ?_⟩
 exact k _ hs.drop.drop.drop.drop
end
end Go.Proofs.YteedolonhdbieaaGreatDoor

/- Contracts of cells: Head, Value, Blank, Read. Own work. -/
set_option maxRecDepth 100000
set_option linter.unusedVariables false
namespace Go.Proofs.YteedolonhdbieaaGreatDoor
open Go Go.Vc

section
variable {h0 h : H} {A : List Ent} {i j p r b : Nat} {C : Cm}
theorem Sat.whole (hs : Sat h0 A h) {vs : List Value} (m : At A i (blk b vs)) : hcs h ⟨b, 0, none⟩ vs := hs.cs m (by rw [List.drop_zero, List.take_length])
def most : Int := 4611686018427387904
def ffs : List Int := tab 32 fun _ => 255
theorem Blank_sp {Q : List Int → H → Prop} (hs : Sat h0 A h) (k : ∀ h', Sat h0 A h' → Q ffs h') : F_cell_Blank Q h := by
 unfold F_cell_Blank G_cell_Blank
 try simp only [add_mk, Nat.zero_add, List.append_nil]
 intro n1 _ hn; replace hs := Sat.new hs hn; clear hn
 intro n2 _ hn; replace hs := Sat.new hs hn; clear hn
 rw [zeros_tab] at hs
 intro J hJ
 refine loop_up 32 (fun n h => Sat h0 (blk n2 (ints .u8 (tab 32 fun i => if i < n then 255 else 0)) :: blk n1 (ints .u8 (tab 32 fun _ => 0)) :: A) h) ?_ ?_ 0 _ (by omega) ?_
 ·intro n h1 hn hs hk
  apply hJ
  rw [ltI_eq, if_pos (by simp; omega)]
  refine ⟨by omega, by omega, ?_⟩
  rw [Int.toNat_natCast, Nat.mul_one]
  refine ⟨hs.can .z (by simp; omega), ?_⟩
  intro h2 e
  replace hs := hs.wr .z e
  rw [put_zero, ints_tab_set] at hs
  rw [wrap_succ (by omega)]
  refine hk _ (Sat.tab_to hs fun i hi => ?_)
  by_cases e : i = n
  ·rw [if_pos e, if_pos (by omega)]
  ·rw [if_neg e]
   by_cases e2 : i < n
   ·rw [if_pos e2, if_pos (by omega)]
   ·rw [if_neg e2, if_neg (by omega)]
 ·intro h1 hs
  apply hJ
  rw [ltI_eq, if_neg (by simp)]
  replace hs := Sat.tab_to (g := fun _ => 255) hs fun i hi => if_pos hi
  refine ⟨ffs, rfl, hs.row0 .z, ?_⟩
  have hll : ffs.length = 32 := rfl
  (refine ⟨Sat.can hs (by (repeat (first | exact At.z | apply At.s))) (by simp), ?_⟩; intro _ e; replace hs := Sat.wra hs (by (repeat (first | exact At.z | apply At.s))) e (by simp [*]); clear e; simp only [put] at hs)
  refine ⟨_, hll, hs.row0 (by (repeat (first | exact At.z | apply At.s))), ?_⟩
  exact k _ hs.drop.drop
 ·exact Sat.tab_to hs fun i hi => (if_neg (by omega)).symm
def recM (x : List Int) : Int × Int × Int :=
 if x = ffs then (0, 0, 0)
 else if gotI ((x.drop 4).take 8) 8 < 1 then (3, 0, 0)
 else if most < gotI ((x.drop 4).take 8) 8 then (3, 0, 0)
 else if x.getD 0 0 = 1 ∧ x = laidM 1 0 (gotI ((x.drop 4).take 8) 8) then (1, 0, gotI ((x.drop 4).take 8) 8)
 else if x.getD 0 0 = 2 ∧ x.getD 1 0 ≤ 8 ∧ x = laidM 2 (x.getD 1 0) (gotI ((x.drop 4).take 8) 8) then (2, x.getD 1 0, gotI ((x.drop 4).take 8) 8)
 else (3, 0, 0)
theorem Read3_sp {Q : Int → Int → Int → H → Prop} (x : List Int) (hx : x.length = 32) (hb : bytesOk x) (hs : Sat h0 A h) (k : ∀ h', Sat h0 A h' → Q (recM x).1 (recM x).2.1 (recM x).2.2 h') : F_cell_Read x Q h := by
 unfold F_cell_Read G_cell_Read
 try simp only [add_mk, Nat.zero_add, List.append_nil]
 intro n1 _ hn; replace hs := Sat.new hs hn; clear hn
 intro n2 _ hn; replace hs := Sat.new hs hn; clear hn
 refine ⟨by decide, by decide, by decide, ?_⟩
 rw [show subAddr (some ⟨n1, 0, none⟩) 4 32 1 = some ⟨n1, 4, none⟩ from rfl]
 have el : ((x.drop 4).take 8).length = 8 := by simp [hx]
 have e2 : (x.drop 4).take ((x.drop 4).take 8).length = (x.drop 4).take 8 := by rw [el]
 have hsub : bytesOk ((x.drop 4).take 8) := fun v hv => hb v (List.mem_of_mem_drop (List.mem_of_mem_take hv))
 refine got_sp (bs := (x.drop 4).take 8) hs (fun h' hs' => by
  have := Sat.part hs' (.s .z) 4 e2
  rw [el] at this; exact this) (by decide) ?_
 intro h1 hs
 unfold recM at k
 have eg := got_eq ((x.drop 4).take 8) hsub 8
 rw [eg]
 generalize gotI ((x.drop 4).take 8) 8 = g at k
 have x0 := hb (x.getD 0 0) (by rw [List.getD_eq_getElem?_getD, List.getElem?_eq_getElem (by omega)]; exact List.getElem_mem _)
 have x1 := hb (x.getD 1 0) (by rw [List.getD_eq_getElem?_getD, List.getElem?_eq_getElem (by omega)]; exact List.getElem_mem _)
 have g0 : (ints .u8 x)[0]? = some (.int .u8 (x.getD 0 0)) := by rw [ints_get, List.getElem?_eq_getElem (by omega)]; simp [List.getD, List.getElem?_eq_getElem (show 0 < x.length by omega)]
 have g1 : (ints .u8 x)[1]? = some (.int .u8 (x.getD 1 0)) := by rw [ints_get, List.getElem?_eq_getElem (by omega)]; simp [List.getD, List.getElem?_eq_getElem (show 1 < x.length by omega)]
 refine ⟨by decide, by decide, _, hs.ld (.s .z) g1, x, hx, hs.row0 (.s .z), ?_⟩
 have ew1 : IntKind.i64.wrap (x.getD 1 0) = x.getD 1 0 := by obtain ⟨q1, q2⟩ := x1; rw [wrap_id (by omega)]
 rw [ew1]
 refine Blank_sp hs ?_
 intro h2 hs
 refine ⟨Sat.whole hs (.s .z), ?_⟩
 by_cases c1 : x = ffs
 ·rw [if_pos c1] at k
  rw [if_pos (by rw [c1]; simp)]
  (refine ⟨Sat.can hs (by (repeat (first | exact At.z | apply At.s))) (by simp), ?_⟩; intro _ e; replace hs := Sat.wra hs (by (repeat (first | exact At.z | apply At.s))) e (by simp [*]); clear e; simp only [put] at hs)
  refine ⟨_, Sat.ld hs (by (repeat (first | exact At.z | apply At.s))) (by rfl), ?_⟩
  refine ⟨_, Sat.ld hs (by (repeat (first | exact At.z | apply At.s))) (by rfl), ?_⟩
  refine ⟨_, Sat.ld hs (by (repeat (first | exact At.z | apply At.s))) (by rfl), ?_⟩
  exact k _ hs.drop.drop
 rw [if_neg c1] at k
 rw [if_neg (by simpa using c1)]
 intro J hJ
 have torn : ∀ (bb : Bool), (bb = true → g < 1 ∨ most < g) → (bb = false → ¬ g < 1 ∧ ¬ most < g) → J [.dv (.one (.bool bb))] h2 := by
  intro bb b1 b2
  apply hJ
  by_cases c2 : bb = true
  ·rw [if_pos c2]
   (refine ⟨Sat.can hs (by (repeat (first | exact At.z | apply At.s))) (by simp), ?_⟩; intro _ e; replace hs := Sat.wra hs (by (repeat (first | exact At.z | apply At.s))) e (by simp [*]); clear e; simp only [put] at hs)
   refine ⟨_, Sat.ld hs (by (repeat (first | exact At.z | apply At.s))) (by rfl), ?_⟩
   refine ⟨_, Sat.ld hs (by (repeat (first | exact At.z | apply At.s))) (by rfl), ?_⟩
   refine ⟨_, Sat.ld hs (by (repeat (first | exact At.z | apply At.s))) (by rfl), ?_⟩
   rcases b1 c2 with b1 | b1
   ·rw [if_pos b1] at k
    exact k _ hs.drop.drop
   ·rw [if_neg (by unfold most at b1; omega), if_pos b1] at k
    exact k _ hs.drop.drop
  rw [if_neg c2]
  obtain ⟨b3, b4⟩ := b2 (by simpa using c2)
  rw [if_neg b3, if_neg b4] at k
  intro J2 hJ2
  have two : ∀ (cc : Bool), (cc = true ↔ x.getD 0 0 = 1 ∧ x = laidM 1 0 g) → ∀ h3, Sat h0 (blk n2 [.int .i64 0, .int .i64 0, .int .i64 0] :: blk n1 (ints .u8 x) :: A) h3 → J2 [.dv (.one (.bool cc))] h3 := by
   intro cc c3 h3 hs
   apply hJ2
   by_cases c4 : cc = true
   ·rw [if_pos c4]
    rw [if_pos (c3.1 c4)] at k
    (refine ⟨Sat.can hs (by (repeat (first | exact At.z | apply At.s))) (by simp), ?_⟩; intro _ e; replace hs := Sat.wra hs (by (repeat (first | exact At.z | apply At.s))) e (by simp [*]); clear e; simp only [put] at hs)
    refine ⟨_, Sat.ld hs (by (repeat (first | exact At.z | apply At.s))) (by rfl), ?_⟩
    refine ⟨_, Sat.ld hs (by (repeat (first | exact At.z | apply At.s))) (by rfl), ?_⟩
    refine ⟨_, Sat.ld hs (by (repeat (first | exact At.z | apply At.s))) (by rfl), ?_⟩
    exact k _ hs.drop.drop
   rw [if_neg c4]
   rw [if_neg (fun y => c4 (c3.2 y))] at k
   refine ⟨by decide, by decide, _, hs.ld (.s .z) g0, ?_⟩
   by_cases c5 : x.getD 0 0 = 2
   case neg =>
    rw [if_neg (fun y => c5 y.1)] at k
    rw [if_neg (by rw [beq_iff_eq]; exact c5)]
    (refine ⟨Sat.can hs (by (repeat (first | exact At.z | apply At.s))) (by simp), ?_⟩; intro _ e; replace hs := Sat.wra hs (by (repeat (first | exact At.z | apply At.s))) e (by simp [*]); clear e; simp only [put] at hs)
    refine ⟨_, Sat.ld hs (by (repeat (first | exact At.z | apply At.s))) (by rfl), ?_⟩
    refine ⟨_, Sat.ld hs (by (repeat (first | exact At.z | apply At.s))) (by rfl), ?_⟩
    refine ⟨_, Sat.ld hs (by (repeat (first | exact At.z | apply At.s))) (by rfl), ?_⟩
    exact k _ hs.drop.drop
   rw [if_pos (by rw [beq_iff_eq]; exact c5)]
   by_cases c6 : x.getD 1 0 ≤ 8
   case neg =>
    rw [if_neg (fun y => c6 y.2.1)] at k
    rw [leI_eq, if_neg (by rw [decide_eq_true_eq]; exact c6)]
    (refine ⟨Sat.can hs (by (repeat (first | exact At.z | apply At.s))) (by simp), ?_⟩; intro _ e; replace hs := Sat.wra hs (by (repeat (first | exact At.z | apply At.s))) e (by simp [*]); clear e; simp only [put] at hs)
    refine ⟨_, Sat.ld hs (by (repeat (first | exact At.z | apply At.s))) (by rfl), ?_⟩
    refine ⟨_, Sat.ld hs (by (repeat (first | exact At.z | apply At.s))) (by rfl), ?_⟩
    refine ⟨_, Sat.ld hs (by (repeat (first | exact At.z | apply At.s))) (by rfl), ?_⟩
    exact k _ hs.drop.drop
   rw [leI_eq, if_pos (by rw [decide_eq_true_eq]; exact c6)]
   refine ⟨x, hx, hs.row0 (.s .z), ?_⟩
   refine laid_sp 2 (x.getD 1 0) g ⟨by decide, by decide⟩ hs ?_
   intro h4 hs
   refine ⟨Sat.whole hs (.s .z), ?_⟩
   by_cases c7 : x = laidM 2 (x.getD 1 0) g
   ·rw [if_pos ⟨c5, c6, c7⟩] at k
    rw [if_pos (by rw [beq_iff_eq]; exact c7)]
    clear c7
    (refine ⟨Sat.can hs (by (repeat (first | exact At.z | apply At.s))) (by simp), ?_⟩; intro _ e; replace hs := Sat.wra hs (by (repeat (first | exact At.z | apply At.s))) e (by simp [*]); clear e; simp only [put] at hs)
    refine ⟨_, Sat.ld hs (by (repeat (first | exact At.z | apply At.s))) (by rfl), ?_⟩
    refine ⟨_, Sat.ld hs (by (repeat (first | exact At.z | apply At.s))) (by rfl), ?_⟩
    refine ⟨_, Sat.ld hs (by (repeat (first | exact At.z | apply At.s))) (by rfl), ?_⟩
    exact k _ hs.drop.drop
   ·rw [if_neg (fun y => c7 y.2.2)] at k
    rw [if_neg (by rw [beq_iff_eq]; exact c7)]
    (refine ⟨Sat.can hs (by (repeat (first | exact At.z | apply At.s))) (by simp), ?_⟩; intro _ e; replace hs := Sat.wra hs (by (repeat (first | exact At.z | apply At.s))) e (by simp [*]); clear e; simp only [put] at hs)
    refine ⟨_, Sat.ld hs (by (repeat (first | exact At.z | apply At.s))) (by rfl), ?_⟩
    refine ⟨_, Sat.ld hs (by (repeat (first | exact At.z | apply At.s))) (by rfl), ?_⟩
    refine ⟨_, Sat.ld hs (by (repeat (first | exact At.z | apply At.s))) (by rfl), ?_⟩
    exact k _ hs.drop.drop
  refine ⟨by decide, by decide, _, hs.ld (.s .z) g0, ?_⟩
  by_cases c5 : x.getD 0 0 = 1
  ·rw [if_pos (by rw [beq_iff_eq]; exact c5)]
   refine ⟨x, hx, hs.row0 (.s .z), ?_⟩
   refine laid_sp 1 0 g ⟨by decide, by decide⟩ hs ?_
   intro h4 hs
   refine ⟨Sat.whole hs (.s .z), ?_⟩
   refine two _ ?_ _ hs
   rw [beq_iff_eq]
   exact ⟨fun y => ⟨c5, y⟩, fun y => y.2⟩
  ·rw [if_neg (by rw [beq_iff_eq]; exact c5)]
   exact two _ ⟨fun y => by simp at y, fun y => absurd y.1 c5⟩ _ hs
 by_cases c2 : g < 1
 ·rw [ltI_eq, if_pos (by simpa using c2)]
  exact torn true (fun _ => Or.inl c2) (fun y => by simp at y)
 ·rw [ltI_eq, if_neg (by simpa using c2)]
  intro _ e; subst e
  rw [ltI_eq]
  refine torn _ (fun y => Or.inr (by simpa [most] using y)) (fun y => ⟨c2, by simpa [most] using y⟩)
end
end Go.Proofs.YteedolonhdbieaaGreatDoor

/- Contracts of the document's cells. Own work. -/
set_option maxRecDepth 100000
set_option linter.unusedVariables false
namespace Go.Proofs.YteedolonhdbieaaGreatDoor
open Go Go.Vc

section
variable {h0 h : H} {A : List Ent} {i j p r b : Nat} {C : Cm}
end
end Go.Proofs.YteedolonhdbieaaGreatDoor
end
