/- Slices of slices of bytes. Own work; generic over any program. -/
import Derived.Test.YtamfkofcpoglnaaSl
set_option autoImplicit false
set_option linter.all false
set_option linter.unusedVariables false
namespace Go.Vc

def bools (bs : List Bool) : List Value := bs.map Value.bool
@[simp] theorem bools_length (bs : List Bool) : (bools bs).length = bs.length := by simp [bools]
@[simp] theorem bools_get (bs : List Bool) (i : Nat) : (bools bs)[i]? = bs[i]?.map Value.bool := by simp [bools]
abbrev Sl := Option Addr × Nat × Nat
abbrev Sl.v (s : Sl) : Value := .slice s.1 s.2.1 s.2.2
abbrev sE (s : Sl) (sz : Nat) (vs : List Value) : Ent := slE s.1 s.2.1 s.2.2 sz vs

/-- A row's slice, and its bytes. -/
structure Pg where
  sl : Sl
  bytes : List Int
def Pg.rd (h : H) (sz : Nat) (x : Pg) : Prop := hsv h x.sl.1 sz x.sl.2.1 (ints .u8 x.bytes)
def pgSl (l : List Pg) : List Value := l.map fun x => x.sl.v
def pgBytes (l : List Pg) : List (List Int) := l.map Pg.bytes
def rowsE (sz : Nat) (l : List Pg) : List Ent := l.map fun x => sE x.sl sz (ints .u8 x.bytes)
@[simp] theorem pgSl_length (l : List Pg) : (pgSl l).length = l.length := by simp [pgSl]
@[simp] theorem pgBytes_length (l : List Pg) : (pgBytes l).length = l.length := by simp [pgBytes]

/-- A slice of slices of bytes (sz a element of the inner ones), read only. -/
def RdM (h : H) (sz : Nat) (a : Sl) (rows : List (List Int)) : Prop := ∃ pgs, rows = pgBytes pgs ∧ hsv h a.1 1 a.2.1 (pgSl pgs) ∧ ∀ x, x ∈ pgs → x.rd h sz
/-- A slice of slices of bytes that is owned. -/
def matL (sz : Nat) (a : Sl) (pgs : List Pg) : List Ent := sE a 1 (pgSl pgs) :: rowsE sz pgs
def matE (sz : Nat) (a : Sl) (rows : List (List Int)) : Ent := exE 1 (fun pgs => rows = pgBytes pgs) (matL sz a)
theorem RdM.ext {h h' : H} (x : Ext none_ h h') {sz : Nat} {a : Sl} {rows : List (List Int)} (r : RdM h sz a rows) : RdM h' sz a rows := by
  obtain ⟨pgs, h1, h2, h3⟩ := r
  exact ⟨pgs, h1, hsv_ext x h2 (fun _ _ y => y), fun y hy => hsv_ext x (h3 y hy) (fun _ _ y => y)⟩
theorem RdM.len {h : H} {sz : Nat} {a : Sl} {rows : List (List Int)} (r : RdM h sz a rows) : rows.length = a.2.1 := by
  obtain ⟨pgs, rfl, h2, _⟩ := r
  have := h2.1; simpa using this
/-- The slice of a row, and what it holds. -/
theorem RdM.at {h : H} {sz : Nat} {a : Sl} {rows : List (List Int)} (r : RdM h sz a rows) {j : Nat} (hj : j < rows.length) :
    ∃ q x, a.1 = some q ∧ hc h (q.add (j * 1)) = some (Sl.v x) ∧ hsv h x.1 sz x.2.1 (ints .u8 rows[j]) := by
  obtain ⟨pgs, rfl, h2, h3⟩ := r
  have hj' : j < pgs.length := by simpa using hj
  have e : (pgSl pgs)[j]? = some (pgs[j].sl.v) := by simp [pgSl, hj']
  obtain ⟨q, hq, g⟩ := hsv_get h2 e
  refine ⟨q, pgs[j].sl, hq, by simpa using g, ?_⟩
  have := h3 pgs[j] (List.getElem_mem hj')
  simpa [Pg.rd, pgBytes] using this
theorem Sat.rdM {h0 h : H} {A : List Ent} (hs : Sat h0 A h) {i sz : Nat} {a : Sl} {rows : List (List Int)} (m : At A i (matE sz a rows)) : RdM h sz a rows := by
  obtain ⟨pgs, he, hs⟩ := (hs.front m).open_
  refine ⟨pgs, he, hs.sv (.z), ?_⟩
  intro x hx
  obtain ⟨j, hj⟩ := At.mem (A := rowsE sz pgs) (e := sE x.sl sz (ints .u8 x.bytes)) (List.mem_map_of_mem hx)
  exact hs.sv (.s hj.app)
/-- A row is appended. -/
theorem Sat.app_row {h0 h : H} {A : List Ent} {i sz : Nat} {p : Option Addr} {l c : Nat} {r : Sl} {rows : List (List Int)} {bs : List Int} {K : Option Addr → Nat → Nat → H → Prop}
    (hs : Sat h0 (sE r sz (ints .u8 bs) :: A) h) (m : At A i (matE sz (p, l, c) rows)) (hb : (l + 1) * 24 ≤ 2 ^ 47)
    (k : ∀ p' c' h', Sat h0 (Vc.put A i (matE sz (p', l + 1, c') (rows ++ [bs]))) h' → K p' (l + 1) c' h') : pApp h 1 [.slice none 0 0] 24 p l c 1 [r.v] K := by
  obtain ⟨pgs, he, hs⟩ := (hs.front (m.s)).open_
  have hs : Sat h0 (sE (p, l, c) 1 (pgSl pgs) :: (rowsE sz pgs ++ (sE r sz (ints .u8 bs) :: del A i))) h := hs
  refine hs.app (.z) (by simp) rfl (by intro v hv; simp at hv; subst hv; rfl) hb ?_
  intro p' c' h' hs
  refine k p' c' h' (Sat.back m ?_)
  refine Sat.close (pgs ++ [⟨r, bs⟩]) (by simp [he, pgBytes]) ?_
  refine hs.perm ?_
  simp only [Vc.put, matL, rowsE, pgSl, List.map_append, List.map_cons, List.map_nil, List.cons_append, List.append_assoc, List.nil_append]
  exact .refl _
theorem Sat.mat_nil {h0 h : H} {A : List Ent} (hs : Sat h0 A h) (sz : Nat) (p : Option Addr) : Sat h0 (matE sz (p, 0, 0) [] :: A) h := by
  refine Sat.close [] rfl ?_
  refine hs.own (Ext.refl _ _) (bs := []) (OwnS.nil _ _ _) (by intro b hb; simp at hb)
theorem Sat.sl_nil {h0 h : H} {A : List Ent} (hs : Sat h0 A h) (sz : Nat) (p : Option Addr) : Sat h0 (sE (p, 0, 0) sz [] :: A) h :=
  hs.own (Ext.refl _ _) (bs := []) (OwnS.nil _ _ _) (by intro b hb; simp at hb)
/-- A block, held for a slice. -/
theorem Sat.as_sl {h0 h : H} {A : List Ent} (hs : Sat h0 A h) {i b l sz : Nat} {vs : List Value} (m : At A i (blk b vs)) (hl : vs.length = l * sz) (hv : ∀ v, v ∈ vs → v.oneCell' = true) :
    Sat h0 (Vc.put A i (slE (some ⟨b, 0, none⟩) l l sz vs)) h := by
  refine hs.as m fun f hp => ?_
  obtain ⟨k, hf⟩ := blk_P.1 hp
  refine slE_P.2 ⟨[b], ⟨hl, Nat.le_refl _, hv, Or.inr ⟨b, [], rfl, rfl, by simpa using k, by simp⟩⟩, fun x => ?_⟩
  rw [hf]; simp
theorem Sat.bv {h0 h : H} {A : List Ent} (hs : Sat h0 A h) {i b l sz : Nat} {vs : List Value} (m : At A i (blk b vs)) (hl : vs.length = l * sz) (hv : ∀ v, v ∈ vs → v.oneCell' = true) :
    hsv h (some ⟨b, 0, none⟩) sz l vs := (hs.as_sl m hl hv).sv (m.put _)
theorem ints_one (k : IntKind) (ns : List Int) : ∀ v, v ∈ ints k ns → v.oneCell' = true := by
  intro v hv
  simp only [ints, List.mem_map] at hv
  obtain ⟨n, _, rfl⟩ := hv; rfl
theorem bools_one (ns : List Bool) : ∀ v, v ∈ bools ns → v.oneCell' = true := by
  intro v hv
  simp only [bools, List.mem_map] at hv
  obtain ⟨n, _, rfl⟩ := hv; rfl
theorem Sat.ofBlk {h0 h h' : H} {A : List Ent} (hs : Sat h0 A h) (x : Ext none_ h h') {b : Nat} {vs : List Value} (k : Blk h' b vs) (n : h.size ≤ b) : Sat h0 (blk b vs :: A) h' :=
  hs.add x (blk_P.2 ⟨k, fun _ => Iff.rfl⟩) fun y hy => by rw [hy]; exact n

/-! ### Slices whose first cell is known -/
theorem Sat.sl_some {h0 h : H} {A : List Ent} (hs : Sat h0 A h) {i : Nat} {p : Option Addr} {l c sz : Nat} {vs : List Value} (m : At A i (slE p l c sz vs)) (hl : 0 < l) : ∃ b, p = some ⟨b, 0, none⟩ := by
  obtain ⟨f, hp, _⟩ := hs.take m
  obtain ⟨bs, ⟨_, _, _, h4⟩, _⟩ := slE_P.1 hp
  rcases h4 with ⟨h1, _, _⟩ | ⟨b, _, h1, _⟩
  · omega
  · exact ⟨b, h1⟩
theorem Sat.sl_len {h0 h : H} {A : List Ent} (hs : Sat h0 A h) {i : Nat} {p : Option Addr} {l c sz : Nat} {vs : List Value} (m : At A i (slE p l c sz vs)) : vs.length = l * sz := (hs.sv m).1
theorem Sat.sld {h0 h : H} {A : List Ent} (hs : Sat h0 A h) {i b l c sz : Nat} {vs : List Value} (m : At A i (slE (some ⟨b, 0, none⟩) l c sz vs)) {o : Nat} {v : Value} (e : vs[o]? = some v) : hc h ⟨b, o, none⟩ = some v := by
  obtain ⟨q, hq, g⟩ := hsv_get (hs.sv m) e
  injection hq with hq; subst hq
  rwa [add_mk, Nat.zero_add] at g
theorem OwnS.blk' {h : H} {b l c sz : Nat} {vs : List Value} {bs : List Nat} (o : OwnS h (some ⟨b, 0, none⟩) l c sz vs bs) (hv : 0 < l) : bs = [b] ∧ ∃ rest, Blk h b (vs ++ rest) ∧ (c - l) * sz ≤ rest.length := by
  obtain ⟨h1, _, _, h4⟩ := o
  rcases h4 with ⟨r, _, _⟩ | ⟨b', rest, e, h5, k, h6⟩
  · omega
  · injection e with e; injection e with e; subst e
    exact ⟨h5, rest, k, h6⟩
theorem Sat.scan {h0 h : H} {A : List Ent} (hs : Sat h0 A h) {i b l c sz : Nat} {vs : List Value} (m : At A i (slE (some ⟨b, 0, none⟩) l c sz vs)) {o n : Nat} (hl : 0 < l) (e : o + n ≤ vs.length) : hcan h ⟨b, o, none⟩ n := by
  obtain ⟨f, hp, _⟩ := hs.take m
  obtain ⟨bs, o', _⟩ := slE_P.1 hp
  obtain ⟨_, rest, k, _⟩ := o'.blk' hl
  exact k.can (by simp; omega)
theorem splice_left (vs rest : List Value) (o : Nat) (xs : List Value) (h : o + xs.length ≤ vs.length) : splice (vs ++ rest) o xs = splice vs o xs ++ rest := by
  induction xs generalizing vs o with
  | nil => rfl
  | cons x r ih =>
    simp only [List.length_cons] at h
    rw [splice_cons, splice_cons, List.set_append_left _ _ (by omega), ih _ _ (by simp; omega)]
theorem splice_mem {vs xs : List Value} {o : Nat} {v : Value} (h : v ∈ splice vs o xs) : v ∈ vs ∨ v ∈ xs := by
  induction xs generalizing vs o with
  | nil => exact Or.inl h
  | cons x r ih =>
    rw [splice_cons] at h
    rcases ih h with h | h
    · rcases List.mem_or_eq_of_mem_set h with h | h
      · exact Or.inl h
      · exact Or.inr (by simp [h])
    · exact Or.inr (by simp [h])
theorem Sat.swr {h0 h h' : H} {A : List Ent} (hs : Sat h0 A h) {i b l c sz : Nat} {vs : List Value} (m : At A i (slE (some ⟨b, 0, none⟩) l c sz vs)) {o : Nat} {xs : List Value} (e : h' = hwr h ⟨b, o, none⟩ xs) (hl : 0 < l) (hx : o + xs.length ≤ vs.length)
    (h1 : ∀ v, v ∈ xs → v.oneCell' = true) : Sat h0 (Vc.put A i (slE (some ⟨b, 0, none⟩) l c sz (splice vs o xs))) h' := by
  subst e
  refine hs.upd m fun f hp => ?_
  obtain ⟨bs, o', hf⟩ := slE_P.1 hp
  obtain ⟨e, rest, k, hr⟩ := o'.blk' hl
  subst e
  refine ⟨f, slE_P.2 ⟨[b], ⟨by rw [splice_length]; exact o'.1, o'.2.1, ?_, Or.inr ⟨b, rest, rfl, rfl, ?_, hr⟩⟩, hf⟩, fun _ => Or.inl, (Ext.wr h b o xs).mono fun x _ hx => (hf x).2 (by simp [hx])⟩
  · intro v hv
    rcases splice_mem hv with hv | hv
    · exact o'.2.2.1 v hv
    · exact h1 v hv
  · rw [← splice_left _ _ _ _ hx]; exact k.wr o xs

/-! ### Whole blocks -/
theorem Sat.wra {h0 h h' : H} {A : List Ent} (s : Sat h0 A h) {i b : Nat} {vs xs : List Value} (a : At A i (blk b vs)) (e : h' = hwr h ⟨b, 0, none⟩ xs) (hl : xs.length = vs.length) : Sat h0 (Vc.put A i (blk b xs)) h' := by
  have := s.wr a e
  rwa [splice_all _ _ hl] at this
theorem Sat.row0 {h0 h : H} {A : List Ent} (s : Sat h0 A h) {i b : Nat} {k : IntKind} {ns : List Int} (a : At A i (blk b (ints k ns))) : hrow h ⟨b, 0, none⟩ k ns :=
  s.row a fun i _ => by rw [Nat.zero_add, ints_get]

/-! ### Cells of a slice of slices -/
def cellAt (row : List Int) (k : Nat) : List Int := (row.drop (k * 32)).take 32
theorem cellAt_length {row : List Int} {k : Nat} (h : (k + 1) * 32 ≤ row.length) : (cellAt row k).length = 32 := by simp [cellAt]; omega
theorem cellAt_get (row : List Int) (k i : Nat) (hi : i < 32) : (cellAt row k)[i]? = row[k * 32 + i]? := by
  simp only [cellAt]
  rw [List.getElem?_take_of_lt hi, List.getElem?_drop]
/-- A cell is read. -/
theorem RdM.cell {h : H} {a : Sl} {rows : List (List Int)} (r : RdM h 32 a rows) {j k : Nat} (hj : j < rows.length) (hk : (k + 1) * 32 ≤ rows[j].length) :
    ∃ q x q', a.1 = some q ∧ hc h (q.add (j * 1)) = some (Sl.v x) ∧ x.2.1 * 32 = rows[j].length ∧ x.1 = some q' ∧ hrow h (q'.add (k * 32)) .u8 (cellAt rows[j] k) := by
  obtain ⟨q, x, h1, h2, h3⟩ := r.at hj
  have hl : x.2.1 * 32 = rows[j].length := by have := h3.1; simp at this; omega
  obtain ⟨e1, e2, e3⟩ := h3
  rcases e3 with e3 | ⟨q', hq, g⟩
  · have : rows[j].length = 0 := by have := congrArg List.length e3; simpa using this
    omega
  · refine ⟨q, x, q', h1, h2, hl, hq, ?_⟩
    intro i v hv
    have hi : i < 32 := by
      have := (List.getElem?_eq_some_iff.1 hv).1
      rw [ints_length, cellAt_length hk] at this; exact this
    rw [ints_get, cellAt_get _ _ _ hi] at hv
    have : (q'.add (k * 32)).add i = q'.add (k * 32 + i) := by
      cases q' with | mk b o s => unfold Addr.add; by_cases h1 : k * 32 = 0 <;> by_cases h2 : i = 0 <;> simp [h1, h2, Nat.add_assoc]
    rw [this]
    exact g _ _ (by rw [ints_get]; exact hv)

def rowSet (row : List Int) (k : Nat) (c : List Int) : List Int := row.take (k * 32) ++ c ++ row.drop (k * 32 + 32)
theorem rowSet_length {row c : List Int} {k : Nat} (hk : (k + 1) * 32 ≤ row.length) (hc : c.length = 32) : (rowSet row k c).length = row.length := by
  simp [rowSet, hc]; omega
theorem splice_rowSet {row c : List Int} {k : Nat} (hk : (k + 1) * 32 ≤ row.length) (hc : c.length = 32) : splice (ints .u8 row) (k * 32) (ints .u8 c) = ints .u8 (rowSet row k c) := by
  have e : row = row.take (k * 32) ++ (row.drop (k * 32)).take 32 ++ row.drop (k * 32 + 32) := by
    rw [List.append_assoc, ← List.drop_drop, List.take_append_drop, List.take_append_drop]
  have hl : (ints .u8 (row.take (k * 32))).length = k * 32 := by simp; omega
  have key := splice_append (ints .u8 (row.take (k * 32))) (ints .u8 ((row.drop (k * 32)).take 32)) (ints .u8 (row.drop (k * 32 + 32))) (ints .u8 c) (by simp [hc]; omega)
  rw [hl, ← ints_append, ← ints_append, ← e] at key
  rw [key]
  simp [rowSet]

/-! ### A row taken out of a slice of slices -/
theorem rowsE_put (sz : Nat) (pgs : List Pg) (j : Nat) (x : Pg) : put (rowsE sz pgs) j (sE x.sl sz (ints .u8 x.bytes)) = rowsE sz (pgs.set j x) := by
  induction pgs generalizing j with
  | nil => rfl
  | cons y r ih => cases j with
    | zero => rfl
    | succ j => simp only [rowsE, List.map_cons, put_succ, List.set_cons_succ]; congr 1; exact ih j
theorem rowsE_at (sz : Nat) (pgs : List Pg) (j : Nat) (hj : j < pgs.length) : At (rowsE sz pgs) j (sE pgs[j].sl sz (ints .u8 pgs[j].bytes)) := At.get (by simp [rowsE, hj])
theorem Sat.row_take {h0 h : H} {A : List Ent} {sz : Nat} {a : Sl} {rows : List (List Int)} (hs : Sat h0 (matE sz a rows :: A) h) {j : Nat} (hj : j < rows.length) :
    ∃ (x : Sl) (hd : List Value) (R : List Ent), hd[j]? = some x.v ∧ Sat h0 (sE x sz (ints .u8 rows[j]) :: sE a 1 hd :: (A ++ R)) h ∧
      ∀ h' bs B, Sat h0 (sE x sz (ints .u8 bs) :: sE a 1 hd :: (B ++ R)) h' → Sat h0 (matE sz a (rows.set j bs) :: B) h' := by
  obtain ⟨pgs, he, hs⟩ := hs.open_
  have hj' : j < pgs.length := by rw [he] at hj; simpa using hj
  have m := rowsE_at sz pgs j hj'
  refine ⟨pgs[j].sl, pgSl pgs, del (rowsE sz pgs) j, by simp [pgSl, hj'], ?_, ?_⟩
  · have e : pgs[j].bytes = rows[j] := by subst he; simp [pgBytes]
    rw [← e]
    refine hs.perm ?_
    have hp := (m.perm.append_right A).cons (sE a 1 (pgSl pgs))
    exact hp.trans ((List.Perm.swap _ _ _).trans ((List.perm_append_comm.cons _).cons _))
  · intro h' bs B hs'
    refine Sat.close (pgs.set j ⟨pgs[j].sl, bs⟩) ?_ ?_
    · subst he; simp [pgBytes, List.map_set]
    · have e1 : pgSl (pgs.set j ⟨pgs[j].sl, bs⟩) = pgSl pgs := by
        apply List.ext_getElem?; intro k
        simp only [pgSl, List.getElem?_map, List.getElem?_set]
        split
        · rename_i e; subst e; simp [hj']
        · rfl
      refine hs'.perm ?_
      simp only [matL, e1]
      rw [← rowsE_put sz pgs j ⟨pgs[j].sl, bs⟩]
      refine (List.Perm.swap _ _ _).trans ?_
      refine List.Perm.cons _ ?_
      exact ((List.perm_append_comm.cons _)).trans ((m.perm_put _).append_right B)
end Go.Vc
