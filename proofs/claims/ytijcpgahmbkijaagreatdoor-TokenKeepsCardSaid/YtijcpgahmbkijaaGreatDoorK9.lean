/- TokenKeeps: what is proved and its parts, laid together by a program of ours: Tk6 Tk7 Tr1 Tr2 Tr3 Tr4 TkW Tk8 Tr5 Tr6 At -/
import Derived.Test.YtijcpgahmbkijaaGreatDoorRows
import Derived.Test.YtijcpgahmbkijaaGreatDoorK8
set_option autoImplicit false
set_option linter.all false
/- Tokens: Get. Own work. -/
section
set_option maxRecDepth 100000
set_option linter.unusedVariables false
namespace Go.Proofs.YtijcpgahmbkijaaGreatDoor
open Go Go.Vc

def nuM (b : List Int) : Nat → Int
  | 0 => 0
  | t + 1 => bits .or .u64 (nuM b t) (IntKind.u64.wrap (IntKind.u64.wrap (b.getD t 0) * 2 ^ min (8 * t) 64))
def standsM (at_ : Nat) (c : Int) : Bool := if at_ = 5 then decide (c < 64) else if at_ = 6 then decide (1 ≤ c ∧ c ≤ 64) else if at_ = 7 then decide (c ≤ 32) else c == ([80, 67, 84, 75, 1] : List Int).getD at_ 0
/-- The head: what is wrong first, from the place 8 - k on. -/
def gHead (bs : List Int) : Nat → Option (Int × Int)
  | 0 => none
  | k + 1 => if 8 - (k + 1) = bs.length then some (6, bs.length) else if standsM (8 - (k + 1)) (bs.getD (8 - (k + 1)) 0) = true then gHead bs k else some (5, ((8 - (k + 1) : Nat) : Int))
def cvAt (bs : List Int) (a : Nat) : CvM :=
  ⟨IntKind.i64.wrap (bs.getD a 0), IntKind.i64.wrap (bs.getD (a + 1) 0), IntKind.i64.wrap (nuM (bs.drop (a + 2)) 8), IntKind.i64.wrap (nuM (bs.drop (a + 10)) 8), nuM (bs.drop (a + 18)) 8⟩
def gCavs (bs : List Int) : Nat → Nat → List CvM → Except (Int × Int) (Nat × List CvM)
  | 0, a, cs => .ok (a, cs)
  | n + 1, a, cs => if bs.length < a + 26 then .error (6, bs.length) else if (cvAt bs a).may then gCavs bs n (a + 26) (cs ++ [cvAt bs a]) else .error (5, a)
structure TkM where
  key : Int
  id : List Int
  cs : List CvM
  tag : List Int
def gRest (bs : List Int) (a : Nat) (cs : List CvM) : Except (Int × Int) TkM :=
  if bs.length < a + 32 then .error (6, bs.length) else if a + 32 < bs.length then .error (7, ((a + 32 : Nat) : Int)) else .ok ⟨bs.getD 5 0, (bs.drop 8).take (bs.getD 6 0).toNat, cs, (bs.drop a).take 32⟩
/-- The token that bytes are, or what is wrong first, and where. -/
def tgetM (bs : List Int) : Except (Int × Int) TkM :=
  match gHead bs 8 with
  | some e => .error e
  | none => if bs.length < 8 + (bs.getD 6 0).toNat then .error (6, bs.length) else
    match gCavs bs (bs.getD 7 0).toNat (8 + (bs.getD 6 0).toNat) [] with
    | .error e => .error e
    | .ok (a, cs) => gRest bs a cs
def isBytes (bs : List Int) : Prop := ∀ n, n ∈ bs → 0 ≤ n ∧ n < 256
theorem isB_get {bs : List Int} (hb : isBytes bs) (x : Nat) : 0 ≤ bs.getD x 0 ∧ bs.getD x 0 < 256 := by
  rw [List.getD_eq_getElem?_getD]
  cases e : bs[x]? with
  | none => exact ⟨by decide, by decide⟩
  | some v => exact hb v (List.mem_iff_getElem?.2 ⟨x, e⟩)
section
variable {h0 h : H} {A : List Ent} {i j d : Nat}
theorem number_sp {Q : Int → H → Prop} {p : Option Addr} {l c : Nat} {bs : List Int} (rd : hsv h p 1 l (ints .u8 bs)) (hl : 8 ≤ l) (q : Q (nuM bs 8) h) : F_token_number p l c Q h := by
  unfold F_token_number G_token_number
  intro J hJ
  refine loopS 8 (fun t (x : Int) => [.dv (.one (.int .u64 x)), si t]) (fun t x h' => x = nuM bs t ∧ h' = h) ?_ ?_ 0 0 _ (by omega) ⟨rfl, rfl⟩
  · rintro t x h1 ht ⟨hx, hh⟩ hk
    subst hx hh
    apply hJ
    rw [ltI_eq, if_pos (by simp; omega)]
    obtain ⟨q1, hq1, g⟩ := hsvI rd (x := t) (by omega)
    have e8 : IntKind.i64.wrap (8 * (t : Int)) = ((8 * t : Nat) : Int) := by rw [wrap_id (by omega)]; push_cast; rfl
    rw [e8]
    simp only [Int.toNat_natCast, Nat.mul_one]
    refine ⟨q1, hq1, by omega, by omega, _, g, by omega, ?_⟩
    rw [wrap_succ (by omega)]
    exact hk _ _ ⟨rfl, rfl⟩
  · rintro x h1 ⟨hx, hh⟩
    subst hx hh
    apply hJ
    rw [ltI_eq, if_neg (by decide)]
    exact q
theorem stands_sp {Q : Bool → H → Prop} (t : Nat) (c : Int) (ht : t < 8) (q : Q (standsM t c) h) : F_token_stands (t : Int) c Q h := by
  unfold F_token_stands G_token_stands
  unfold standsM at q
  by_cases c5 : t = 5
  · rw [if_pos c5] at q
    rw [if_pos (by simp [c5]), ltI_eq]
    exact q
  rw [if_neg c5] at q
  rw [if_neg (by simp; omega)]
  by_cases c6 : t = 6
  · rw [if_pos c6] at q
    rw [if_pos (by simp [c6]), leI_eq]
    by_cases g : 1 ≤ c
    · rw [if_pos (by simpa using g), leI_eq]
      simpa [g] using q
    · rw [if_neg (by simpa using g)]
      simpa [g] using q
  rw [if_neg c6] at q
  rw [if_neg (by simp; omega)]
  by_cases c7 : t = 7
  · rw [if_pos c7] at q
    rw [if_pos (by simp [c7]), leI_eq]
    exact q
  rw [if_neg c7] at q
  rw [if_neg (by simp; omega)]
  refine ⟨by omega, by omega, ?_⟩
  rw [Int.toNat_natCast]
  have : t = 0 ∨ t = 1 ∨ t = 2 ∨ t = 3 ∨ t = 4 := by omega
  rcases this with rfl | rfl | rfl | rfl | rfl <;> exact q
theorem gHead_at (bs : List Int) {t : Nat} (ht : t < 8) : gHead bs (8 - t) = if t = bs.length then some (6, (bs.length : Int)) else if standsM t (bs.getD t 0) = true then gHead bs (8 - (t + 1)) else some (5, (t : Int)) := by
  obtain ⟨k, hk⟩ : ∃ k, 8 - t = k + 1 := ⟨7 - t, by omega⟩
  rw [hk]
  show (if 8 - (k + 1) = bs.length then _ else _) = _
  rw [show 8 - (k + 1) = t by omega, show 8 - (t + 1) = k by omega]
theorem gCavs_at (bs : List Int) {n t a : Nat} (cs : List CvM) (ht : t < n) : gCavs bs (n - t) a cs = if bs.length < a + 26 then .error (6, (bs.length : Int)) else if (cvAt bs a).may then gCavs bs (n - (t + 1)) (a + 26) (cs ++ [cvAt bs a]) else .error (5, (a : Int)) := by
  obtain ⟨k, hk⟩ : ∃ k, n - t = k + 1 := ⟨n - t - 1, by omega⟩
  rw [hk]
  show (if bs.length < a + 26 then _ else _) = _
  rw [show n - (t + 1) = k by omega]
theorem nuM_congr {a b : List Int} : ∀ {t : Nat}, (∀ x, x < t → a.getD x 0 = b.getD x 0) → nuM a t = nuM b t
  | 0, _ => rfl
  | t + 1, h => by
    show bits .or .u64 (nuM a t) _ = bits .or .u64 (nuM b t) _
    rw [nuM_congr (t := t) fun x hx => h x (by omega), h t (by omega)]
theorem dropD (bs : List Int) (o n x : Nat) (hx : x < n) : ((bs.drop o).take n).getD x 0 = bs.getD (o + x) 0 := by
  rw [List.getD_eq_getElem?_getD, List.getD_eq_getElem?_getD, List.getElem?_take_of_lt hx, List.getElem?_drop]
theorem dropD' (bs : List Int) (o x : Nat) : (bs.drop o).getD x 0 = bs.getD (o + x) 0 := by
  rw [List.getD_eq_getElem?_getD, List.getD_eq_getElem?_getD, List.getElem?_drop]
theorem tok_tag {key : Int} {ip cp : Option Addr} {il ic cl cc : Nat} {tag : List Int} (ht : tag.length = 32) : splice (tokL key ip il ic cp cl cc (zeros 32)) 3 (ints .u8 tag) = tokL key ip il ic cp cl cc tag := by
  apply List.ext_getElem?
  intro x
  rw [splice_get, ints_length, ht]
  have e35 : (tokL key ip il ic cp cl cc (zeros 32)).length = 35 := by simp [zeros]
  have e35' : (tokL key ip il ic cp cl cc tag).length = 35 := by simp [ht]
  by_cases c : 3 ≤ x ∧ x < 3 + 32 ∧ x < (tokL key ip il ic cp cl cc (zeros 32)).length
  · rw [if_pos c]
    obtain ⟨y, rfl⟩ : ∃ y, x = y + 1 + 1 + 1 := ⟨x - 3, by omega⟩
    show _ = (Value.int .i64 key :: .slice ip il ic :: .slice cp cl cc :: ints .u8 tag)[y + 1 + 1 + 1]?
    rw [List.getElem?_cons_succ, List.getElem?_cons_succ, List.getElem?_cons_succ]
    congr 1
  · rw [if_neg c]
    match x with
    | 0 => rfl
    | 1 => rfl
    | 2 => rfl
    | x + 3 => rw [List.getElem?_eq_none (by omega), List.getElem?_eq_none (by omega)]
theorem tok_cs {key : Int} {ip cp cp' : Option Addr} {il ic cl cc cl' cc' : Nat} {tag : List Int} : splice (tokL key ip il ic cp cl cc tag) 2 [.slice cp' cl' cc'] = tokL key ip il ic cp' cl' cc' tag := rfl
abbrev wrongT : TypeId := 94
theorem get_sp {Q : Int → Option Addr → Nat → Nat → Option Addr → Nat → Nat → List Int → Value → H → Prop} {bs : List Int} {p : Option Addr} {l c : Nat} (hs : Sat h0 A h) (hb : isBytes bs) (hlc : l ≤ c) (hl : l < 2 ^ 47) (rd : ∀ h', Sat h0 A h' → hsv h' p 1 l (ints .u8 bs))
    (kE : ∀ e a, tgetM bs = .error (e, a) → ∀ w h', Sat h0 (blk w [.int .i64 e, .int .i64 a] :: A) h' → Q 0 none 0 0 none 0 0 (zeros 32) (.iface wrongT (.pointer (some ⟨w, 0, none⟩))) h')
    (kT : ∀ t, tgetM bs = .ok t → ∀ p1 c1 p2 l2 c2 h', t.cs.length = l2 → Sat h0 (slE p2 l2 c2 5 (cvsV t.cs) :: slE p1 t.id.length c1 1 (ints .u8 t.id) :: A) h' → t.tag.length = 32 → Q t.key p1 t.id.length c1 p2 l2 c2 t.tag .nilIface h') :
    F_token_Get p l c Q h := by
  unfold F_token_Get G_token_Get
  simp only [add_mk, Nat.zero_add, List.append_nil]
  have hbl : bs.length = l := by have := (rd _ hs).1; simpa using this
  intro rb _ hn; replace hs := Sat.new hs hn; clear hn
  intro tb _ hn; replace hs := Sat.new hs hn; clear hn
  intro wb _ hn; replace hs := Sat.new hs hn; clear hn
  replace hs : Sat h0 (blk wb [.int .i64 6, .int .i64 (l : Int)] :: blk tb tok0 :: blk rb tok0 :: A) _ := hs
  intro J18 hJ18
  have bad : ∀ (w : Nat) (e a : Int) (h' : H), tgetM bs = .error (e, a) → (∃ x, Sat h0 (blk w [.int .i64 e, .int .i64 a] :: blk rb x :: A) h' ∧ x.length = 35) → J18 [.dv (.one (.pointer (some ⟨w, 0, none⟩)))] h' := by
    rintro w e a h2 he ⟨x, hs, hx⟩
    apply hJ18
    refine ⟨Sat.can hs (i := 1) (.s .z) (by omega), ?_⟩
    intro h3 e3
    replace hs := Sat.wra (xs := tok0) hs (i := 1) (.s .z) e3 (by rw [hx]; simp [zeros])
    clear e3
    simp only [put_succ, put_zero] at hs
    refine ⟨_, hs.ld (i := 1) (.s .z) rfl, _, _, _, hs.ld (i := 1) (.s .z) rfl, _, _, _, hs.ld (i := 1) (.s .z) rfl, _, zeros_len 32, tok_row hs (i := 1) (.s .z), ?_⟩
    exact kE e a he w h3 (hs.sub (by (repeat (first | exact List.Sublist.refl _ | apply List.Sublist.cons_cons | apply List.Sublist.cons))))
  clear kE hJ18
  have t35 : (tok0).length = 35 := by simp [zeros]
  intro J33 hJ33
  apply hJ33
  clear hJ33 J33
  intro J36 hJ36
  refine loopS 8 (fun t (_ : Unit) => [.dv (.one (.pointer (some ⟨wb, 0, none⟩))), si t]) (fun t _ h => gHead bs 8 = gHead bs (8 - t) ∧ t ≤ bs.length ∧ Sat h0 (blk wb [.int .i64 6, .int .i64 (l : Int)] :: blk tb tok0 :: blk rb tok0 :: A) h) ?_ ?_ 0 () _ (by omega) ⟨rfl, by omega, hs⟩
  · rintro t _ h1 ht ⟨hg, htl, hs⟩ hk
    apply hJ36
    rw [ltI_eq, if_pos (by simp; omega)]
    rw [gHead_at bs ht] at hg
    by_cases ce : t = l
    · rw [if_pos (by simp [ce])]
      rw [if_pos (by omega)] at hg
      refine bad wb 6 l h1 ?_ ⟨tok0, hs.sub (by (repeat (first | exact List.Sublist.refl _ | apply List.Sublist.cons_cons | apply List.Sublist.cons))), t35⟩
      unfold tgetM
      rw [hg, hbl]
    rw [if_neg (by simp; omega)]
    rw [if_neg (by omega)] at hg
    obtain ⟨q, hq, g⟩ := hsvI (rd _ hs.drop.drop.drop) (x := t) (by omega)
    refine ⟨q, hq, by omega, by omega, ?_⟩
    simp only [Int.toNat_natCast, Nat.mul_one]
    refine ⟨_, g, ?_⟩
    refine stands_sp t _ ht ?_
    by_cases cs : standsM t (bs.getD t 0) = true
    · rw [if_pos cs] at hg
      rw [cs, if_neg (by decide), wrap_succ (by omega)]
      exact hk () _ ⟨hg, by omega, hs⟩
    · rw [if_neg cs] at hg
      have cs' : standsM t (bs.getD t 0) = false := by simpa using cs
      rw [cs', if_pos (by decide)]
      intro nb _ hn; replace hs := Sat.new hs hn; clear hn
      refine bad nb 5 t _ ?_ ⟨tok0, hs.sub (by (repeat (first | exact List.Sublist.refl _ | apply List.Sublist.cons_cons | apply List.Sublist.cons))), t35⟩
      unfold tgetM
      rw [hg]
  rintro _ h1 ⟨hg, hl8, hs⟩
  apply hJ36
  rw [ltI_eq, if_neg (by decide)]
  clear hJ36 J36
  replace hg : gHead bs 8 = none := hg
  obtain ⟨q, hq, _⟩ := hsvI (rd _ hs.drop.drop.drop) (x := 0) (by omega)
  subst hq
  have rdx : ∀ h' x, Sat h0 A h' → x < l → hc h' (q.add x) = some (.int .u8 (bs.getD x 0)) := by
    intro h' x hs' hx
    obtain ⟨q', hq', g⟩ := hsvI (rd _ hs') (x := x) hx
    injection hq' with hq'
    subst hq'
    exact g
  obtain ⟨n6, hn6⟩ : ∃ n6, n6 = (bs.getD 6 0).toNat := ⟨_, rfl⟩
  obtain ⟨n7, hn7⟩ : ∃ n7, n7 = (bs.getD 7 0).toNat := ⟨_, rfl⟩
  have b5 := isB_get hb 5
  have b6 := isB_get hb 6
  have b7 := isB_get hb 7
  have tg : tgetM bs = if bs.length < 8 + n6 then .error (6, (bs.length : Int)) else match gCavs bs n7 (8 + n6) [] with | .error e => .error e | .ok (a, cs) => gRest bs a cs := by
    unfold tgetM
    rw [hg, hn6, hn7]
  have e86 : IntKind.i64.wrap (8 + IntKind.i64.wrap (bs.getD 6 0)) = ((8 + n6 : Nat) : Int) := by
    rw [wrap_id (n := bs.getD 6 0) (by omega), wrap_id (by omega)]; omega
  refine ⟨q, rfl, by decide, by omega, _, rdx _ 6 hs.drop.drop.drop (by omega), ?_⟩
  rw [e86, ltI_eq]
  by_cases c6 : l < 8 + n6
  · rw [if_pos (by rw [decide_eq_true_iff]; omega)]
    refine bad wb 6 l h1 ?_ ⟨tok0, hs.sub (by (repeat (first | exact List.Sublist.refl _ | apply List.Sublist.cons_cons | apply List.Sublist.cons))), t35⟩
    rw [tg, if_pos (by omega), hbl]
  rw [if_neg (by rw [decide_eq_true_iff]; omega)]
  rw [if_neg (by omega)] at tg
  refine ⟨q, rfl, by decide, by omega, _, rdx _ 5 hs.drop.drop.drop (by omega), by decide, by omega, by omega, ?_⟩
  simp only [Int.toNat_natCast]
  rw [show 8 + n6 - 8 = n6 by omega]
  refine clone1_sp (vs := ints .u8 ((bs.drop 8).take n6)) hs (by omega) (fun h' hs' => subRd (o := 8) (n := n6) (m := c) (rd _ hs'.drop.drop.drop) (by omega) (by omega)) ?_
  intro p1 c1 h2 _ hs
  refine ⟨hcs_one (rdx _ 5 hs.drop.drop.drop.drop (by omega)), ?_⟩
  refine ⟨Sat.can hs (i := 2) (.s (.s .z)) (by simp [zeros]), ?_⟩
  intro h3 e
  replace hs := Sat.wra hs (i := 2) (.s (.s .z)) e (by simp [zeros])
  clear e
  rw [wrap_id (n := bs.getD 5 0) (by omega)] at hs
  simp only [put_succ, put_zero] at hs
  obtain ⟨id, hid⟩ : ∃ id, id = (bs.drop 8).take n6 := ⟨_, rfl⟩
  rw [← hid] at hs
  have hidl : id.length = n6 := by rw [hid]; simp; omega
  obtain ⟨key, hkey⟩ : ∃ key, key = bs.getD 5 0 := ⟨_, rfl⟩
  rw [← hkey] at hs
  replace hs : Sat h0 (slE p1 n6 c1 1 (ints .u8 id) :: blk wb [.int .i64 6, .int .i64 (l : Int)] :: blk tb (tokL key p1 n6 c1 none 0 0 (zeros 32)) :: blk rb tok0 :: A) h3 := hs
  refine ⟨q, rfl, by decide, by omega, _, rdx _ 7 hs.drop.drop.drop.drop (by omega), ?_⟩
  have e7 : IntKind.i64.wrap (bs.getD 7 0) = (n7 : Int) := by rw [wrap_id (by omega)]; omega
  rw [e7]
  intro J59 hJ59
  refine loopS n7 (fun t (_ : List CvM × Option Addr × Nat) => [.dv (.one (.pointer (some ⟨wb, 0, none⟩))), .dv (.one (.int .i64 ((8 + n6 + 26 * t : Nat) : Int))), si t])
    (fun t s h => s.1.length = t ∧ gCavs bs n7 (8 + n6) [] = gCavs bs (n7 - t) (8 + n6 + 26 * t) s.1 ∧ 8 + n6 + 26 * t ≤ l ∧ Sat h0 (slE s.2.1 t s.2.2 5 (cvsV s.1) :: slE p1 n6 c1 1 (ints .u8 id) :: blk wb [.int .i64 6, .int .i64 (l : Int)] :: blk tb (tokL key p1 n6 c1 s.2.1 t s.2.2 (zeros 32)) :: blk rb tok0 :: A) h) ?_ ?_ 0 ([], none, 0) _ (by omega)
    ⟨rfl, rfl, by omega, hs.sl_nil 5 none⟩
  · rintro t ⟨cs, p2, c2⟩ h4 ht ⟨hcl, hgc, hal, hs⟩ hk
    dsimp only at hcl hgc hs hk ⊢
    apply hJ59
    rw [ltI_eq, if_pos (by simp; omega)]
    obtain ⟨a, ha⟩ : ∃ a, a = 8 + n6 + 26 * t := ⟨_, rfl⟩
    rw [← ha] at hgc hal ⊢
    rw [gCavs_at bs cs ht] at hgc
    have e26 : IntKind.i64.wrap ((a : Int) + 26) = ((a + 26 : Nat) : Int) := by rw [wrap_id (by omega)]; push_cast; rfl
    rw [e26, ltI_eq]
    by_cases cl : l < a + 26
    · rw [if_pos (by rw [decide_eq_true_iff]; omega)]
      rw [if_pos (by omega)] at hgc
      refine bad wb 6 l h4 ?_ ⟨tok0, hs.sub (by (repeat (first | exact List.Sublist.refl _ | apply List.Sublist.cons_cons | apply List.Sublist.cons))), t35⟩
      rw [tg, hgc, hbl]
    rw [if_neg (by rw [decide_eq_true_iff]; omega)]
    rw [if_neg (by omega)] at hgc
    refine ⟨by omega, by omega, by omega, ?_⟩
    intro J64 hJ64
    obtain ⟨C, hC⟩ : ∃ C, C = cvAt bs a := ⟨_, rfl⟩
    rw [← hC] at hgc
    have wayC : ∀ (cb : Nat) h', Sat h0 (blk cb (cvV C) :: slE p2 t c2 5 (cvsV cs) :: slE p1 n6 c1 1 (ints .u8 id) :: blk wb [.int .i64 6, .int .i64 (l : Int)] :: blk tb (tokL key p1 n6 c1 p2 t c2 (zeros 32)) :: blk rb tok0 :: A) h' → J64 [.dv (.addr ⟨cb, 0, none⟩)] h' := by
      intro cb h5 hs
      apply hJ64
      clear hJ64 J64
      simp only [add_mk, Nat.zero_add]
      refine ⟨_, hs.ld (i := 0) .z rfl, _, hs.ld (i := 0) .z rfl, _, hs.ld (i := 0) .z rfl, _, hs.ld (i := 0) .z rfl, _, hs.ld (i := 0) .z rfl, ?_⟩
      refine CMay_sp C hs ?_
      intro h6 hs
      by_cases gm : C.may
      case neg =>
        rw [if_pos (by simp [gm])]
        rw [if_neg gm] at hgc
        intro nb _ hn; replace hs := Sat.new hs hn; clear hn
        refine bad nb 5 a _ ?_ ⟨tok0, hs.sub (by (repeat (first | exact List.Sublist.refl _ | apply List.Sublist.cons_cons | apply List.Sublist.cons))), t35⟩
        rw [tg, hgc]
      rw [if_neg (by simp [gm])]
      rw [if_pos gm] at hgc
      refine ⟨_, _, _, hs.ld (i := 4) (.s (.s (.s (.s .z)))) rfl, ?_⟩
      refine ⟨_, hs.ld (i := 0) .z rfl, _, hs.ld (i := 0) .z rfl, _, hs.ld (i := 0) .z rfl, _, hs.ld (i := 0) .z rfl, _, hs.ld (i := 0) .z rfl, ?_⟩
      intro bb _ hn; replace hs := Sat.new hs hn; clear hn
      have cv1 : ∀ v, v ∈ cvV C → v.oneCell' = true := by
        intro v hv
        simp only [List.mem_cons, List.not_mem_nil, or_false] at hv
        rcases hv with rfl | rfl | rfl | rfl | rfl <;> rfl
      refine ⟨_, hs.bv (i := 0) (l := 1) (sz := 5) .z rfl cv1, ?_⟩
      refine Sat.app hs (i := 2) (vs := cvV C) (.s (.s .z)) rfl rfl cv1 (by omega) ?_
      intro p3 c3 h7 hs
      simp only [put_succ, put_zero] at hs
      replace hs := hs.drop.drop
      refine ⟨Sat.can hs (i := 3) (.s (.s (.s .z))) (by simp [zeros]), ?_⟩
      intro h8 e
      replace hs := Sat.wr hs (i := 3) (.s (.s (.s .z))) e
      clear e
      rw [tok_cs] at hs
      simp only [put_succ, put_zero] at hs
      rw [wrap_succ (by omega)]
      have K := hk (cs ++ [C], p3, c3) h8
      dsimp only at K
      rw [show 8 + n6 + 26 * (t + 1) = a + 26 by omega] at K
      refine K ⟨by simp [hcl], hgc, by omega, ?_⟩
      have ecs : cvsV (cs ++ [C]) = cvsV cs ++ cvV C := by rw [cvsV_app]; simp [cvsV]
      rw [ecs]
      exact hs
    clear hJ64 bad
    have base : ∀ h', Sat h0 A h' → hsv h' (subAddr (some q) a c 1) 1 26 (ints .u8 ((bs.drop a).take 26)) := fun h' hs' => subRd (o := a) (n := 26) (m := c) (rd _ hs') (by omega) (by omega)
    simp only [Int.toNat_natCast]
    rw [show a + 26 - a = 26 by omega]
    have nums : ∀ (o : Nat) h', o + 8 ≤ 26 → Sat h0 A h' → hsv h' (subAddr (subAddr (some q) a c 1) o (c - a) 1) 1 (26 - o) (ints .u8 ((((bs.drop a).take 26).drop o).take (26 - o))) := fun o h' ho hs' => subRd (o := o) (n := 26 - o) (m := c - a) (base _ hs') (by omega) (by omega)
    have numE : ∀ o, o + 8 ≤ 26 → nuM ((((bs.drop a).take 26).drop o).take (26 - o)) 8 = nuM (bs.drop (a + o)) 8 := by
      intro o ho
      refine nuM_congr fun x hx => ?_
      rw [dropD _ _ _ _ (by omega), dropD _ _ _ _ (by omega), dropD', Nat.add_assoc]
    have sa : subAddr (some q) a c 1 = some (q.add a) := by
      unfold subAddr
      rw [if_neg (by omega), Nat.mul_one]; rfl
    have rdA : ∀ h', Sat h0 A h' → hc h' (q.add a) = some (.int .u8 (bs.getD a 0)) := fun h' hs' => rdx _ a hs' (by omega)
    have rdB : ∀ h', Sat h0 A h' → hc h' ((q.add a).add 1) = some (.int .u8 (bs.getD (a + 1) 0)) := fun h' hs' => by rw [addAdd]; exact rdx _ (a + 1) hs' (by omega)
    have SA := hs.drop.drop.drop.drop.drop
    refine ⟨_, sa, by decide, by omega, _, rdA _ SA, _, sa, by decide, by omega, _, rdB _ SA, by decide, by omega, by decide, by omega, by decide, by omega, ?_⟩
    have fin : ∀ (cb : Nat) (x : List Value) h', x.length = 5 → Sat h0 (blk cb x :: slE p2 t c2 5 (cvsV cs) :: slE p1 n6 c1 1 (ints .u8 id) :: blk wb [.int .i64 6, .int .i64 (l : Int)] :: blk tb (tokL key p1 n6 c1 p2 t c2 (zeros 32)) :: blk rb tok0 :: A) h' →
        hcan h' ⟨cb, 0, none⟩ 5 ∧ ∀ h110 : H, h110 = hwr h' ⟨cb, 0, none⟩ [.int .i64 (IntKind.i64.wrap (bs.getD a 0)), .int .i64 (IntKind.i64.wrap (bs.getD (a + 1) 0)), .int .i64 (IntKind.i64.wrap (nuM ((((bs.drop a).take 26).drop 2).take (26 - 2)) 8)), .int .i64 (IntKind.i64.wrap (nuM ((((bs.drop a).take 26).drop 10).take (26 - 10)) 8)), .int .u64 (nuM ((((bs.drop a).take 26).drop 18).take (26 - 18)) 8)] → J64 [.dv (.addr ⟨cb, 0, none⟩)] h110 := by
      intro cb x h5 hx hs
      refine ⟨Sat.can hs (i := 0) .z (by omega), ?_⟩
      intro h6 e
      replace hs := Sat.wra hs (i := 0) .z e (by rw [hx]; rfl)
      clear e
      rw [put_zero, numE 2 (by decide), numE 10 (by decide), numE 18 (by decide)] at hs
      refine wayC cb h6 ?_
      rw [hC]
      exact hs
    refine ⟨?_, ?_⟩
    · refine number_sp (nums 2 _ (by decide) SA) (by decide) ?_
      refine ⟨hcs_one (rdB _ SA), hcs_one (rdA _ SA), ?_, ?_⟩
      · refine number_sp (nums 10 _ (by decide) SA) (by decide) ?_
        refine ⟨hcs_one (rdB _ SA), hcs_one (rdA _ SA), ?_, ?_⟩
        · refine number_sp (nums 18 _ (by decide) SA) (by decide) ?_
          refine ⟨hcs_one (rdB _ SA), hcs_one (rdA _ SA), ?_⟩
          intro cb _ hn; replace hs := Sat.new hs hn; clear hn
          have SB := hs.drop.drop.drop.drop.drop.drop
          refine ⟨hcs_one (rdB _ SB), hcs_one (rdA _ SB), ?_⟩
          exact fin cb _ _ rfl hs
        · intro cb _ hn; replace hs := Sat.new hs hn; clear hn
          have SB := hs.drop.drop.drop.drop.drop.drop
          refine ⟨hcs_one (rdB _ SB), hcs_one (rdA _ SB), ?_⟩
          refine number_sp (nums 18 _ (by decide) SB) (by decide) ?_
          refine ⟨hcs_one (rdB _ SB), hcs_one (rdA _ SB), ?_⟩
          exact fin cb _ _ rfl hs
      · intro cb _ hn; replace hs := Sat.new hs hn; clear hn
        have SB := hs.drop.drop.drop.drop.drop.drop
        refine ⟨hcs_one (rdB _ SB), hcs_one (rdA _ SB), ?_⟩
        refine number_sp (nums 10 _ (by decide) SB) (by decide) ?_
        refine ⟨hcs_one (rdB _ SB), hcs_one (rdA _ SB), ?_⟩
        refine number_sp (nums 18 _ (by decide) SB) (by decide) ?_
        refine ⟨hcs_one (rdB _ SB), hcs_one (rdA _ SB), ?_⟩
        exact fin cb _ _ rfl hs
    · intro cb _ hn; replace hs := Sat.new hs hn; clear hn
      have SB := hs.drop.drop.drop.drop.drop.drop
      refine ⟨hcs_one (rdB _ SB), hcs_one (rdA _ SB), ?_⟩
      refine number_sp (nums 2 _ (by decide) SB) (by decide) ?_
      refine ⟨hcs_one (rdB _ SB), hcs_one (rdA _ SB), ?_⟩
      refine number_sp (nums 10 _ (by decide) SB) (by decide) ?_
      refine ⟨hcs_one (rdB _ SB), hcs_one (rdA _ SB), ?_⟩
      refine number_sp (nums 18 _ (by decide) SB) (by decide) ?_
      refine ⟨hcs_one (rdB _ SB), hcs_one (rdA _ SB), ?_⟩
      exact fin cb _ _ rfl hs
  · rintro ⟨cs, p2, c2⟩ h4 ⟨hcl, hgc, hal, hs⟩
    dsimp only at hcl hgc hs ⊢
    apply hJ59
    rw [ltI_eq, if_neg (by simp)]
    clear hJ59 J59
    obtain ⟨a, ha⟩ : ∃ a, a = 8 + n6 + 26 * n7 := ⟨_, rfl⟩
    rw [← ha] at hgc hal ⊢
    rw [Nat.sub_self] at hgc
    replace hgc : gCavs bs n7 (8 + n6) [] = .ok (a, cs) := hgc
    have tg2 : tgetM bs = gRest bs a cs := by rw [tg, hgc]
    unfold gRest at tg2
    have e32 : IntKind.i64.wrap ((a : Int) + 32) = ((a + 32 : Nat) : Int) := by rw [wrap_id (by omega)]; push_cast; rfl
    rw [e32, ltI_eq]
    by_cases cl : l < a + 32
    · rw [if_pos (by rw [decide_eq_true_iff]; omega)]
      rw [if_pos (by omega)] at tg2
      exact bad wb 6 l h4 (by rw [tg2, hbl]) ⟨tok0, hs.sub (by (repeat (first | exact List.Sublist.refl _ | apply List.Sublist.cons_cons | apply List.Sublist.cons))), t35⟩
    rw [if_neg (by rw [decide_eq_true_iff]; omega)]
    rw [if_neg (by omega)] at tg2
    simp only [Int.toNat_natCast]
    rw [show (l - a).min 32 = 32 from Nat.min_eq_right (by omega)]
    have tagR := subRd (o := a) (n := 32) (m := c) (rd _ hs.drop.drop.drop.drop.drop) (by omega) (by omega)
    obtain ⟨tag, htag⟩ : ∃ tag, tag = (bs.drop a).take 32 := ⟨_, rfl⟩
    rw [← htag] at tagR tg2
    have htl : tag.length = 32 := by rw [htag]; simp; omega
    refine ⟨by omega, by omega, _, tagR, Or.inr ⟨_, rfl, Sat.can hs (i := 3) (.s (.s (.s .z))) (by simp [zeros])⟩, ?_⟩
    intro h5 e
    replace hs := Sat.wr hs (i := 3) (.s (.s (.s .z))) e
    clear e
    rw [tok_tag htl] at hs
    simp only [put_succ, put_zero] at hs
    have e32' : IntKind.i64.wrap ((a : Int) + ((32 : Nat) : Int)) = ((a + 32 : Nat) : Int) := by rw [wrap_id (by omega)]; push_cast; rfl
    rw [e32', ltI_eq]
    by_cases cr : a + 32 < l
    · rw [if_pos (by rw [decide_eq_true_iff]; omega)]
      rw [if_pos (by omega)] at tg2
      intro nb _ hn; replace hs := Sat.new hs hn; clear hn
      exact bad nb 7 _ _ tg2 ⟨tok0, hs.sub (by (repeat (first | exact List.Sublist.refl _ | apply List.Sublist.cons_cons | apply List.Sublist.cons))), t35⟩
    rw [if_neg (by rw [decide_eq_true_iff]; omega)]
    rw [if_neg (by omega)] at tg2
    have t3 := At.s (x := slE p2 n7 c2 5 (cvsV cs)) (At.s (x := slE p1 n6 c1 1 (ints .u8 id)) (At.s (x := blk wb [.int .i64 6, .int .i64 (l : Int)]) (At.z (A := blk rb tok0 :: A) (e := blk tb (tokL key p1 n6 c1 p2 n7 c2 tag)))))
    refine ⟨_, hs.ld t3 rfl, _, _, _, hs.ld t3 rfl, _, _, _, hs.ld t3 rfl, tag, htl, tok_row hs t3, ?_⟩
    refine ⟨Sat.can hs (i := 4) (.s (.s (.s (.s .z)))) (by simp [zeros]), ?_⟩
    intro h6 e
    replace hs := Sat.wra (xs := tokL key p1 n6 c1 p2 n7 c2 tag) hs (i := 4) (.s (.s (.s (.s .z)))) e (by simp [zeros, htl])
    clear e
    simp only [put_succ, put_zero] at hs
    have t4 := At.s (x := slE p2 n7 c2 5 (cvsV cs)) (At.s (x := slE p1 n6 c1 1 (ints .u8 id)) (At.s (x := blk wb [.int .i64 6, .int .i64 (l : Int)]) (At.s (x := blk tb (tokL key p1 n6 c1 p2 n7 c2 tag)) (At.z (A := A) (e := blk rb (tokL key p1 n6 c1 p2 n7 c2 tag))))))
    refine ⟨_, hs.ld t4 rfl, _, _, _, hs.ld t4 rfl, _, _, _, hs.ld t4 rfl, tag, htl, tok_row hs t4, ?_⟩
    rw [← hn6, ← hid, ← hkey] at tg2
    have K := kT _ tg2 p1 c1 p2 n7 c2 h6 hcl
    dsimp only at K
    rw [hidl] at K
    exact K (hs.sub (by (repeat (first | exact List.Sublist.refl _ | apply List.Sublist.cons_cons | apply List.Sublist.cons)))) htl
end
end Go.Proofs.YtijcpgahmbkijaaGreatDoor
end

/- Tokens: errors, and answers that the document fixes. Own work. -/
section
set_option maxRecDepth 1000000
set_option linter.unusedVariables false
namespace Go.Proofs.YtijcpgahmbkijaaGreatDoor
open Go Go.Vc

theorem nIF (t : TypeId) (v : Value) : ¬ isNilI (.iface t v) = true := Bool.false_ne_true
theorem oM_bytes (s : List Int) : ∀ t, isBytes (oM s t)
  | 0 => by
    intro n hn
    have hn : n ∈ zeros 32 := hn
    unfold zeros at hn
    rw [List.mem_replicate] at hn
    omega
  | t + 1 => by
    intro n hn
    have hn : n ∈ (oM s t).set t (outB s t) := hn
    rcases List.mem_or_eq_of_mem_set hn with h | h
    · exact oM_bytes s t n h
    · rw [h]
      unfold outB
      rw [IntKind.wrap_u8]
      omega
theorem shaM_bytes (ms : List Int) : isBytes (shaM ms) := oM_bytes _ _
theorem macM_bytes (key b : List Int) : isBytes (macM key b) := shaM_bytes _
theorem awake_put (tag : List Int) : putM24 1 [105, 100] [] tag = [80, 67, 84, 75, 1, 1, 2, 0, 105, 100] ++ tag := by
  unfold putM24 headM24 cbsM
  rw [List.append_nil]; rfl
theorem awake_get {tag : List Int} (ht : tag.length = 32) : tgetM (putM24 1 [105, 100] [] tag) = .ok ⟨1, [105, 100], [], tag⟩ := by
  rw [awake_put]
  obtain ⟨B, hB⟩ : ∃ B, B = ([80, 67, 84, 75, 1, 1, 2, 0, 105, 100] : List Int) ++ tag := ⟨_, rfl⟩
  have hl : B.length = 42 := by rw [hB, List.length_append, ht]; rfl
  have st : ∀ t, t < 8 → standsM t (B.getD t 0) = true := by
    intro t h
    have : t = 0 ∨ t = 1 ∨ t = 2 ∨ t = 3 ∨ t = 4 ∨ t = 5 ∨ t = 6 ∨ t = 7 := by omega
    rw [hB]
    rcases this with rfl | rfl | rfl | rfl | rfl | rfl | rfl | rfl <;> rfl
  have gh : ∀ k, k ≤ 8 → gHead B k = none := by
    intro k
    induction k with
    | zero => intro _; rfl
    | succ k ih =>
      intro h
      have := gHead_at B (t := 8 - (k + 1)) (by omega)
      rw [show 8 - (8 - (k + 1)) = k + 1 by omega, if_neg (by omega), if_pos (st _ (by omega)), show 8 - (8 - (k + 1) + 1) = k by omega, ih (by omega)] at this
      exact this
  have b6 : B.getD 6 0 = 2 := by rw [hB]; rfl
  have b7 : B.getD 7 0 = 0 := by rw [hB]; rfl
  have b5 : B.getD 5 0 = 1 := by rw [hB]; rfl
  have e1 : (B.drop 8).take 2 = [105, 100] := by rw [hB]; rfl
  have e2 : (B.drop 10).take 32 = tag := by
    rw [hB]
    show tag.take 32 = tag
    exact List.take_of_length_le (by omega)
  rw [← hB]
  unfold tgetM
  rw [gh 8 (by omega), b6, b7]
  dsimp only
  rw [if_neg (by rw [hl]; decide)]
  show (match gCavs B 0 10 [] with | .error e => Except.error e | .ok (a, cs) => gRest B a cs) = _
  unfold gCavs
  dsimp only
  unfold gRest
  rw [if_neg (by omega), if_neg (by omega), b5, b6, e2]
  show Except.ok (TkM.mk 1 ((B.drop 8).take 2) [] tag) = _
  rw [e1]
section
variable {h0 h : H} {A : List Ent} {i j d : Nat}
theorem told24_sp {Q : Int → Int → Bool → H → Prop} {w : Nat} {e a : Int} (hg : hc h0 ⟨0, 0, none⟩ = some errTypeV) (hs : Sat h0 A h) (m : At A i (blk w [.int .i64 e, .int .i64 a])) (he : e ≠ 0) (k : ∀ h', Sat h0 A h' → Q e a true h') :
    F_portcullislaw24_told (.iface 94 (.pointer (some ⟨w, 0, none⟩))) Q h := by
  unfold F_portcullislaw24_told G_portcullislaw24_told
  simp only [add_mk, Nat.zero_add]
  intro rb _ hn; replace hs := Sat.new hs hn; clear hn
  refine ⟨rfl, ?_⟩
  rw [if_neg (nIF _ _)]
  intro pb _ hn; replace hs := Sat.new hs hn; clear hn
  intro J hJ
  unfold F_errors_As
  refine Or.inr ⟨⟨w, 0, none⟩, pb, 0, .pointer none, rfl, rfl, hc_ext hs.ex hg (fun y => y), hs.ld (i := 0) .z rfl, ?_, ?_⟩
  · have := (Sat.can hs (i := 0) (o := 0) (n := 1) .z (by simp)) 0 (by decide)
    rw [add_zero] at this
    exact this.2
  intro b1 _ hn; replace hs := Sat.new hs hn; clear hn
  intro b2 _ hn; replace hs := Sat.new hs hn; clear hn
  intro b3 _ hn; replace hs := Sat.new hs hn; clear hn
  intro b4 _ hn; replace hs := Sat.new hs hn; clear hn
  intro h5 e5
  replace hs := Sat.wr hs (i := 4) (.s (.s (.s (.s .z)))) e5
  clear e5
  simp only [put_succ, put_zero] at hs
  replace hs := hs.drop.drop.drop.drop
  replace hs : Sat h0 (blk pb [.pointer (some ⟨w, 0, none⟩)] :: blk rb [.int .i64 0, .int .i64 0] :: A) h5 := hs
  rw [if_neg (by decide)]
  refine ⟨_, hs.ld (i := 0) .z rfl, ?_⟩
  rw [if_neg (by simp)]
  refine ⟨_, hs.ld (i := 0) .z rfl, _, rfl, _, hs.ld m.s.s rfl, ?_⟩
  rw [if_neg (by simpa using he)]
  apply hJ
  refine ⟨_, hs.ld (i := 0) .z rfl, _, rfl, _, hs.ld m.s.s rfl, _, hs.ld (i := 0) .z rfl, _, rfl, a, ?_, ?_⟩
  · have := hs.ld m.s.s (o := 1) rfl
    simpa using this
  refine ⟨Sat.can hs (i := 1) (.s .z) (by simp), ?_⟩
  intro h6 e6
  replace hs := Sat.wra hs (i := 1) (.s .z) e6 rfl
  clear e6
  simp only [put_succ, put_zero] at hs
  exact ⟨_, hs.ld (i := 1) (.s .z) rfl, _, hs.ld (i := 1) (.s .z) rfl, k _ hs.drop.drop⟩
end
end Go.Proofs.YtijcpgahmbkijaaGreatDoor
end

/- Tokens: the document's: caveats, numbers, whether they may be. Own work. -/
section
set_option maxRecDepth 100000
set_option linter.unusedVariables false
namespace Go.Proofs.YtijcpgahmbkijaaGreatDoor
open Go Go.Vc
section
variable {h0 h : H} {A : List Ent} {i j d : Nat}
theorem within_sp {Q : Bool → H → Prop} (n m : Int) (q : Q (decide (0 ≤ n ∧ n ≤ m)) h) : F_portcullisref24_within n m Q h := by
  unfold F_portcullisref24_within G_portcullisref24_within
  by_cases c : 0 ≤ n
  · rw [leI_eq, if_pos (by simpa using c), leI_eq]
    simpa [c] using q
  · rw [leI_eq, if_neg (by simpa using c)]
    simpa [c] using q
theorem only_sp {Q : Bool → H → Prop} (c : CvM) (a1 a2 a3 a4 : Bool) (hs : Sat h0 A h) (k : ∀ h', Sat h0 A h' → Q ((a1 || c.slot == 0) && ((a2 || c.frm == 0) && ((a3 || c.to == 0) && (a4 || c.set == 0)))) h') :
    F_portcullisref24_Caveat_only c.kind c.slot c.frm c.to c.set a1 a2 a3 a4 Q h := by
  unfold F_portcullisref24_Caveat_only G_portcullisref24_Caveat_only
  simp only [add_mk, Nat.zero_add]
  intro b _ hn; replace hs := Sat.new hs hn; clear hn
  have K := k _ hs.drop
  have l1 := hs.ld (i := 0) .z (o := 1) rfl
  have l2 := hs.ld (i := 0) .z (o := 2) rfl
  have l3 := hs.ld (i := 0) .z (o := 3) rfl
  have l4 := hs.ld (i := 0) .z (o := 4) rfl
  clear k hs
  generalize h1 : (c.slot == 0) = b1 at K
  generalize h2 : (c.frm == 0) = b2 at K
  generalize h3 : (c.to == 0) = b3 at K
  generalize h4 : (c.set == 0) = b4 at K
  cases a1 <;> cases a2 <;> cases a3 <;> cases a4 <;> cases b1 <;> cases b2 <;> cases b3 <;> cases b4 <;>
    (repeat first | exact K | rw [if_pos rfl] | rw [if_neg Bool.false_ne_true] | (refine ⟨_, l1, ?_⟩; rw [h1]) | (refine ⟨_, l2, ?_⟩; rw [h2]) | (refine ⟨_, l3, ?_⟩; rw [h3]) | (refine ⟨_, l4, ?_⟩; rw [h4]))
theorem rcmay_sp {Q : Bool → H → Prop} (c : CvM) (hs : Sat h0 A h) (k : ∀ h', Sat h0 A h' → Q (decide c.may) h') : F_portcullisref24_Caveat_May c.kind c.slot c.frm c.to c.set Q h := by
  unfold F_portcullisref24_Caveat_May G_portcullisref24_Caveat_May
  simp only [add_mk, Nat.zero_add]
  intro b _ hn; replace hs := Sat.new hs hn; clear hn
  replace hs : Sat h0 (blk b (cvV c) :: A) _ := hs
  have fin : ∀ (x : Bool) h', (x = true ↔ c.may) → Sat h0 (blk b (cvV c) :: A) h' → Q x h' := by
    intro x h' hx hs
    have := k _ hs.drop
    rwa [show decide c.may = x by rw [Bool.eq_iff_iff, decide_eq_true_iff]; exact hx.symm] at this
  clear k
  refine ⟨_, hs.ld (i := 0) .z rfl, ?_⟩
  by_cases c1 : c.kind = 1
  · rw [if_pos (by simpa using c1)]
    refine ⟨_, hs.ld (i := 0) .z rfl, _, hs.ld (i := 0) .z rfl, _, hs.ld (i := 0) .z rfl, _, hs.ld (i := 0) .z rfl, _, hs.ld (i := 0) .z rfl, ?_⟩
    refine only_sp c _ _ _ _ hs ?_
    intro h1 hs
    have fin := fun x => fin x h1
    unfold CvM.may at fin
    generalize bits .andNot .u64 c.set 16382 = z at *
    split
    · rename_i g
      simp at g
      refine ⟨_, hs.ld (i := 0) .z rfl, ?_⟩
      refine within_sp _ _ (fin _ ?_ hs)
      rw [decide_eq_true_iff]; omega
    · rename_i g
      simp at g
      exact fin _ (by simp; omega) hs
  rw [if_neg (by simpa using c1)]
  by_cases c2 : c.kind = 2
  · rw [if_pos (by simpa using c2)]
    refine ⟨_, hs.ld (i := 0) .z rfl, _, hs.ld (i := 0) .z rfl, _, hs.ld (i := 0) .z rfl, _, hs.ld (i := 0) .z rfl, _, hs.ld (i := 0) .z rfl, ?_⟩
    refine only_sp c _ _ _ _ hs ?_
    intro h1 hs
    have fin := fun x => fin x h1
    unfold CvM.may at fin
    generalize bits .andNot .u64 c.set 16382 = z at *
    split
    · rename_i g
      simp at g
      refine ⟨_, hs.ld (i := 0) .z rfl, ?_⟩
      refine within_sp _ _ ?_
      split
      · rename_i g2
        simp at g2
        refine ⟨_, hs.ld (i := 0) .z rfl, ?_⟩
        refine within_sp _ _ ?_
        split
        · rename_i g3
          simp at g3
          refine ⟨_, hs.ld (i := 0) .z rfl, _, hs.ld (i := 0) .z rfl, ?_⟩
          rw [leI_eq]
          exact fin _ (by rw [decide_eq_true_iff]; omega) hs
        · rename_i g3
          simp at g3
          exact fin _ (by simp; omega) hs
      · rename_i g2
        simp at g2
        exact fin _ (by simp; omega) hs
    · rename_i g
      simp at g
      exact fin _ (by simp; omega) hs
  rw [if_neg (by simpa using c2)]
  by_cases c3 : c.kind = 3
  · rw [if_pos (by simpa using c3)]
    refine ⟨_, hs.ld (i := 0) .z rfl, _, hs.ld (i := 0) .z rfl, _, hs.ld (i := 0) .z rfl, _, hs.ld (i := 0) .z rfl, _, hs.ld (i := 0) .z rfl, ?_⟩
    refine only_sp c _ _ _ _ hs ?_
    intro h1 hs
    have fin := fun x => fin x h1
    unfold CvM.may at fin
    split
    · rename_i g
      simp at g
      refine ⟨_, hs.ld (i := 0) .z rfl, ?_⟩
      split
      · rename_i g2
        simp at g2
        refine ⟨_, hs.ld (i := 0) .z rfl, ?_⟩
        refine fin _ ?_ hs
        generalize bits .andNot .u64 c.set 16382 = z at *
        rw [beq_iff_eq]
        omega
      · rename_i g2
        simp at g2
        generalize bits .andNot .u64 c.set 16382 = z at *
        exact fin _ (by simp; omega) hs
    · rename_i g
      simp at g
      generalize bits .andNot .u64 c.set 16382 = z at *
      exact fin _ (by simp; omega) hs
  rw [if_neg (by simpa using c3)]
  by_cases c4 : c.kind = 4
  · rw [if_pos (by simpa using c4)]
    refine ⟨_, hs.ld (i := 0) .z rfl, _, hs.ld (i := 0) .z rfl, _, hs.ld (i := 0) .z rfl, _, hs.ld (i := 0) .z rfl, _, hs.ld (i := 0) .z rfl, ?_⟩
    refine only_sp c _ _ _ _ hs ?_
    intro h1 hs
    have fin := fun x => fin x h1
    unfold CvM.may at fin
    generalize bits .andNot .u64 c.set 16382 = z at *
    split
    · rename_i g
      simp at g
      refine ⟨_, hs.ld (i := 0) .z rfl, ?_⟩
      refine within_sp _ _ ?_
      split
      · rename_i g2
        simp at g2
        refine ⟨_, hs.ld (i := 0) .z rfl, ?_⟩
        first
          | (refine within_sp _ _ (fin _ ?_ hs); rw [decide_eq_true_iff]; omega)
          | (intro v hv; subst hv; refine within_sp _ _ (fin _ ?_ hs); rw [decide_eq_true_iff]; omega)
      · rename_i g2
        simp at g2
        exact fin _ (by simp; omega) hs
    · rename_i g
      simp at g
      exact fin _ (by simp; omega) hs
  rw [if_neg (by simpa using c4)]
  by_cases c5 : c.kind = 5
  · rw [if_pos (by simpa using c5)]
    refine ⟨_, hs.ld (i := 0) .z rfl, _, hs.ld (i := 0) .z rfl, _, hs.ld (i := 0) .z rfl, _, hs.ld (i := 0) .z rfl, _, hs.ld (i := 0) .z rfl, ?_⟩
    refine only_sp c _ _ _ _ hs ?_
    intro h1 hs
    have fin := fun x => fin x h1
    unfold CvM.may at fin
    generalize bits .andNot .u64 c.set 16382 = z at *
    split
    · rename_i g
      simp at g
      refine ⟨_, hs.ld (i := 0) .z rfl, ?_⟩
      refine within_sp _ _ ?_
      split
      · rename_i g2
        simp at g2
        refine ⟨_, hs.ld (i := 0) .z rfl, ?_⟩
        first
          | (refine within_sp _ _ (fin _ ?_ hs); rw [decide_eq_true_iff]; omega)
          | (intro v hv; subst hv; refine within_sp _ _ (fin _ ?_ hs); rw [decide_eq_true_iff]; omega)
      · rename_i g2
        simp at g2
        exact fin _ (by simp; omega) hs
    · rename_i g
      simp at g
      exact fin _ (by simp; omega) hs
  rw [if_neg (by simpa using c5)]
  refine fin _ _ ?_ hs
  unfold CvM.may
  generalize bits .andNot .u64 c.set 16382 = z at *
  simp; omega
theorem reight_sp {Q : Option Addr → Nat → Nat → H → Prop} {p : Option Addr} {l c : Nat} {bs : List Int} (n : Int) (hs : Sat h0 A h) (m : At A i (slE p l c 1 (ints .u8 bs))) (hb : l + 8 ≤ 2 ^ 40)
    (k : ∀ p' c' h', Sat h0 (put A i (slE p' (l + 8) c' 1 (ints .u8 (bs ++ eightM n 8)))) h' → Q p' (l + 8) c' h') : F_portcullisref24_eight p l c n Q h := by
  unfold F_portcullisref24_eight G_portcullisref24_eight
  intro J hJ
  refine loopS 8 (fun t (s : Option Addr × Nat) => [.dv (.one (.slice s.1 (l + t) s.2)), si t]) (fun t s h => Sat h0 (put A i (slE s.1 (l + t) s.2 1 (ints .u8 (bs ++ eightM n t)))) h) ?_ ?_ 0 (p, c) _ (by omega) (by
    have : put A i (slE p (l + 0) c 1 (ints .u8 (bs ++ eightM n 0))) = A := by simpa [eightM] using m.put_self
    rw [this]; exact hs)
  · rintro t ⟨p1, c1⟩ h1 ht hs hk
    dsimp only at hs ⊢
    apply hJ
    rw [ltI_eq, if_pos (by simp; omega)]
    have e8 : IntKind.i64.wrap (8 * (t : Int)) = ((8 * t : Nat) : Int) := by rw [wrap_id (by omega)]; push_cast; rfl
    rw [e8, Int.toNat_natCast]
    refine ⟨by omega, ?_⟩
    intro b _ hn; replace hs := Sat.new hs hn; clear hn
    refine ⟨_, hs.bv (i := 0) (l := 1) .z rfl (ints_one .u8 [IntKind.u8.wrap (n.fdiv (2 ^ min (8 * t) 64))]), ?_⟩
    refine Sat.app hs (i := i + 1) (vs := ints .u8 [IntKind.u8.wrap (n.fdiv (2 ^ min (8 * t) 64))]) (.s (m.put _)) rfl rfl (ints_one _ _) (by omega) ?_
    intro p' c' h2 hs
    simp only [put_succ, put_put] at hs
    rw [wrap_succ (by omega)]
    have := hk (p', c') h2
    dsimp only at this
    refine this ?_
    have e : eightM n (t + 1) = eightM n t ++ [IntKind.u8.wrap (n.fdiv (2 ^ min (8 * t) 64))] := by unfold eightM; rw [List.range_succ, List.map_append]; rfl
    rw [e, ← List.append_assoc]
    have e2 : ints .u8 (bs ++ eightM n t ++ [IntKind.u8.wrap (n.fdiv (2 ^ min (8 * t) 64))]) = ints .u8 (bs ++ eightM n t) ++ ints .u8 [IntKind.u8.wrap (n.fdiv (2 ^ min (8 * t) 64))] := by unfold ints; rw [List.map_append]
    rw [e2]
    exact hs.drop
  · rintro ⟨p1, c1⟩ h1 hs
    apply hJ
    rw [ltI_eq, if_neg (by decide)]
    exact k _ _ _ hs
theorem rcbytes_sp {Q : Option Addr → Nat → Nat → H → Prop} (c : CvM) (hs : Sat h0 A h) (k : ∀ p' c' h', Sat h0 (slE p' 26 c' 1 (ints .u8 (cbM c)) :: A) h' → Q p' 26 c' h') : F_portcullisref24_Caveat_Bytes c.kind c.slot c.frm c.to c.set Q h := by
  unfold F_portcullisref24_Caveat_Bytes G_portcullisref24_Caveat_Bytes
  simp only [add_mk, Nat.zero_add]
  intro b _ hn; replace hs := Sat.new hs hn; clear hn
  refine ⟨_, hs.ld (i := 0) .z rfl, _, hs.ld (i := 0) .z rfl, ?_⟩
  intro b2 _ hn; replace hs := Sat.new hs hn; clear hn
  refine ⟨_, hs.ld (i := 1) (.s .z) rfl, ?_⟩
  replace hs := hs.as_sl (i := 0) (l := 2) (sz := 1) .z rfl (ints_one .u8 [IntKind.u8.wrap c.kind, IntKind.u8.wrap c.slot])
  rw [put_zero] at hs
  refine reight_sp (bs := [IntKind.u8.wrap c.kind, IntKind.u8.wrap c.slot]) _ hs (i := 0) .z (by decide) ?_
  intro p1 c1 h1 hs
  rw [put_zero] at hs
  refine ⟨_, hs.ld (i := 1) (.s .z) rfl, ?_⟩
  refine reight_sp _ hs (i := 0) .z (by decide) ?_
  intro p2 c2 h2 hs
  rw [put_zero] at hs
  refine ⟨_, hs.ld (i := 1) (.s .z) rfl, ?_⟩
  refine reight_sp _ hs (i := 0) .z (by decide) ?_
  intro p3 c3 h3 hs
  rw [put_zero] at hs
  refine k p3 c3 h3 ?_
  exact hs.sub (by (repeat (first | exact List.Sublist.refl _ | apply List.Sublist.cons_cons | apply List.Sublist.cons)))
theorem rnumber_sp {Q : Int → H → Prop} {p : Option Addr} {l c : Nat} {bs : List Int} (rd : hsv h p 1 l (ints .u8 bs)) (hl : 8 ≤ l) (q : Q (nuM bs 8) h) : F_portcullisref24_number p l c Q h := by
  unfold F_portcullisref24_number G_portcullisref24_number
  intro J hJ
  refine loopS 8 (fun t (x : Int) => [.dv (.one (.int .u64 x)), si t]) (fun t x h' => x = nuM bs t ∧ h' = h) ?_ ?_ 0 0 _ (by omega) ⟨rfl, rfl⟩
  · rintro t x h1 ht ⟨hx, hh⟩ hk
    subst hx hh
    apply hJ
    rw [ltI_eq, if_pos (by simp; omega)]
    obtain ⟨q1, hq1, g⟩ := hsvI rd (x := t) (by omega)
    have e8 : IntKind.i64.wrap (8 * (t : Int)) = ((8 * t : Nat) : Int) := by rw [wrap_id (by omega)]; push_cast; rfl
    rw [e8]
    simp only [Int.toNat_natCast, Nat.mul_one]
    refine ⟨q1, hq1, by omega, by omega, _, g, by omega, ?_⟩
    rw [wrap_succ (by omega)]
    exact hk _ _ ⟨rfl, rfl⟩
  · rintro x h1 ⟨hx, hh⟩
    subst hx hh
    apply hJ
    rw [ltI_eq, if_neg (by decide)]
    exact q
theorem rhead_sp {Q : Bool → H → Prop} (t : Nat) (c : Int) (ht : t < 8) (q : Q (standsM t c) h) : F_portcullisref24_head (t : Int) c Q h := by
  unfold F_portcullisref24_head G_portcullisref24_head
  unfold standsM at q
  by_cases c4 : t = 4
  · subst c4
    exact q
  rw [if_neg (by simp; omega)]
  by_cases c5 : t = 5
  · rw [if_pos c5] at q
    rw [if_pos (by simp [c5]), leI_eq]
    rwa [show decide (c ≤ 63) = decide (c < 64) by rw [Bool.eq_iff_iff, decide_eq_true_iff, decide_eq_true_iff]; omega]
  rw [if_neg c5] at q
  rw [if_neg (by simp; omega)]
  by_cases c6 : t = 6
  · rw [if_pos c6] at q
    rw [if_pos (by simp [c6]), leI_eq]
    by_cases g : 1 ≤ c
    · rw [if_pos (by simpa using g), leI_eq]
      simpa [g] using q
    · rw [if_neg (by simpa using g)]
      simpa [g] using q
  rw [if_neg c6] at q
  rw [if_neg (by simp; omega)]
  by_cases c7 : t = 7
  · rw [if_pos c7] at q
    rw [if_pos (by simp [c7]), leI_eq]
    exact q
  rw [if_neg c7] at q
  rw [if_neg (by simp; omega)]
  refine ⟨by omega, by omega, ?_⟩
  rw [Int.toNat_natCast]
  have : t = 0 ∨ t = 1 ∨ t = 2 ∨ t = 3 := by omega
  rcases this with rfl | rfl | rfl | rfl <;> exact q
theorem rfew_sp {Q : Bool → H → Prop} {key : Int} {tag : List Int} {ip cp : Option Addr} {il ic cl cc : Nat} (hs : Sat h0 A h) (k : ∀ h', Sat h0 A h' → Q (decide (cl ≤ 65536)) h') : F_portcullisref24_Few key ip il ic cp cl cc tag Q h := by
  unfold F_portcullisref24_Few G_portcullisref24_Few
  simp only [add_mk, Nat.zero_add, List.append_nil]
  intro b _ hn; replace hs := Sat.new hs hn; clear hn
  replace hs : Sat h0 (blk b (tokL key ip il ic cp cl cc tag) :: A) _ := hs
  refine ⟨_, _, _, hs.ld (i := 0) .z rfl, ?_⟩
  have := k _ hs.drop
  rw [leI_eq]
  rwa [show decide ((cl : Int) ≤ 65536) = decide (cl ≤ 65536) by rw [Bool.eq_iff_iff, decide_eq_true_iff, decide_eq_true_iff]; omega]
end
end Go.Proofs.YtijcpgahmbkijaaGreatDoor
end

/- Tokens: the document's Put; whether two are the same; copies. Own work. -/
section
set_option maxRecDepth 100000
set_option linter.unusedVariables false
namespace Go.Proofs.YtijcpgahmbkijaaGreatDoor
open Go Go.Vc
theorem cv1 (c : CvM) : ∀ v, v ∈ cvV c → v.oneCell' = true := by
  intro v hv
  simp only [List.mem_cons, List.not_mem_nil, or_false] at hv
  rcases hv with rfl | rfl | rfl | rfl | rfl <;> rfl
theorem cvsV_snoc (cs : List CvM) (c : CvM) : cvsV (cs ++ [c]) = cvsV cs ++ cvV c := by rw [cvsV_app]; simp [cvsV]
theorem take_snoc {α : Type} (l : List α) {t : Nat} (h : t < l.length) : l.take (t + 1) = l.take t ++ [l[t]] := by rw [List.take_succ, List.getElem?_eq_getElem h]; rfl
section
variable {h0 h : H} {A : List Ent} {i j d : Nat}
theorem rsame_sp {Q : Bool → H → Prop} {key : Int} {id tag : List Int} {cs : List CvM} {ip cp ip2 cp2 : Option Addr} {il ic cl cc il2 ic2 cl2 cc2 : Nat} (hs : Sat h0 A h) (ht : tag.length = 32) (hl : cl < 2 ^ 60)
    (ri : ∀ h', Sat h0 A h' → hsv h' ip 1 il (ints .u8 id)) (rc : ∀ h', Sat h0 A h' → hsv h' cp 5 cl (cvsV cs)) (ri2 : ∀ h', Sat h0 A h' → hsv h' ip2 1 il2 (ints .u8 id)) (rc2 : ∀ h', Sat h0 A h' → hsv h' cp2 5 cl2 (cvsV cs))
    (k : ∀ h', Sat h0 A h' → Q true h') : F_portcullisref24_Same key ip il ic cp cl cc tag key ip2 il2 ic2 cp2 cl2 cc2 tag Q h := by
  unfold F_portcullisref24_Same G_portcullisref24_Same
  simp only [add_mk, Nat.zero_add, List.append_nil]
  have hcl : cs.length = cl := by have := (rc _ hs).1; rw [cvsV_len] at this; omega
  have hcl2 : cs.length = cl2 := by have := (rc2 _ hs).1; rw [cvsV_len] at this; omega
  obtain rfl : cl = cl2 := by omega
  intro tb _ hn; replace hs := Sat.new hs hn; clear hn
  intro ub _ hn; replace hs := Sat.new hs hn; clear hn
  replace hs : Sat h0 (blk ub (tokL key ip2 il2 ic2 cp2 cl cc2 tag) :: blk tb (tokL key ip il ic cp cl cc tag) :: A) _ := hs
  intro J24 hJ24
  refine ⟨_, hs.ld (i := 1) (.s .z) rfl, _, hs.ld (i := 0) .z rfl, ?_⟩
  rw [if_neg (by simp)]
  refine ⟨_, _, _, hs.ld (i := 1) (.s .z) rfl, id, ri _ hs.drop.drop, _, _, _, hs.ld (i := 0) .z rfl, id, ri2 _ hs.drop.drop, ?_⟩
  rw [if_neg (by simp)]
  refine ⟨tag, ht, tok_row hs (i := 1) (.s .z), tag, ht, tok_row hs (i := 0) .z, ?_⟩
  rw [if_neg (by simp)]
  refine ⟨_, _, _, hs.ld (i := 1) (.s .z) rfl, _, _, _, hs.ld (i := 0) .z rfl, ?_⟩
  rw [if_neg (by simp)]
  apply hJ24
  clear hJ24 J24
  intro J hJ
  refine loop_up cl (fun t h => Sat h0 (blk ub (tokL key ip2 il2 ic2 cp2 cl cc2 tag) :: blk tb (tokL key ip il ic cp cl cc tag) :: A) h) ?_ ?_ 0 _ (by omega) hs
  · intro t h1 ht2 hs hk
    apply hJ
    refine ⟨_, _, _, hs.ld (i := 1) (.s .z) rfl, ?_⟩
    rw [ltI_eq, if_pos (by simp; omega)]
    obtain ⟨q, hl2, hq, g0, g1, g2, g3, g4⟩ := cv_rd (rc _ hs.drop.drop) (i := t) ht2
    obtain ⟨q', hl2', hq', g0', g1', g2', g3', g4'⟩ := cv_rd (rc2 _ hs.drop.drop) (i := t) ht2
    refine ⟨_, _, _, hs.ld (i := 1) (.s .z) rfl, q, hq, by omega, by omega, ?_⟩
    simp only [Int.toNat_natCast]
    refine ⟨_, g0, _, g1, _, g2, _, g3, _, g4, ?_⟩
    refine ⟨_, _, _, hs.ld (i := 0) .z rfl, q', hq', by omega, by omega, _, g0', _, g1', _, g2', _, g3', _, g4', ?_⟩
    rw [if_neg (by simp), wrap_succ (by omega)]
    exact hk _ hs
  · intro h1 hs
    apply hJ
    refine ⟨_, _, _, hs.ld (i := 1) (.s .z) rfl, ?_⟩
    rw [ltI_eq, if_neg (by simp)]
    exact k _ hs.drop.drop
end
end Go.Proofs.YtijcpgahmbkijaaGreatDoor
end

/- Tokens: the document's Get. Own work. -/
section
set_option maxRecDepth 100000
set_option linter.unusedVariables false
namespace Go.Proofs.YtijcpgahmbkijaaGreatDoor
open Go Go.Vc
theorem tok_set {key : Int} {ip cp : Option Addr} {il ic cl cc : Nat} {tag : List Int} {t : Nat} {v : Int} : splice (tokL key ip il ic cp cl cc tag) (3 + t) [.int .u8 v] = tokL key ip il ic cp cl cc (tag.set t v) := by
  show (tokL key ip il ic cp cl cc tag).set (3 + t) (.int .u8 v) = _
  rw [Nat.add_comm]
  show .int .i64 key :: .slice ip il ic :: .slice cp cl cc :: (ints .u8 tag).set t (.int .u8 v) = _
  rw [ints_set]
theorem set_part (tag : List Int) (n t : Nat) (ht : t < tag.length) (hn : tag.length = n) : (tag.take t ++ zeros (n - t)).set t tag[t] = tag.take (t + 1) ++ zeros (n - (t + 1)) := by
  have e : zeros (n - t) = 0 :: zeros (n - (t + 1)) := by
    rw [show n - t = (n - (t + 1)) + 1 by omega]; rfl
  rw [e, List.set_append_right _ _ (by simp; omega), take_snoc _ ht]
  have : t - (tag.take t).length = 0 := by simp; omega
  rw [this, List.append_assoc]
  rfl
section
variable {h0 h : H} {A : List Ent} {i j d : Nat}
theorem rget_sp {Q : Int → Option Addr → Nat → Nat → Option Addr → Nat → Nat → List Int → Int → Int → H → Prop} {bs : List Int} {p : Option Addr} {l c : Nat} (hs : Sat h0 A h) (hb : isBytes bs) (hlc : l ≤ c) (hl : l < 2 ^ 47) (rd : ∀ h', Sat h0 A h' → hsv h' p 1 l (ints .u8 bs))
    (kE : ∀ e a, tgetM bs = .error (e, a) → ∀ h', Sat h0 A h' → Q 0 none 0 0 none 0 0 (zeros 32) e a h')
    (kT : ∀ t, tgetM bs = .ok t → ∀ p1 c1 p2 l2 c2 h', t.cs.length = l2 → Sat h0 (slE p2 l2 c2 5 (cvsV t.cs) :: slE p1 t.id.length c1 1 (ints .u8 t.id) :: A) h' → t.tag.length = 32 → Q t.key p1 t.id.length c1 p2 l2 c2 t.tag 0 0 h') :
    F_portcullisref24_Get p l c Q h := by
  unfold F_portcullisref24_Get G_portcullisref24_Get
  simp only [add_mk, Nat.zero_add, List.append_nil]
  have hbl : bs.length = l := by have := (rd _ hs).1; simpa using this
  intro rb _ hn; replace hs := Sat.new hs hn; clear hn
  intro wb _ hn; replace hs := Sat.new hs hn; clear hn
  replace hs : Sat h0 (blk wb [.int .i64 0, .int .i64 0] :: blk rb tok0 :: A) _ := hs
  have bad : ∀ (e a : Int) (h' : H) (B : List Ent), tgetM bs = .error (e, a) → Sat h0 (blk wb [.int .i64 0, .int .i64 0] :: blk rb tok0 :: A) h' →
      hcan h' ⟨rb, 0, none⟩ 35 ∧ ∀ h17 : H, h17 = hwr h' ⟨rb, 0, none⟩ tok0 → hcan h17 ⟨wb, 0, none⟩ 2 ∧ ∀ h19 : H, h19 = hwr h17 ⟨wb, 0, none⟩ [.int .i64 e, .int .i64 a] →
        ∃ i21 : Int, hc h19 ⟨rb, 0, none⟩ = some (.int .i64 i21) ∧ ∃ (o22 : Option Addr) (n23 n24 : Nat), hc h19 ⟨rb, 1, none⟩ = some (.slice o22 n23 n24) ∧ ∃ (o25 : Option Addr) (n26 n27 : Nat), hc h19 ⟨rb, 2, none⟩ = some (.slice o25 n26 n27) ∧
          ∃ l28 : List Int, l28.length = 32 ∧ hrow h19 ⟨rb, 3, none⟩ .u8 l28 ∧ ∃ i29 : Int, hc h19 ⟨wb, 0, none⟩ = some (.int .i64 i29) ∧ ∃ i30 : Int, hc h19 ⟨wb, 1, none⟩ = some (.int .i64 i30) ∧ Q i21 o22 n23 n24 o25 n26 n27 l28 i29 i30 h19 := by
    intro e a h' _ he hs
    refine ⟨Sat.can hs (i := 1) (.s .z) (by simp [zeros]), ?_⟩
    intro h2 e2
    replace hs := Sat.wra (xs := tok0) hs (i := 1) (.s .z) e2 rfl
    clear e2
    simp only [put_succ, put_zero] at hs
    refine ⟨Sat.can hs (i := 0) .z (by simp), ?_⟩
    intro h3 e3
    replace hs := Sat.wra hs (i := 0) .z e3 rfl
    clear e3
    simp only [put_zero] at hs
    refine ⟨_, hs.ld (i := 1) (.s .z) rfl, _, _, _, hs.ld (i := 1) (.s .z) rfl, _, _, _, hs.ld (i := 1) (.s .z) rfl, _, zeros_len 32, tok_row hs (i := 1) (.s .z), ?_⟩
    refine ⟨_, hs.ld (i := 0) .z rfl, _, hs.ld (i := 0) .z rfl, ?_⟩
    exact kE e a he _ hs.drop.drop
  clear kE
  intro J36 hJ36
  refine loop_up 8 (fun t h => gHead bs 8 = gHead bs (8 - t) ∧ t ≤ bs.length ∧ Sat h0 (blk wb [.int .i64 0, .int .i64 0] :: blk rb tok0 :: A) h) ?_ ?_ 0 _ (by omega) ⟨rfl, by omega, hs⟩
  · rintro t h1 ht ⟨hg, htl, hs⟩ hk
    apply hJ36
    rw [ltI_eq, if_pos (by simp; omega)]
    rw [gHead_at bs ht] at hg
    by_cases ce : t = l
    · rw [if_pos (by simp [ce])]
      rw [if_pos (by omega)] at hg
      refine bad 6 t h1 [] ?_ hs
      unfold tgetM
      rw [hg, hbl, ce]
    rw [if_neg (by simp; omega)]
    rw [if_neg (by omega)] at hg
    obtain ⟨q, hq, g⟩ := hsvI (rd _ hs.drop.drop) (x := t) (by omega)
    refine ⟨q, hq, by omega, by omega, ?_⟩
    simp only [Int.toNat_natCast, Nat.mul_one]
    refine ⟨_, g, ?_⟩
    refine rhead_sp t _ ht ?_
    by_cases cs : standsM t (bs.getD t 0) = true
    · rw [if_pos cs] at hg
      rw [cs, if_neg (by decide), wrap_succ (by omega)]
      exact hk _ ⟨hg, by omega, hs⟩
    · rw [if_neg cs] at hg
      have cs' : standsM t (bs.getD t 0) = false := by simpa using cs
      rw [cs', if_pos (by decide)]
      refine bad 5 t _ [] ?_ hs
      unfold tgetM
      rw [hg]
  rintro h1 ⟨hg, hl8, hs⟩
  apply hJ36
  rw [ltI_eq, if_neg (by decide)]
  clear hJ36 J36
  replace hg : gHead bs 8 = none := hg
  obtain ⟨q, hq, _⟩ := hsvI (rd _ hs.drop.drop) (x := 0) (by omega)
  subst hq
  have rdx : ∀ h' x, Sat h0 A h' → x < l → hc h' (q.add x) = some (.int .u8 (bs.getD x 0)) := by
    intro h' x hs' hx
    obtain ⟨q', hq', g⟩ := hsvI (rd _ hs') (x := x) hx
    injection hq' with hq'
    subst hq'
    exact g
  obtain ⟨n6, hn6⟩ : ∃ n6, n6 = (bs.getD 6 0).toNat := ⟨_, rfl⟩
  obtain ⟨n7, hn7⟩ : ∃ n7, n7 = (bs.getD 7 0).toNat := ⟨_, rfl⟩
  have b5 := isB_get hb 5
  have b6 := isB_get hb 6
  have b7 := isB_get hb 7
  have tg : tgetM bs = if bs.length < 8 + n6 then .error (6, (bs.length : Int)) else match gCavs bs n7 (8 + n6) [] with | .error e => .error e | .ok (a, cs) => gRest bs a cs := by
    unfold tgetM
    rw [hg, hn6, hn7]
    try rfl
  have e86 : IntKind.i64.wrap (8 + IntKind.i64.wrap (bs.getD 6 0)) = ((8 + n6 : Nat) : Int) := by
    rw [wrap_id (n := bs.getD 6 0) (by omega), wrap_id (by omega)]; omega
  refine ⟨q, rfl, by decide, by omega, _, rdx _ 5 hs.drop.drop (by omega), ?_⟩
  intro tb _ hn; replace hs := Sat.new hs hn; clear hn
  refine ⟨Sat.can hs (i := 0) .z (by simp [zeros]), ?_⟩
  intro h2 e2
  replace hs := Sat.wra hs (i := 0) .z e2 (by simp [zeros])
  clear e2
  rw [wrap_id (n := bs.getD 5 0) (by omega)] at hs
  simp only [put_zero] at hs
  obtain ⟨key, hkey⟩ : ∃ key, key = bs.getD 5 0 := ⟨_, rfl⟩
  rw [← hkey] at hs
  replace hs : Sat h0 (blk tb (tokL key none 0 0 none 0 0 (zeros 32)) :: blk wb [.int .i64 0, .int .i64 0] :: blk rb tok0 :: A) h2 := hs
  refine ⟨q, rfl, by decide, by omega, _, rdx _ 6 hs.drop.drop.drop (by omega), ?_⟩
  rw [e86, ltI_eq]
  by_cases c6 : l < 8 + n6
  · rw [if_pos (by rw [decide_eq_true_iff]; omega)]
    refine bad 6 l h2 [] ?_ hs.drop
    rw [tg, if_pos (by omega), hbl]
  rw [if_neg (by rw [decide_eq_true_iff]; omega)]
  rw [if_neg (by omega)] at tg
  intro eb _ hn; replace hs := Sat.new hs hn; clear hn
  simp only [Int.toNat_natCast]
  rw [show 8 + n6 - 8 = n6 by omega]
  refine ⟨by decide, by omega, by omega, _, subRd (o := 8) (n := n6) (m := c) (rd _ hs.drop.drop.drop.drop) (by omega) (by omega), ?_⟩
  obtain ⟨id, hid⟩ : ∃ id, id = (bs.drop 8).take n6 := ⟨_, rfl⟩
  rw [← hid]
  have hidl : id.length = n6 := by rw [hid]; simp; omega
  refine Sat.app_new hs (by simp [hidl]) rfl (ints_one _ _) (by omega) ?_
  intro p1 c1 h3 hs
  refine ⟨Sat.can hs (i := 2) (.s (.s .z)) (by simp [zeros]), ?_⟩
  intro h4 e4
  replace hs := Sat.wr hs (i := 2) (.s (.s .z)) e4
  clear e4
  simp only [put_succ, put_zero] at hs
  replace hs : Sat h0 (slE p1 n6 c1 1 (ints .u8 id) :: blk eb [] :: blk tb (tokL key p1 n6 c1 none 0 0 (zeros 32)) :: blk wb [.int .i64 0, .int .i64 0] :: blk rb tok0 :: A) h4 := hs
  replace hs : Sat h0 (slE p1 n6 c1 1 (ints .u8 id) :: blk tb (tokL key p1 n6 c1 none 0 0 (zeros 32)) :: blk wb [.int .i64 0, .int .i64 0] :: blk rb tok0 :: A) h4 := hs.sub (by (repeat (first | exact List.Sublist.refl _ | apply List.Sublist.cons_cons | apply List.Sublist.cons)))
  have e7 : IntKind.i64.wrap (bs.getD 7 0) = (n7 : Int) := by rw [wrap_id (by omega)]; omega
  intro J59 hJ59
  refine loopS n7 (fun t (_ : List CvM × Option Addr × Nat) => [.dv (.one (.int .i64 ((8 + n6 + 26 * t : Nat) : Int))), si t])
    (fun t s h => s.1.length = t ∧ gCavs bs n7 (8 + n6) [] = gCavs bs (n7 - t) (8 + n6 + 26 * t) s.1 ∧ 8 + n6 + 26 * t ≤ l ∧ Sat h0 (slE s.2.1 t s.2.2 5 (cvsV s.1) :: slE p1 n6 c1 1 (ints .u8 id) :: blk tb (tokL key p1 n6 c1 s.2.1 t s.2.2 (zeros 32)) :: blk wb [.int .i64 0, .int .i64 0] :: blk rb tok0 :: A) h) ?_ ?_ 0 ([], none, 0) _ (by omega)
    ⟨rfl, rfl, by omega, hs.sl_nil 5 none⟩
  · rintro t ⟨cs, p2, c2⟩ h4 ht ⟨hcl, hgc, hal, hs⟩ hk
    dsimp only at hcl hgc hs hk ⊢
    apply hJ59
    obtain ⟨a, ha⟩ : ∃ a, a = 8 + n6 + 26 * t := ⟨_, rfl⟩
    rw [← ha] at hgc hal ⊢
    refine ⟨q, rfl, by decide, by omega, _, rdx _ 7 hs.drop.drop.drop.drop.drop (by omega), ?_⟩
    rw [e7, ltI_eq, if_pos (by simp; omega)]
    rw [gCavs_at bs cs ht] at hgc
    have e26 : IntKind.i64.wrap ((a : Int) + 26) = ((a + 26 : Nat) : Int) := by rw [wrap_id (by omega)]; push_cast; rfl
    rw [e26, ltI_eq]
    by_cases cl : l < a + 26
    · rw [if_pos (by rw [decide_eq_true_iff]; omega)]
      rw [if_pos (by omega)] at hgc
      refine bad 6 l h4 [] ?_ hs.drop.drop.drop
      rw [tg, hgc, hbl]
    rw [if_neg (by rw [decide_eq_true_iff]; omega)]
    rw [if_neg (by omega)] at hgc
    intro J64 hJ64
    obtain ⟨C, hC⟩ : ∃ C, C = cvAt bs a := ⟨_, rfl⟩
    rw [← hC] at hgc
    have wayC : ∀ (cb : Nat) h', Sat h0 (blk cb (cvV C) :: slE p2 t c2 5 (cvsV cs) :: slE p1 n6 c1 1 (ints .u8 id) :: blk tb (tokL key p1 n6 c1 p2 t c2 (zeros 32)) :: blk wb [.int .i64 0, .int .i64 0] :: blk rb tok0 :: A) h' → J64 [.dv (.addr ⟨cb, 0, none⟩)] h' := by
      intro cb h5 hs
      apply hJ64
      clear hJ64 J64
      simp only [add_mk, Nat.zero_add]
      refine ⟨_, hs.ld (i := 0) .z rfl, _, hs.ld (i := 0) .z rfl, _, hs.ld (i := 0) .z rfl, _, hs.ld (i := 0) .z rfl, _, hs.ld (i := 0) .z rfl, ?_⟩
      refine rcmay_sp C hs ?_
      intro h6 hs
      by_cases gm : C.may
      case neg =>
        rw [if_pos (by simp [gm])]
        rw [if_neg gm] at hgc
        refine bad 5 a _ [] ?_ hs.drop.drop.drop.drop
        rw [tg, hgc]
      rw [if_neg (by simp [gm])]
      rw [if_pos gm] at hgc
      refine ⟨_, _, _, hs.ld (i := 3) (.s (.s (.s .z))) rfl, ?_⟩
      refine ⟨_, hs.ld (i := 0) .z rfl, _, hs.ld (i := 0) .z rfl, _, hs.ld (i := 0) .z rfl, _, hs.ld (i := 0) .z rfl, _, hs.ld (i := 0) .z rfl, ?_⟩
      intro bb _ hn; replace hs := Sat.new hs hn; clear hn
      refine ⟨_, hs.bv (i := 0) (l := 1) (sz := 5) .z rfl (cv1 C), ?_⟩
      refine Sat.app hs (i := 2) (vs := cvV C) (.s (.s .z)) rfl rfl (cv1 C) (by omega) ?_
      intro p3 c3 h7 hs
      simp only [put_succ, put_zero] at hs
      replace hs := hs.drop.drop
      refine ⟨Sat.can hs (i := 2) (.s (.s .z)) (by simp [zeros]), ?_⟩
      intro h8 e
      replace hs := Sat.wr hs (i := 2) (.s (.s .z)) e
      clear e
      rw [tok_cs] at hs
      simp only [put_succ, put_zero] at hs
      rw [wrap_succ (by omega)]
      have K := hk (cs ++ [C], p3, c3) h8
      dsimp only at K
      rw [show 8 + n6 + 26 * (t + 1) = a + 26 by omega] at K
      refine K ⟨by simp [hcl], hgc, by omega, ?_⟩
      rw [cvsV_snoc]
      exact hs
    clear hJ64 bad
    have e1 : IntKind.i64.wrap ((a : Int) + 1) = ((a + 1 : Nat) : Int) := by rw [wrap_id (by omega)]; push_cast; rfl
    have e2 : IntKind.i64.wrap ((a : Int) + 2) = ((a + 2 : Nat) : Int) := by rw [wrap_id (by omega)]; push_cast; rfl
    have e10 : IntKind.i64.wrap ((a : Int) + 10) = ((a + 10 : Nat) : Int) := by rw [wrap_id (by omega)]; push_cast; rfl
    have e18 : IntKind.i64.wrap ((a : Int) + 18) = ((a + 18 : Nat) : Int) := by rw [wrap_id (by omega)]; push_cast; rfl
    rw [e1, e2, e10, e18]
    simp only [Int.toNat_natCast, Nat.mul_one]
    have nums : ∀ (o : Nat) h', o ≤ l → Sat h0 A h' → hsv h' (subAddr (some q) o c 1) 1 (l - o) (ints .u8 (bs.drop o)) := fun o h' ho hs' => by
      have := subRd (o := o) (n := l - o) (m := c) (rd _ hs') (by omega) (by omega)
      rwa [List.take_of_length_le (by simp; omega)] at this
    have rdA : ∀ h', Sat h0 A h' → hc h' (q.add a) = some (.int .u8 (bs.getD a 0)) := fun h' hs' => rdx _ a hs' (by omega)
    have rdB : ∀ h', Sat h0 A h' → hc h' (q.add (a + 1)) = some (.int .u8 (bs.getD (a + 1) 0)) := fun h' hs' => rdx _ (a + 1) hs' (by omega)
    have SA := hs.drop.drop.drop.drop.drop
    refine ⟨q, rfl, by omega, by omega, _, rdA _ SA, q, rfl, by omega, by omega, _, rdB _ SA, by omega, by omega, by omega, by omega, by omega, by omega, ?_⟩
    have fin : ∀ (cb : Nat) (x : List Value) h', x.length = 5 → Sat h0 (blk cb x :: slE p2 t c2 5 (cvsV cs) :: slE p1 n6 c1 1 (ints .u8 id) :: blk tb (tokL key p1 n6 c1 p2 t c2 (zeros 32)) :: blk wb [.int .i64 0, .int .i64 0] :: blk rb tok0 :: A) h' →
        hcan h' ⟨cb, 0, none⟩ 5 ∧ ∀ h110 : H, h110 = hwr h' ⟨cb, 0, none⟩ [.int .i64 (IntKind.i64.wrap (bs.getD a 0)), .int .i64 (IntKind.i64.wrap (bs.getD (a + 1) 0)), .int .i64 (IntKind.i64.wrap (nuM (bs.drop (a + 2)) 8)), .int .i64 (IntKind.i64.wrap (nuM (bs.drop (a + 10)) 8)), .int .u64 (nuM (bs.drop (a + 18)) 8)] → J64 [.dv (.addr ⟨cb, 0, none⟩)] h110 := by
      intro cb x h5 hx hs
      refine ⟨Sat.can hs (i := 0) .z (by omega), ?_⟩
      intro h6 e
      replace hs := Sat.wra hs (i := 0) .z e (by rw [hx]; rfl)
      clear e
      rw [put_zero] at hs
      refine wayC cb h6 ?_
      rw [hC]
      exact hs
    refine ⟨?_, ?_⟩
    · refine rnumber_sp (nums _ _ (by omega) SA) (by omega) ?_
      refine ⟨hcs_one (rdB _ SA), hcs_one (rdA _ SA), ?_, ?_⟩
      · refine rnumber_sp (nums _ _ (by omega) SA) (by omega) ?_
        refine ⟨hcs_one (rdB _ SA), hcs_one (rdA _ SA), ?_, ?_⟩
        · refine rnumber_sp (nums _ _ (by omega) SA) (by omega) ?_
          refine ⟨hcs_one (rdB _ SA), hcs_one (rdA _ SA), ?_⟩
          intro cb _ hn; replace hs := Sat.new hs hn; clear hn
          have SB := hs.drop.drop.drop.drop.drop.drop
          refine ⟨hcs_one (rdB _ SB), hcs_one (rdA _ SB), ?_⟩
          exact fin cb _ _ rfl hs
        · intro cb _ hn; replace hs := Sat.new hs hn; clear hn
          have SB := hs.drop.drop.drop.drop.drop.drop
          refine ⟨hcs_one (rdB _ SB), hcs_one (rdA _ SB), ?_⟩
          refine rnumber_sp (nums _ _ (by omega) SB) (by omega) ?_
          refine ⟨hcs_one (rdB _ SB), hcs_one (rdA _ SB), ?_⟩
          exact fin cb _ _ rfl hs
      · intro cb _ hn; replace hs := Sat.new hs hn; clear hn
        have SB := hs.drop.drop.drop.drop.drop.drop
        refine ⟨hcs_one (rdB _ SB), hcs_one (rdA _ SB), ?_⟩
        refine rnumber_sp (nums _ _ (by omega) SB) (by omega) ?_
        refine ⟨hcs_one (rdB _ SB), hcs_one (rdA _ SB), ?_⟩
        refine rnumber_sp (nums _ _ (by omega) SB) (by omega) ?_
        refine ⟨hcs_one (rdB _ SB), hcs_one (rdA _ SB), ?_⟩
        exact fin cb _ _ rfl hs
    · intro cb _ hn; replace hs := Sat.new hs hn; clear hn
      have SB := hs.drop.drop.drop.drop.drop.drop
      refine ⟨hcs_one (rdB _ SB), hcs_one (rdA _ SB), ?_⟩
      refine rnumber_sp (nums _ _ (by omega) SB) (by omega) ?_
      refine ⟨hcs_one (rdB _ SB), hcs_one (rdA _ SB), ?_⟩
      refine rnumber_sp (nums _ _ (by omega) SB) (by omega) ?_
      refine ⟨hcs_one (rdB _ SB), hcs_one (rdA _ SB), ?_⟩
      refine rnumber_sp (nums _ _ (by omega) SB) (by omega) ?_
      refine ⟨hcs_one (rdB _ SB), hcs_one (rdA _ SB), ?_⟩
      exact fin cb _ _ rfl hs
  · rintro ⟨cs, p2, c2⟩ h4 ⟨hcl, hgc, hal, hs⟩
    dsimp only at hcl hgc hs ⊢
    apply hJ59
    clear hJ59
    obtain ⟨a, ha⟩ : ∃ a, a = 8 + n6 + 26 * n7 := ⟨_, rfl⟩
    rw [← ha] at hgc hal ⊢
    refine ⟨q, rfl, by decide, by omega, _, rdx _ 7 hs.drop.drop.drop.drop.drop (by omega), ?_⟩
    rw [e7, ltI_eq, if_neg (by simp)]
    rw [Nat.sub_self] at hgc
    replace hgc : gCavs bs n7 (8 + n6) [] = .ok (a, cs) := hgc
    have tg2 : tgetM bs = gRest bs a cs := by rw [tg, hgc]
    unfold gRest at tg2
    have e32 : IntKind.i64.wrap ((a : Int) + 32) = ((a + 32 : Nat) : Int) := by rw [wrap_id (by omega)]; push_cast; rfl
    rw [e32, ltI_eq]
    by_cases cl : l < a + 32
    · rw [if_pos (by rw [decide_eq_true_iff]; omega)]
      rw [if_pos (by omega)] at tg2
      exact bad 6 l h4 [] (by rw [tg2, hbl]) hs.drop.drop.drop
    rw [if_neg (by rw [decide_eq_true_iff]; omega)]
    rw [if_neg (by omega)] at tg2
    rw [ltI_eq]
    by_cases cr : a + 32 < l
    · rw [if_pos (by rw [decide_eq_true_iff]; omega)]
      rw [if_pos (by omega)] at tg2
      exact bad 7 _ _ [] tg2 hs.drop.drop.drop
    rw [if_neg (by rw [decide_eq_true_iff]; omega)]
    rw [if_neg (by omega)] at tg2
    clear bad
    obtain ⟨tag, htag⟩ : ∃ tag, tag = (bs.drop a).take 32 := ⟨_, rfl⟩
    rw [← htag] at tg2
    have htl : tag.length = 32 := by rw [htag]; simp; omega
    intro J hJ
    refine loop_up 32 (fun t h => Sat h0 (slE p2 n7 c2 5 (cvsV cs) :: slE p1 n6 c1 1 (ints .u8 id) :: blk tb (tokL key p1 n6 c1 p2 n7 c2 (tag.take t ++ zeros (32 - t))) :: blk wb [.int .i64 0, .int .i64 0] :: blk rb tok0 :: A) h) ?_ ?_ 0 _ (by omega) hs
    · intro t h5 ht hs hk
      apply hJ
      rw [ltI_eq, if_pos (by simp; omega)]
      have ea : IntKind.i64.wrap ((a : Int) + (t : Int)) = ((a + t : Nat) : Int) := by rw [wrap_id (by omega)]; push_cast; rfl
      rw [ea]
      simp only [Int.toNat_natCast, Nat.mul_one]
      have ht3 : t < tag.length := by omega
      have eg : bs.getD (a + t) 0 = tag[t] := by
        have := dropD bs a 32 t ht
        rw [← htag, List.getD_eq_getElem?_getD, List.getElem?_eq_getElem ht3] at this
        exact this.symm
      refine ⟨q, rfl, by omega, by omega, tag[t], by rw [← eg]; exact rdx _ _ hs.drop.drop.drop.drop.drop (by omega), by omega, by omega, ?_⟩
      refine ⟨Sat.can hs (i := 2) (.s (.s .z)) (by simp [zeros]; omega), ?_⟩
      intro h6 e
      replace hs := Sat.wr hs (i := 2) (.s (.s .z)) e
      clear e
      rw [tok_set, set_part tag 32 t ht3 htl] at hs
      simp only [put_succ, put_zero] at hs
      rw [wrap_succ (by omega)]
      exact hk _ hs
    · intro h5 hs
      apply hJ
      rw [ltI_eq, if_neg (by decide)]
      have e0 : tag.take 32 ++ zeros (32 - 32) = tag := by rw [List.take_of_length_le (by omega)]; simp [zeros]
      rw [e0] at hs
      have t2 := At.s (x := slE p2 n7 c2 5 (cvsV cs)) (At.s (x := slE p1 n6 c1 1 (ints .u8 id)) (At.z (A := blk wb [.int .i64 0, .int .i64 0] :: blk rb tok0 :: A) (e := blk tb (tokL key p1 n6 c1 p2 n7 c2 tag))))
      refine ⟨_, hs.ld t2 rfl, _, _, _, hs.ld t2 rfl, _, _, _, hs.ld t2 rfl, tag, htl, tok_row hs t2, ?_⟩
      refine ⟨Sat.can hs (i := 4) (.s (.s (.s (.s .z)))) (by simp [zeros]), ?_⟩
      intro h6 e
      replace hs := Sat.wra (xs := tokL key p1 n6 c1 p2 n7 c2 tag) hs (i := 4) (.s (.s (.s (.s .z)))) e (by simp [zeros, htl])
      clear e
      simp only [put_succ, put_zero] at hs
      refine ⟨Sat.can hs (i := 3) (.s (.s (.s .z))) (by simp), ?_⟩
      intro h7 e
      replace hs := Sat.wra (xs := [.int .i64 0, .int .i64 0]) hs (i := 3) (.s (.s (.s .z))) e rfl
      clear e
      simp only [put_succ, put_zero] at hs
      have t3 := At.s (x := slE p2 n7 c2 5 (cvsV cs)) (At.s (x := slE p1 n6 c1 1 (ints .u8 id)) (At.s (x := blk tb (tokL key p1 n6 c1 p2 n7 c2 tag)) (At.z (A := blk rb (tokL key p1 n6 c1 p2 n7 c2 tag) :: A) (e := blk wb [.int .i64 0, .int .i64 0]))))
      have t4 := At.s (x := slE p2 n7 c2 5 (cvsV cs)) (At.s (x := slE p1 n6 c1 1 (ints .u8 id)) (At.s (x := blk tb (tokL key p1 n6 c1 p2 n7 c2 tag)) (At.s (x := blk wb [.int .i64 0, .int .i64 0]) (At.z (A := A) (e := blk rb (tokL key p1 n6 c1 p2 n7 c2 tag))))))
      refine ⟨_, hs.ld t4 rfl, _, _, _, hs.ld t4 rfl, _, _, _, hs.ld t4 rfl, tag, htl, tok_row hs t4, _, hs.ld t3 rfl, _, hs.ld t3 rfl, ?_⟩
      rw [← hn6, ← hid, ← hkey] at tg2
      have K := kT _ tg2 p1 c1 p2 n7 c2 h7 hcl
      dsimp only at K
      rw [hidl] at K
      exact K (hs.sub (by (repeat (first | exact List.Sublist.refl _ | apply List.Sublist.cons_cons | apply List.Sublist.cons)))) htl
end
end Go.Proofs.YtijcpgahmbkijaaGreatDoor
end

/- Tokens: as the program has them, and back. Own work. -/
section
set_option maxRecDepth 100000
set_option linter.unusedVariables false
namespace Go.Proofs.YtijcpgahmbkijaaGreatDoor
open Go Go.Vc
theorem flat_len (n : Nat) (X : List Value) : (List.replicate n X).flatten.length = n * X.length := by
  induction n with
  | zero => simp
  | succ n ih => rw [List.replicate_succ, List.flatten_cons, List.length_append, ih, Nat.succ_mul]; omega
section
variable {h0 h : H} {A : List Ent} {i j d : Nat}
theorem as_sl0 (hs : Sat h0 A h) {i b c sz : Nat} {vs : List Value} (m : At A i (blk b vs)) (hl : vs.length = c * sz) : Sat h0 (put A i (slE (some ⟨b, 0, none⟩) 0 c sz [])) h := by
  refine hs.as m fun f hp => ?_
  obtain ⟨k, hf⟩ := blk_P.1 hp
  refine slE_P.2 ⟨[b], ⟨by simp, by omega, by intro v hv; simp at hv, Or.inr ⟨b, vs, rfl, rfl, by simpa using k, by rw [hl]; simp⟩⟩, fun x => ?_⟩
  rw [hf]; simp
theorem caveat_sp {Q : Int → Int → Int → Int → Int → H → Prop} (c : CvM) (hs : Sat h0 A h) (k : ∀ h', Sat h0 A h' → Q c.kind c.slot c.frm c.to c.set h') : F_portcullislaw24_caveat c.kind c.slot c.frm c.to c.set Q h := by
  unfold F_portcullislaw24_caveat G_portcullislaw24_caveat
  simp only [add_mk, Nat.zero_add]
  intro b _ hn; replace hs := Sat.new hs hn; clear hn
  intro b2 _ hn; replace hs := Sat.new hs hn; clear hn
  refine ⟨_, hs.ld (i := 1) (.s .z) rfl, _, hs.ld (i := 1) (.s .z) rfl, _, hs.ld (i := 1) (.s .z) rfl, _, hs.ld (i := 1) (.s .z) rfl, _, hs.ld (i := 1) (.s .z) rfl, ?_⟩
  refine ⟨Sat.can hs (i := 0) .z (by simp), ?_⟩
  intro h2 e
  replace hs := Sat.wra hs (i := 0) .z e rfl
  clear e
  simp only [put_zero] at hs
  refine ⟨_, hs.ld (i := 0) .z rfl, _, hs.ld (i := 0) .z rfl, _, hs.ld (i := 0) .z rfl, _, hs.ld (i := 0) .z rfl, _, hs.ld (i := 0) .z rfl, ?_⟩
  exact k _ hs.drop.drop
/-- The ID of a copy. -/
theorem ofId {p : Option Addr} {il c1 : Nat} {id m : List Int} (hil : id.length = il) (hc : il + 3 ≤ c1) (R : hsv h p 1 (il + 3) (ints .u8 (id ++ m))) : hsv h (subAddr p 0 c1 1) 1 il (ints .u8 id) := by
  have := subRd (o := 0) (n := il) (m := c1) R (by omega) (by omega)
  rw [List.drop_zero, List.take_append_of_le_length (by omega), List.take_of_length_le (by omega)] at this
  exact this
theorem back_sp {Q : Int → Option Addr → Nat → Nat → Option Addr → Nat → Nat → List Int → H → Prop} {key : Int} {tag : List Int} {cs : List CvM} {ip cp : Option Addr} {il ic cl cc : Nat} (hs : Sat h0 A h) (ht : tag.length = 32) (hl : cl < 2 ^ 40)
    (rc : ∀ h', Sat h0 A h' → hsv h' cp 5 cl (cvsV cs)) (k : ∀ p2 c2 h', Sat h0 (slE p2 cl c2 5 (cvsV cs) :: A) h' → Q key ip il ic p2 cl c2 tag h') :
    F_portcullislaw24_back key ip il ic cp cl cc tag Q h := by
  unfold F_portcullislaw24_back G_portcullislaw24_back
  simp only [add_mk, Nat.zero_add, List.append_nil]
  have hcl : cs.length = cl := by have := (rc _ hs).1; rw [cvsV_len] at this; omega
  intro tb _ hn; replace hs := Sat.new hs hn; clear hn
  intro rb _ hn; replace hs := Sat.new hs hn; clear hn
  replace hs : Sat h0 (blk rb tok0 :: blk tb (tokL key ip il ic cp cl cc tag) :: A) _ := hs
  refine ⟨_, hs.ld (i := 1) (.s .z) rfl, _, _, _, hs.ld (i := 1) (.s .z) rfl, tag, ht, tok_row hs (i := 1) (.s .z), ?_⟩
  intro ob _ hn; replace hs := Sat.new hs hn; clear hn
  refine ⟨Sat.can hs (i := 0) .z (by simp [zeros]), ?_⟩
  intro h2 e
  replace hs := Sat.wra (xs := tokL key ip il ic none 0 0 tag) hs (i := 0) .z e (by simp [zeros, ht])
  clear e
  simp only [put_zero] at hs
  refine ⟨_, _, _, hs.ld (i := 2) (.s (.s .z)) rfl, ?_⟩
  intro J29 hJ29
  refine loopS cl (fun t (s : Option Addr × Nat) => [si t]) (fun t s h => Sat h0 (slE s.1 t s.2 5 (cvsV (cs.take t)) :: blk ob (tokL key ip il ic s.1 t s.2 tag) :: blk rb tok0 :: blk tb (tokL key ip il ic cp cl cc tag) :: A) h) ?_ ?_ 0 (none, 0) _ (by omega) (by simpa [cvsV] using hs.sl_nil 5 none)
  · rintro t ⟨p3, c3⟩ h5 htl hs hk
    dsimp only at hs hk ⊢
    apply hJ29
    rw [ltI_eq, if_pos (by simp; omega)]
    obtain ⟨q, hl2, hq, g0, g1, g2, g3, g4⟩ := cv_rd (rc _ hs.drop.drop.drop.drop) (i := t) htl
    refine ⟨q, hq, by omega, by omega, ?_⟩
    simp only [Int.toNat_natCast]
    refine ⟨_, g0, _, g1, _, g2, _, g3, _, g4, ?_⟩
    intro b3 _ hn; replace hs := Sat.new hs hn; clear hn
    refine ⟨Sat.can hs (i := 0) .z (by simp), ?_⟩
    intro h6 e
    replace hs := Sat.wra hs (i := 0) .z e rfl
    clear e
    simp only [put_zero] at hs
    refine ⟨_, _, _, hs.ld (i := 2) (.s (.s .z)) rfl, ?_⟩
    refine ⟨_, hs.ld (i := 0) .z rfl, _, hs.ld (i := 0) .z rfl, _, hs.ld (i := 0) .z rfl, _, hs.ld (i := 0) .z rfl, _, hs.ld (i := 0) .z rfl, ?_⟩
    intro b4 _ hn; replace hs := Sat.new hs hn; clear hn
    refine ⟨_, hs.bv (i := 0) (l := 1) (sz := 5) .z rfl (cv1 cs[t]), ?_⟩
    refine Sat.app hs (i := 2) (vs := cvV cs[t]) (.s (.s .z)) rfl rfl (cv1 _) (by omega) ?_
    intro p5 c5 h8 hs
    simp only [put_succ, put_zero] at hs
    replace hs := hs.drop.drop
    refine ⟨Sat.can hs (i := 1) (.s .z) (by simp), ?_⟩
    intro h9 e
    replace hs := Sat.wr hs (i := 1) (.s .z) e
    clear e
    rw [tok_cs] at hs
    simp only [put_succ, put_zero] at hs
    rw [wrap_succ (by omega)]
    refine hk (p5, c5) h9 ?_
    dsimp only
    rw [take_snoc _ hl2, cvsV_snoc]
    exact hs
  · rintro ⟨p3, c3⟩ h5 hs
    dsimp only at hs ⊢
    apply hJ29
    clear hJ29
    rw [ltI_eq, if_neg (by simp)]
    rw [List.take_of_length_le (by omega)] at hs
    refine ⟨_, hs.ld (i := 1) (.s .z) rfl, _, _, _, hs.ld (i := 1) (.s .z) rfl, _, _, _, hs.ld (i := 1) (.s .z) rfl, tag, ht, tok_row hs (i := 1) (.s .z), ?_⟩
    refine ⟨Sat.can hs (i := 2) (.s (.s .z)) (by simp [zeros]), ?_⟩
    intro h6 e
    replace hs := Sat.wra (xs := tokL key ip il ic p3 cl c3 tag) hs (i := 2) (.s (.s .z)) e (by simp [zeros, ht])
    clear e
    simp only [put_succ, put_zero] at hs
    refine ⟨_, hs.ld (i := 2) (.s (.s .z)) rfl, _, _, _, hs.ld (i := 2) (.s (.s .z)) rfl, _, _, _, hs.ld (i := 2) (.s (.s .z)) rfl, tag, ht, tok_row hs (i := 2) (.s (.s .z)), ?_⟩
    exact k p3 c3 _ (hs.sub (by (repeat (first | exact List.Sublist.refl _ | apply List.Sublist.cons_cons | apply List.Sublist.cons))))
end
end Go.Proofs.YtijcpgahmbkijaaGreatDoor
end

/- Tokens: two tags part (reckoned). Own work. -/
section
set_option maxRecDepth 1000000
namespace Go.Proofs.YtijcpgahmbkijaaGreatDoor
open Go Go.Vc
theorem awake_tags : (macM (macM [107] (msgM [105, 100])) (cbM ⟨1, 1, 0, 0, 0⟩) == macM [107] (msgM [105, 100])) = false := by decide +kernel
end Go.Proofs.YtijcpgahmbkijaaGreatDoor
end

/- Tokens: awake; TokenNames. Own work. -/
section
set_option maxRecDepth 1000000
set_option linter.unusedVariables false
namespace Go.Proofs.YtijcpgahmbkijaaGreatDoor
open Go Go.Vc
theorem awake_may : TokMay 1 [105, 100] [] := by decide
theorem get_nil : tgetM [] = .error (6, 0) := rfl
section
variable {h0 h : H} {A : List Ent} {i j d : Nat}
theorem hsv_nil (h : H) (p : Option Addr) (sz : Nat) : hsv h p sz 0 [] := ⟨by simp, by intro v hv; simp at hv, Or.inl rfl⟩
theorem awake24_sp {Q : Bool → H → Prop} (hg : hc h0 ⟨0, 0, none⟩ = some errTypeV) (hs : Sat h0 A h) (k : ∀ h', Sat h0 A h' → Q true h') : F_portcullislaw24_awake Q h := by
  unfold F_portcullislaw24_awake G_portcullislaw24_awake
  simp only [add_mk, Nat.zero_add, List.append_nil]
  intro kb _ hn; replace hs := Sat.new hs hn; clear hn
  refine ⟨_, rfl, ?_⟩
  intro h1 e
  replace hs := hs.mark (i := 0) .z e
  clear e
  intro sb _ hn; replace hs := Sat.new hs hn; clear hn
  refine keys1_sp (key := 1) (bs := [107]) hs (by decide) (by decide) (fun h' hs' => hs'.ld (i := 0) .z rfl) (fun h' hs' => by rw [add_mk]; exact hs'.ld (i := 0) .z rfl) (fun h' hs' => hs'.bv (i := 1) (l := 1) (.s .z) rfl (ints_one .u8 [107])) ?_
  intro r m kp kc h2 hkc hs
  intro J hJ
  rw [if_neg (by decide), if_neg (by simp)]
  apply hJ
  clear hJ J
  intro ib _ hn; replace hs := Sat.new hs hn; clear hn
  refine ⟨_, rfl, ?_⟩
  intro h3 e
  replace hs := hs.mark (i := 0) .z e
  clear e
  refine ⟨_, rfl, ?_⟩
  refine issue_sp (key := 1) (secret := [107]) (id := [105, 100]) hs (i := 2) (j := 3) (.s (.s .z)) (.s (.s (.s .z))) rfl hkc (by decide) (by decide) (fun h' hs' => hs'.sv (i := 1) (.s .z)) (fun h' hs' => hs'.bv (i := 0) (l := 2) .z rfl (ints_one .u8 [105, 100])) ?_
  intro p1 c1 h4 hc1 hs
  obtain ⟨tag, htag⟩ : ∃ tag, tag = macM [107] (msgM [105, 100]) := ⟨_, rfl⟩
  have htl : tag.length = 32 := by rw [htag]; exact macM_len _ _
  have htb : isBytes tag := by rw [htag]; exact macM_bytes _ _
  have hne := awake_tags
  rw [← htag] at hne ⊢
  clear htag
  intro tb _ hn; replace hs := Sat.new hs hn; clear hn
  refine ⟨Sat.can hs (i := 0) .z (by simp [zeros]), ?_⟩
  intro h5 e
  replace hs := Sat.wra (xs := tokL 1 p1 2 c1 none 0 0 tag) hs (i := 0) .z e (by simp [zeros, htl])
  clear e
  simp only [put_zero] at hs
  refine ⟨_, hs.ld (i := 0) .z rfl, _, _, _, hs.ld (i := 0) .z rfl, _, _, _, hs.ld (i := 0) .z rfl, tag, htl, tok_row hs (i := 0) .z, ?_⟩
  refine narrow_sp (⟨1, 1, 0, 0, 0⟩ : CvM) (id := [105, 100]) (cs := []) hs htl (by decide) (by decide) (fun h' hs' => hs'.sv (i := 1) (.s .z)) (fun h' hs' => hsv_nil _ _ _) (fun y => absurd y (by decide)) (fun _ y => absurd (by decide) y) ?_
  intro _ _ p2 c2 p3 c3 h6 hs
  obtain ⟨tag2, htag2⟩ : ∃ tag2, tag2 = macM tag (cbM ⟨1, 1, 0, 0, 0⟩) := ⟨_, rfl⟩
  have htl2 : tag2.length = 32 := by rw [htag2]; exact macM_len _ _
  rw [← htag2] at hne ⊢
  clear htag2
  intro ub _ hn; replace hs := Sat.new hs hn; clear hn
  refine ⟨Sat.can hs (i := 0) .z (by simp [zeros]), ?_⟩
  intro h7 e
  replace hs := Sat.wra (xs := tokL 1 p2 2 c2 p3 1 c3 tag2) hs (i := 0) .z e (by simp [zeros, htl2])
  clear e
  simp only [put_zero] at hs
  refine ⟨_, hs.ld (i := 3) (.s (.s (.s .z))) rfl, _, _, _, hs.ld (i := 3) (.s (.s (.s .z))) rfl, _, _, _, hs.ld (i := 3) (.s (.s (.s .z))) rfl, tag, htl, tok_row hs (i := 3) (.s (.s (.s .z))), ?_⟩
  refine narrow_sp (⟨0, 0, 0, 0, 0⟩ : CvM) (id := [105, 100]) (cs := []) hs htl (by decide) (by decide) (fun h' hs' => hs'.sv (i := 4) (.s (.s (.s (.s .z))))) (fun h' hs' => hsv_nil _ _ _) (fun y => absurd y (by decide)) ?_ (fun _ y => absurd y (by decide))
  intro _ _ h8 hs
  intro nb _ hn; replace hs := Sat.new hs hn; clear hn
  refine ⟨Sat.can hs (i := 0) .z (by simp [zeros]), ?_⟩
  intro h9 e
  replace hs := Sat.wra (xs := tok0) hs (i := 0) .z e (by simp [zeros])
  clear e
  simp only [put_zero] at hs
  refine ⟨_, hs.ld (i := 4) (.s (.s (.s (.s .z)))) rfl, _, _, _, hs.ld (i := 4) (.s (.s (.s (.s .z)))) rfl, _, _, _, hs.ld (i := 4) (.s (.s (.s (.s .z)))) rfl, tag, htl, tok_row hs (i := 4) (.s (.s (.s (.s .z)))), ?_⟩
  refine put_sp (id := [105, 100]) (cs := []) hs htl (by decide) (fun h' hs' => hs'.sv (i := 5) (.s (.s (.s (.s (.s .z)))))) (fun h' hs' => hsv_nil _ _ _) (fun y => absurd awake_may y) ?_
  intro _ p4 c4 h10 hc4 hs
  have hpl : (putM24 1 [105, 100] [] tag).length = 42 := by rw [awake_put, List.length_append, htl]; rfl
  have hpb : isBytes (putM24 1 [105, 100] [] tag) := by
    rw [awake_put]
    intro n hn
    rcases List.mem_append.1 hn with hn | hn
    · simp only [List.mem_cons, List.not_mem_nil, or_false] at hn
      omega
    · exact htb n hn
  have hget := awake_get htl
  generalize putM24 1 [105, 100] [] tag = B at *
  rw [hpl] at hs hc4 ⊢
  refine get_sp (bs := B) hs hpb hc4 (by decide) (fun h' hs' => hs'.sv (i := 0) .z) (fun e a he => by rw [hget] at he; cases he) ?_
  intro t ht p5 c5 p6 l6 c6 h11 hl6 hs htt
  rw [hget] at ht
  injection ht with ht
  subst ht
  dsimp only at hs htt hl6 ⊢
  intro xb _ hn; replace hs := Sat.new hs hn; clear hn
  refine ⟨Sat.can hs (i := 0) .z (by simp [zeros]), ?_⟩
  intro h12 e
  replace hs := Sat.wra (xs := tokL 1 p5 2 c5 p6 l6 c6 tag) hs (i := 0) .z e (by simp [zeros, htl])
  clear e
  simp only [put_zero] at hs
  refine get_sp (bs := []) hs (by intro n hn; simp at hn) (by decide) (by decide) (fun h' hs' => hsv_nil _ _ _) ?_ (fun t ht => by rw [get_nil] at ht; cases ht)
  intro e a hea wb h13 hs
  rw [get_nil] at hea
  injection hea with hea
  injection hea with he ha
  subst he ha
  intro yb _ hn; replace hs := Sat.new hs hn; clear hn
  refine ⟨Sat.can hs (i := 0) .z (by simp [zeros]), ?_⟩
  intro h14 e
  replace hs := Sat.wra (xs := tok0) hs (i := 0) .z e (by simp [zeros])
  clear e
  simp only [put_zero] at hs
  refine told24_sp hg hs (i := 1) (.s .z) (by decide) ?_
  intro h15 hs
  intro zb _ hn; replace hs := Sat.new hs hn; clear hn
  refine ⟨Sat.can hs (i := 0) .z (by simp), ?_⟩
  intro h16 e
  replace hs := Sat.wra hs (i := 0) .z e rfl
  clear e
  simp only [put_zero] at hs
  rw [if_pos (by decide), if_pos (by decide)]
  have tU := At.s (x := blk zb [.int .i64 6, .int .i64 0]) (At.s (x := blk yb tok0) (At.s (x := blk wb [.int .i64 6, .int .i64 0]) (At.s (x := blk xb (tokL 1 p5 2 c5 p6 l6 c6 tag)) (At.s (x := slE p6 l6 c6 5 (cvsV [])) (At.s (x := slE p5 2 c5 1 (ints .u8 [105, 100])) (At.s (x := slE p4 42 c4 1 (ints .u8 B)) (At.s (x := blk nb tok0) (At.z (e := blk ub (tokL 1 p2 2 c2 p3 1 c3 tag2)) (A := slE p3 1 c3 5 (cvsV [⟨1, 1, 0, 0, 0⟩]) :: slE p2 2 c2 1 (ints .u8 [105, 100]) :: blk tb (tokL 1 p1 2 c1 none 0 0 tag) :: slE p1 2 c1 1 (ints .u8 [105, 100]) :: blk ib (ints .u8 [105, 100]) :: slE kp 1 kc 1 (ints .u8 [107]) :: blk r [.map (some m)] :: mapE m [(.int .i64 1, .one (.slice kp 1 kc))] :: blk sb [.int .i64 1, .slice (some ⟨kb, 0, none⟩) 1 1] :: blk kb (ints .u8 [107]) :: A)))))))))
  refine ⟨_, _, _, hs.ld tU rfl, ?_⟩
  rw [if_pos (by decide)]
  have tT : At _ 11 (blk tb (tokL 1 p1 2 c1 none 0 0 tag)) := At.s (x := blk zb [.int .i64 6, .int .i64 0]) (At.s (x := blk yb tok0) (At.s (x := blk wb [.int .i64 6, .int .i64 0]) (At.s (x := blk xb (tokL 1 p5 2 c5 p6 l6 c6 tag)) (At.s (x := slE p6 l6 c6 5 (cvsV [])) (At.s (x := slE p5 2 c5 1 (ints .u8 [105, 100])) (At.s (x := slE p4 42 c4 1 (ints .u8 B)) (At.s (x := blk nb tok0) (At.s (x := blk ub (tokL 1 p2 2 c2 p3 1 c3 tag2)) (At.s (x := slE p3 1 c3 5 (cvsV [⟨1, 1, 0, 0, 0⟩])) (At.s (x := slE p2 2 c2 1 (ints .u8 [105, 100])) (At.z (A := slE p1 2 c1 1 (ints .u8 [105, 100]) :: blk ib (ints .u8 [105, 100]) :: slE kp 1 kc 1 (ints .u8 [107]) :: blk r [.map (some m)] :: mapE m [(.int .i64 1, .one (.slice kp 1 kc))] :: blk sb [.int .i64 1, .slice (some ⟨kb, 0, none⟩) 1 1] :: blk kb (ints .u8 [107]) :: A))))))))))))
  refine ⟨tag2, htl2, tok_row hs tU, tag, htl, tok_row hs tT, ?_⟩
  rw [if_pos (show (!tag2 == tag) = true by rw [hne]; rfl), if_pos (by decide), if_pos (by decide), if_pos (by decide)]
  refine ⟨rfl, ?_⟩
  rw [if_pos (by decide)]
  refine ⟨_, hs.ld (i := 3) (.s (.s (.s .z))) rfl, ?_⟩
  rw [if_pos (by decide)]
  refine ⟨_, _, _, hs.ld (i := 3) (.s (.s (.s .z))) rfl, [105, 100], hs.sv (i := 5) (.s (.s (.s (.s (.s .z))))), ?_⟩
  rw [if_pos (by decide +kernel), if_pos rfl]
  refine ⟨_, hs.ld (i := 0) .z rfl, _, hs.ld (i := 0) .z rfl, ?_⟩
  exact k _ (hs.sub (by (repeat (first | exact List.Sublist.refl _ | apply List.Sublist.cons_cons | apply List.Sublist.cons))))
end
end Go.Proofs.YtijcpgahmbkijaaGreatDoor
end

/- TokenBytes: walked. Own work. -/
section
set_option maxRecDepth 100000
set_option linter.unusedVariables false
namespace Go.Proofs.YtijcpgahmbkijaaGreatDoor
open Go Go.Vc
def outM (key : Int) (id : List Int) (cs : List CvM) (tag : List Int) : List Int := if TokMay key id cs then putM24 key id cs tag else []
def errM24 (key : Int) (id : List Int) (cs : List CvM) : Int := if TokMay key id cs then 0 else 5
theorem gCavs_len (bs : List Int) : ∀ {n at_ a : Nat} {cs cs' : List CvM}, gCavs bs n at_ cs = .ok (a, cs') → cs'.length = cs.length + n
  | 0, _, _, cs, cs', h => by unfold gCavs at h; injection h with h; injection h with h1 h2; rw [← h2]; rfl
  | n + 1, at_, a, cs, cs', h => by
    unfold gCavs at h
    split at h
    · cases h
    · split at h
      · have := gCavs_len bs h
        simp at this
        omega
      · cases h
theorem tget_few {bs : List Int} {T : TkM} (h : tgetM bs = .ok T) : T.cs.length ≤ 32 := by
  unfold tgetM at h
  split at h
  · cases h
  · rename_i hh
    have h7 : standsM 7 (bs.getD 7 0) = true := by
      have : ∀ m, m < 8 → gHead bs (8 - m) = none := by
        intro m
        induction m with
        | zero => intro _; exact hh
        | succ m ih =>
          intro hm
          have := ih (by omega)
          rw [gHead_at bs (by omega)] at this
          split at this
          · cases this
          · split at this
            · exact this
            · cases this
      have := this 7 (by decide)
      rw [gHead_at bs (by decide)] at this
      split at this
      · cases this
      · split at this
        · assumption
        · cases this
    split at h
    · cases h
    · split at h
      · cases h
      · rename_i hc
        have := gCavs_len bs hc
        unfold gRest at h
        split at h
        · cases h
        · split at h
          · cases h
          · injection h with h
            subst h
            simp only [List.length_nil, Nat.zero_add] at this
            have h8 : bs.getD 7 0 ≤ 32 := of_decide_eq_true h7
            dsimp only
            omega
section
variable {h0 h : H} {A : List Ent} {i j d : Nat}
theorem put1_sp {Q : Option Addr → Nat → Nat → Int → H → Prop} {key : Int} {id tag : List Int} {cs : List CvM} {ip cp : Option Addr} {il ic cl cc : Nat} (hs : Sat h0 A h) (ht : tag.length = 32) (hl : cl < 2 ^ 40)
    (ri : ∀ h', Sat h0 A h' → hsv h' ip 1 il (ints .u8 id)) (rc : ∀ h', Sat h0 A h' → hsv h' cp 5 cl (cvsV cs))
    (k : ∀ p c h', (outM key id cs tag).length ≤ c → Sat h0 (slE p (outM key id cs tag).length c 1 (ints .u8 (outM key id cs tag)) :: A) h' → Q p (outM key id cs tag).length c (errM24 key id cs) h') :
    F_token_Put key ip il ic cp cl cc tag Q h := by
  unfold outM errM24 at k
  refine put_sp hs ht hl ri rc ?_ ?_
  · intro g h' hs
    rw [if_neg g, if_neg g] at k
    exact k none 0 h' (by simp) (hs.sl_nil 1 none)
  · intro g p c h' hc hs
    rw [if_pos g, if_pos g] at k
    exact k p c h' hc hs
end
end Go.Proofs.YtijcpgahmbkijaaGreatDoor
end

/- Tokens, plain: there and back. Own work. -/
section
set_option maxRecDepth 100000
set_option linter.unusedVariables false
namespace Go.Proofs.YtijcpgahmbkijaaGreatDoor
open Go Go.Vc

theorem or_nat {x y : Nat} (hx : x < 2 ^ 64) (hy : y < 2 ^ 64) : bits .or .u64 (x : Int) (y : Int) = ((x ||| y : Nat) : Int) := by
  have : bits .or .u64 (x : Int) (y : Int) = IntKind.u64.wrap ((BitVec.ofInt 64 (x : Int) ||| BitVec.ofInt 64 (y : Int)).toNat : Int) := rfl
  rw [this, BitVec.ofInt_natCast, BitVec.ofInt_natCast, BitVec.toNat_or, BitVec.toNat_ofNat, BitVec.toNat_ofNat, Nat.mod_eq_of_lt hx, Nat.mod_eq_of_lt hy, wrapU64]
  have h3 : x ||| y < 2 ^ 64 := Nat.or_lt_two_pow hx hy
  omega
def nuN (b : List Int) : Nat → Nat
  | 0 => 0
  | t + 1 => nuN b t + (b.getD t 0).toNat * 2 ^ (8 * t)
theorem nuN_lt {b : List Int} (hb : isBytes b) : ∀ t, nuN b t < 2 ^ (8 * t)
  | 0 => by show (0 : Nat) < 1; decide
  | t + 1 => by
    have ih := nuN_lt hb t
    have h := isB_get hb t
    have hc : (b.getD t 0).toNat ≤ 255 := by omega
    have : (b.getD t 0).toNat * 2 ^ (8 * t) ≤ 255 * 2 ^ (8 * t) := Nat.mul_le_mul_right _ hc
    unfold nuN
    rw [show 8 * (t + 1) = 8 * t + 8 by omega, Nat.pow_add]
    omega
theorem nuM_eq {b : List Int} (hb : isBytes b) : ∀ t, t ≤ 8 → nuM b t = (nuN b t : Int)
  | 0, _ => rfl
  | t + 1, ht => by
    have ih := nuM_eq hb t (by omega)
    have h := isB_get hb t
    have hl := nuN_lt hb t
    have hp : 2 ^ (8 * t) ≤ 2 ^ 56 := Nat.pow_le_pow_right (by decide) (by omega)
    obtain ⟨c, hc⟩ : ∃ c, c = (b.getD t 0).toNat := ⟨_, rfl⟩
    have hc2 : b.getD t 0 = (c : Int) := by omega
    have hc3 : c ≤ 255 := by omega
    have hm : c * 2 ^ (8 * t) ≤ 255 * 2 ^ 56 := Nat.mul_le_mul hc3 hp
    unfold nuM nuN
    rw [ih, hc2, Int.toNat_natCast, wrapU64 (c : Int), show min (8 * t) 64 = 8 * t by omega]
    have e1 : ((c : Int) % 18446744073709551616) = (c : Int) := by omega
    rw [e1]
    have e2 : ((c : Int) * 2 ^ (8 * t)) = ((c * 2 ^ (8 * t) : Nat) : Int) := by push_cast; rfl
    rw [e2, wrapU64]
    have e3 : (((c * 2 ^ (8 * t) : Nat) : Int) % 18446744073709551616) = ((c * 2 ^ (8 * t) : Nat) : Int) := by omega
    rw [e3, or_nat (by omega) (by omega)]
    congr 1
    rw [Nat.or_comm, Nat.mul_comm, ← Nat.two_pow_add_eq_or_of_lt hl]
    omega
theorem digit_nuN {b : List Int} (hb : isBytes b) : ∀ t i, i < t → nuN b t / 2 ^ (8 * i) % 256 = (b.getD i 0).toNat
  | 0, i, h => by omega
  | t + 1, i, h => by
    have hl := nuN_lt hb t
    have hc := isB_get hb t
    unfold nuN
    by_cases e : i = t
    · subst e
      rw [Nat.add_mul_div_right _ _ (Nat.pow_pos (by decide)), Nat.div_eq_of_lt hl]
      omega
    · have ih := digit_nuN hb t i (by omega)
      obtain ⟨d, hd⟩ : ∃ d, t = i + 1 + d := ⟨t - i - 1, by omega⟩
      have ep : (b.getD t 0).toNat * 2 ^ (8 * t) = ((b.getD t 0).toNat * 2 ^ (8 * d) * 256) * 2 ^ (8 * i) := by
        rw [hd, show 8 * (i + 1 + d) = 8 * d + 8 + 8 * i by omega, Nat.pow_add, Nat.pow_add, ← Nat.mul_assoc, ← Nat.mul_assoc]
      rw [ep, Nat.add_mul_div_right _ _ (Nat.pow_pos (by decide)), Nat.add_mul_mod_self_right, ih]
theorem eightM_get (n : Nat) {t i : Nat} (hi : i < t) (h8 : i < 8) : (eightM (n : Int) t).getD i 0 = ((n / 2 ^ (8 * i) % 256 : Nat) : Int) := by
  unfold eightM
  rw [List.getD_eq_getElem?_getD, List.getElem?_map, List.getElem?_range hi]
  show IntKind.u8.wrap ((n : Int).fdiv (2 ^ min (8 * i) 64)) = _
  rw [show min (8 * i) 64 = 8 * i by omega, Int.fdiv_eq_ediv_of_nonneg _ (Int.le_of_lt (Int.pow_pos (by decide))), IntKind.wrap_u8]
  have : ((n : Int) / 2 ^ (8 * i)) = ((n / 2 ^ (8 * i) : Nat) : Int) := by push_cast; rfl
  rw [this]
  omega
/-- A number, read and put. -/
theorem eight_nuM {b : List Int} (hb : isBytes b) (hl : 8 ≤ b.length) : eightM (nuM b 8) 8 = b.take 8 := by
  rw [nuM_eq hb 8 (by decide)]
  apply List.ext_getElem (by rw [eightM_len, List.length_take]; omega)
  intro i h1 h2
  rw [eightM_len] at h1
  have e := eightM_get (nuN b 8) h1 h1
  rw [digit_nuN hb 8 i h1, List.getD_eq_getElem?_getD, List.getElem?_eq_getElem (by rw [eightM_len]; exact h1)] at e
  have hbi := isB_get hb i
  have e2 : b.getD i 0 = b[i] := by rw [List.getD_eq_getElem?_getD, List.getElem?_eq_getElem (by omega)]; rfl
  rw [e2] at e hbi
  rw [List.getElem_take]
  simp only [Option.getD_some] at e
  rw [e]
  omega
theorem nuM_range {b : List Int} (hb : isBytes b) : 0 ≤ nuM b 8 ∧ nuM b 8 < 2 ^ 64 := by
  rw [nuM_eq hb 8 (by decide)]
  have := nuN_lt hb 8
  omega
theorem isB_drop {b : List Int} (hb : isBytes b) (n : Nat) : isBytes (b.drop n) := fun v hv => hb v (List.mem_of_mem_drop hv)
/-- A caveat of a program's types. -/
def CvM.typed (c : CvM) : Prop := has .i64 c.kind ∧ has .i64 c.slot ∧ has .i64 c.frm ∧ has .i64 c.to ∧ has .u64 c.set
/-- A caveat, read and put. -/
theorem cb_cvAt {bs : List Int} (hb : isBytes bs) {a : Nat} (hl : a + 26 ≤ bs.length) : cbM (cvAt bs a) = (bs.drop a).take 26 := by
  have b0 := isB_get hb a
  have b1 := isB_get hb (a + 1)
  have r2 := nuM_range (isB_drop hb (a + 2))
  have r10 := nuM_range (isB_drop hb (a + 10))
  have w : ∀ n : Int, 0 ≤ n ∧ n < 2 ^ 64 → IntKind.u64.wrap (IntKind.i64.wrap n) = n := by
    intro n h
    rw [wrapU64, IntKind.wrap_i64]; omega
  unfold cbM cvAt
  dsimp only
  rw [w _ r2, w _ r10, eight_nuM (isB_drop hb _) (by rw [List.length_drop]; omega), eight_nuM (isB_drop hb _) (by rw [List.length_drop]; omega), eight_nuM (isB_drop hb _) (by rw [List.length_drop]; omega)]
  rw [wrap_id (n := bs.getD a 0) (by omega), wrap_id (n := bs.getD (a + 1) 0) (by omega), wrap_u8_id b0, wrap_u8_id b1]
  have ed : bs.drop a = bs.getD a 0 :: bs.getD (a + 1) 0 :: bs.drop (a + 2) := by
    rw [List.drop_eq_getElem_cons (show a < bs.length by omega), List.drop_eq_getElem_cons (show a + 1 < bs.length by omega)]
    have x0 : bs.getD a 0 = bs[a] := by rw [List.getD_eq_getElem?_getD, List.getElem?_eq_getElem (by omega)]; rfl
    have x1 : bs.getD (a + 1) 0 = bs[a + 1] := by rw [List.getD_eq_getElem?_getD, List.getElem?_eq_getElem (by omega)]; rfl
    rw [x0, x1]
  rw [ed]
  show _ = bs.getD a 0 :: bs.getD (a + 1) 0 :: (bs.drop (a + 2)).take 24
  have e2 : (bs.drop (a + 2)).take 24 = (bs.drop (a + 2)).take 8 ++ ((bs.drop (a + 10)).take 8 ++ (bs.drop (a + 18)).take 8) := by
    rw [show (24 : Nat) = 8 + (8 + 8) by rfl, List.take_add, List.take_add, List.drop_drop, List.drop_drop]
  rw [e2]
  simp
theorem gHead_all {B : List Int} (h : gHead B 8 = none) : 8 ≤ B.length ∧ ∀ t, t < 8 → standsM t (B.getD t 0) = true := by
  have key : ∀ m, m ≤ 8 → gHead B (8 - m) = none ∧ m ≤ B.length ∧ ∀ t, t < m → standsM t (B.getD t 0) = true := by
    intro m
    induction m with
    | zero => intro _; exact ⟨h, by omega, fun t ht => by omega⟩
    | succ m ih =>
      intro hm
      obtain ⟨h1, h2, h3⟩ := ih (by omega)
      rw [gHead_at B (by omega)] at h1
      split at h1
      · cases h1
      · rename_i hne
        split at h1
        · rename_i hs
          refine ⟨h1, by omega, fun t ht => ?_⟩
          by_cases e : t = m
          · subst e; exact hs
          · exact h3 t (by omega)
        · cases h1
  obtain ⟨_, h2, h3⟩ := key 8 (Nat.le_refl _)
  exact ⟨h2, h3⟩
theorem gCavs_ok {bs : List Int} (hb : isBytes bs) : ∀ {n o a : Nat} {cs cs' : List CvM}, gCavs bs n o cs = .ok (a, cs') → o ≤ bs.length → ∃ ds, cs' = cs ++ ds ∧ ds.length = n ∧ a = o + 26 * n ∧ a ≤ bs.length ∧ (∀ c ∈ ds, c.may) ∧ (bs.drop o).take (26 * n) = cbsM ds
  | 0, o, a, cs, cs', h, ho => by
    unfold gCavs at h
    injection h with h; injection h with h1 h2
    exact ⟨[], by rw [← h2]; simp, rfl, by omega, by omega, by simp, by simp [cbsM]⟩
  | n + 1, o, a, cs, cs', h, ho => by
    unfold gCavs at h
    split at h
    · cases h
    · rename_i hl
      split at h
      · rename_i hm
        obtain ⟨ds, e1, e2, e3, e4, e5, e6⟩ := gCavs_ok hb h (by omega)
        refine ⟨cvAt bs o :: ds, by rw [e1]; simp, by simp [e2], by omega, e4, ?_, ?_⟩
        · intro c hc
          rcases List.mem_cons.1 hc with rfl | hc
          · exact hm
          · exact e5 c hc
        · rw [show 26 * (n + 1) = 26 + 26 * n by omega, List.take_add, List.drop_drop, e6]
          show _ = cbM (cvAt bs o) ++ cbsM ds
          rw [cb_cvAt hb (by omega)]
      · cases h
theorem take8 {bs : List Int} (hl : 8 ≤ bs.length) : bs.take 8 = [bs.getD 0 0, bs.getD 1 0, bs.getD 2 0, bs.getD 3 0, bs.getD 4 0, bs.getD 5 0, bs.getD 6 0, bs.getD 7 0] := by
  match bs, hl with
  | a :: b :: c :: d :: e :: f :: g :: h :: r, _ => rfl
/-- Bytes, read and put. -/
theorem put_get {bs : List Int} (hb : isBytes bs) {T : TkM} (h : tgetM bs = .ok T) : TokMay T.key T.id T.cs ∧ putM24 T.key T.id T.cs T.tag = bs ∧ T.tag.length = 32 := by
  unfold tgetM at h
  split at h
  · cases h
  · rename_i hh
    obtain ⟨hl8, st⟩ := gHead_all hh
    have b5 := isB_get hb 5
    have b6 := isB_get hb 6
    have b7 := isB_get hb 7
    have s0 : bs.getD 0 0 = 80 := beq_iff_eq.1 (st 0 (by decide))
    have s1 : bs.getD 1 0 = 67 := beq_iff_eq.1 (st 1 (by decide))
    have s2 : bs.getD 2 0 = 84 := beq_iff_eq.1 (st 2 (by decide))
    have s3 : bs.getD 3 0 = 75 := beq_iff_eq.1 (st 3 (by decide))
    have s4 : bs.getD 4 0 = 1 := beq_iff_eq.1 (st 4 (by decide))
    have s5 : bs.getD 5 0 < 64 := of_decide_eq_true (st 5 (by decide))
    have s6 : 1 ≤ bs.getD 6 0 ∧ bs.getD 6 0 ≤ 64 := of_decide_eq_true (st 6 (by decide))
    have s7 : bs.getD 7 0 ≤ 32 := of_decide_eq_true (st 7 (by decide))
    split at h
    · cases h
    · rename_i hn6
      split at h
      · cases h
      · rename_i a cs hc
        obtain ⟨ds, e1, e2, e3, e4, e5, e6⟩ := gCavs_ok hb hc (by omega)
        rw [List.nil_append] at e1
        subst e1
        unfold gRest at h
        split at h
        · cases h
        · split at h
          · cases h
          · rename_i l1 l2
            injection h with h
            subst h
            dsimp only
            have hid : ((bs.drop 8).take (bs.getD 6 0).toNat).length = (bs.getD 6 0).toNat := by rw [List.length_take, List.length_drop]; omega
            refine ⟨⟨⟨b5.1, s5⟩, by omega, by omega, e5⟩, ?_, by rw [List.length_take, List.length_drop]; omega⟩
            unfold putM24 headM24
            rw [hid, e2, wrap_u8_id b5, Int.toNat_of_nonneg b6.1, Int.toNat_of_nonneg b7.1, wrap_u8_id b6, wrap_u8_id b7, ← e6]
            have et : (bs.drop a).take 32 = bs.drop a := List.take_of_length_le (by rw [List.length_drop]; omega)
            rw [et]
            have x1 : bs = bs.take 8 ++ bs.drop 8 := (List.take_append_drop 8 bs).symm
            have x2 : bs.drop 8 = (bs.drop 8).take (bs.getD 6 0).toNat ++ bs.drop (8 + (bs.getD 6 0).toNat) := by
              rw [← List.drop_drop]; exact (List.take_append_drop _ _).symm
            have x3 : bs.drop (8 + (bs.getD 6 0).toNat) = (bs.drop (8 + (bs.getD 6 0).toNat)).take (26 * (bs.getD 7 0).toNat) ++ bs.drop a := by
              rw [e3, ← List.drop_drop (i := 26 * _)]; exact (List.take_append_drop _ _).symm
            rw [take8 hl8, s0, s1, s2, s3, s4] at x1
            conv => rhs; rw [x1, x2, x3]
            simp
end Go.Proofs.YtijcpgahmbkijaaGreatDoor
end

/- What arguments of the statements are: tokens, bytes. Own work. -/
section
set_option maxRecDepth 100000
set_option linter.unusedVariables false
namespace Go.Proofs.YtijcpgahmbkijaaGreatDoor
open Go Go.Vc Go.ChangeShapes Go.WideShapes Go.ChangeAt Go.RowKit

theorem xByte24 : xsh PP 8 5 = some [.int .u8] := by kernel_rfl
theorem xCav24 : xsh PP 8 50 = some [.int .i64, .int .i64, .int .i64, .int .i64, .int .u64] := by kernel_rfl
theorem xTok24 : xsh PP 8 28 = some [.int .i64, .slc 5, .slc 50, .row .u8 32] := by kernel_rfl
section
variable {D : Type} {enc : TypeId × Value → D} {W : World}
theorem bytes24_of {p : Option Addr} {l c : Nat} (h : Sli enc PP W 5 p l c) : ∃ ns : List Int, hsv W.heap p 1 l (ints .u8 ns) ∧ isBytes ns ∧ l ≤ c ∧ l + 4096 ≤ 2 ^ 47 := by
  have hb : Tryz.prog.bytesOf 5 = 1 := by kernel_rfl
  have hc : Tryz.prog.cellsOf 5 = 1 := by kernel_rfl
  obtain ⟨ess, h1, h2, h3, _⟩ := h.els xByte24
  have hlc := h.1
  have hr := h.2.1
  rw [hb] at hr
  rw [hc] at h3
  have key : ∀ ess : List (List Value), (∀ es, es ∈ ess → es.length = Tryz.prog.cellsOf 5 ∧ XM enc PP W [XSh.int .u8] es) → ∃ ns : List Int, ess.flatten = ints .u8 ns ∧ isBytes ns := by
    intro ess
    induction ess with
    | nil => intro _; exact ⟨[], rfl, by intro n hn; simp at hn⟩
    | cons x r ih =>
      intro h
      obtain ⟨ns, e, hn⟩ := ih fun es hes => h es (by simp [hes])
      obtain ⟨n, rest, rfl, hh, hr⟩ := (h x (by simp)).2
      simp only [XM] at hr
      subst hr
      refine ⟨n :: ns, by simp [e], ?_⟩
      intro m hm
      rcases List.mem_cons.1 hm with rfl | hm
      · exact has_u8 hh
      · exact hn m hm
  obtain ⟨ns, e, hn⟩ := key ess h2
  rw [e] at h3
  refine ⟨ns, h3, hn, hlc, ?_⟩
  unfold reachBytes at hr
  omega
theorem cavs_of {p : Option Addr} {l c : Nat} (h : Sli enc PP W 50 p l c) : ∃ cs : List CvM, hsv W.heap p 5 l (cvsV cs) ∧ (∀ c, c ∈ cs → c.typed) ∧ l ≤ c ∧ l * 40 + 4096 ≤ 2 ^ 47 := by
  have hb : Tryz.prog.bytesOf 50 = 40 := by kernel_rfl
  have hc : Tryz.prog.cellsOf 50 = 5 := by kernel_rfl
  obtain ⟨ess, h1, h2, h3, _⟩ := h.els xCav24
  have hlc := h.1
  have hr := h.2.1
  rw [hb] at hr
  rw [hc] at h3
  have key : ∀ ess : List (List Value), (∀ es, es ∈ ess → es.length = Tryz.prog.cellsOf 50 ∧ XM enc PP W [XSh.int .i64, .int .i64, .int .i64, .int .i64, .int .u64] es) → ∃ cs : List CvM, ess.flatten = cvsV cs ∧ ∀ c, c ∈ cs → c.typed := by
    intro ess
    induction ess with
    | nil => intro _; exact ⟨[], rfl, by intro n hn; simp at hn⟩
    | cons x r ih =>
      intro h
      obtain ⟨cs, e, hn⟩ := ih fun es hes => h es (by simp [hes])
      obtain ⟨a, _, rfl, ha, b, _, rfl, hb, c, _, rfl, hc, d, _, rfl, hd, f, _, rfl, hf, hr⟩ := (h x (by simp)).2
      simp only [XM] at hr
      subst hr
      refine ⟨⟨a, b, c, d, f⟩ :: cs, by simp [e, cvsV], ?_⟩
      intro m hm
      rcases List.mem_cons.1 hm with rfl | hm
      · exact ⟨ha, hb, hc, hd, hf⟩
      · exact hn m hm
  obtain ⟨cs, e, hn⟩ := key ess h2
  rw [e] at h3
  refine ⟨cs, h3, hn, hlc, ?_⟩
  unfold reachBytes at hr
  omega
theorem slice24_of {t e : TypeId} {v : Value} {base : Nat} (u : Tryz.prog.underlying t = some (.slice e)) (h : Rdt enc PP W t v.cells.toList) (ho : Value.okWide PP W .any base t v) : ∃ p l c, v = .slice p l c ∧ Sli enc PP W e p l c := by
  obtain ⟨p, l, c, e1, hs⟩ := Rdt.slice u h
  exact ⟨p, l, c, okw_one (by rw [u]) ho e1, hs⟩
/-- A token that came in. -/
structure TokIn (h : H) (key : Int) (id tag : List Int) (cs : List CvM) (ip : Option Addr) (il : Nat) (cp : Option Addr) (cl : Nat) : Prop where
  key : has .i64 key
  ri : hsv h ip 1 il (ints .u8 id)
  rb : isBytes id
  ii : il + 4096 ≤ 2 ^ 47
  rc : hsv h cp 5 cl (cvsV cs)
  ct : ∀ c, c ∈ cs → c.typed
  cc : cl * 40 + 4096 ≤ 2 ^ 47
  tl : tag.length = 32
  tb : isBytes tag
theorem tok24_of {v : Value} {base : Nat} (h : Rdt enc PP W 28 v.cells.toList) (ho : Value.okWide PP W .any base 28 v) :
    ∃ key id tag cs ip il ic cp cl cc, v = .agg (tokL key ip il ic cp cl cc tag).toArray ∧ TokIn W.heap key id tag cs ip il cp cl := by
  have e := okw_agg (by kernel_rfl) ho
  obtain ⟨key, r1, e1, hk, ip, il, ic, r2, rfl, s2, cp, cl, cc, r3, rfl, s3, tag, r4, rfl, tl, th, hr⟩ := Rdt.xm 8 _ _ _ xTok24 h
  simp only [XM] at hr
  subst hr
  obtain ⟨id, i1, i2, _, i4⟩ := bytes24_of s2
  obtain ⟨cs, c1, c2, _, c4⟩ := cavs_of s3
  refine ⟨key, id, tag, cs, ip, il, ic, cp, cl, cc, ?_, hk, i1, i2, i4, c1, c2, c4, tl, fun x hx => has_u8 (th x hx)⟩
  rw [e]
  congr 1
  rw [← Array.toArray_toList (xs := v.cells), e1, List.append_nil]
theorem ok_tok {key : Int} {tag : List Int} {ip cp : Option Addr} {il ic cl cc : Nat} (ht : tag.length = 32) : (DV.agg [.c (.int .i64 key), .c (.slice ip il ic), .c (.slice cp cl cc), .row .u8 32 tag]).ok := by
  intro y hy
  simp only [List.mem_cons, List.not_mem_nil, or_false] at hy
  rcases hy with rfl | rfl | rfl | rfl
  · rfl
  · rfl
  · rfl
  · exact ht
end
end Go.Proofs.YtijcpgahmbkijaaGreatDoor
end
