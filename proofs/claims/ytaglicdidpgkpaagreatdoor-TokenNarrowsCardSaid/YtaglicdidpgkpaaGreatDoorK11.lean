/- TokenNarrows: what is proved and its parts, laid together by a program of ours: Tk5 Tk6 Tk7 Tr1 Tr2 Tr4 TkW Tk8 Tr6 At Rs1 Rs2 -/
import Derived.Test.YtaglicdidpgkpaaGreatDoorRows
import Derived.Test.YtaglicdidpgkpaaGreatDoorK10
set_option autoImplicit false
set_option linter.all false
/- Tokens: Narrow. Own work. -/
section
set_option maxRecDepth 100000
set_option linter.unusedVariables false
namespace Go.Proofs.YtaglicdidpgkpaaGreatDoor
open Go Go.Vc
section
variable {h0 h : H} {A : List Ent} {i j d : Nat}
theorem ckN {tb cb : Nat} {key : Int} {ip cp : Option Addr} {il ic cl cc : Nat} {tag : List Int} {c : CvM} (hs : Sat h0 A h) (tt : At A i (blk tb (tokL key ip il ic cp cl cc tag))) (tc : At A j (blk cb (cvV c))) :
  hcs h ⟨cb, 0, none⟩ (cvV c) ∧ hcs h ⟨tb, 3, none⟩ (ints .u8 tag) ∧ hcs h ⟨tb, 2, none⟩ [.slice cp cl cc] ∧ hcs h ⟨tb, 1, none⟩ [.slice ip il ic] ∧ hcs h ⟨tb, 0, none⟩ [.int .i64 key] :=
 ⟨Sat.cs hs tc rfl, tok_row hs tt, hcs_one (hs.ld tt rfl), hcs_one (hs.ld tt rfl), hcs_one (hs.ld tt rfl)⟩
theorem narrow_sp {Q : Int → Option Addr → Nat → Nat → Option Addr → Nat → Nat → List Int → Int → H → Prop} {key : Int} {id tag : List Int} {cs : List CvM} {ip cp : Option Addr} {il ic cl cc : Nat} (c : CvM) (hs : Sat h0 A h) (ht : tag.length = 32) (hl : cl < 2 ^ 40) (hi : il < 2 ^ 47)
  (ri : ∀ h', Sat h0 A h' → hsv h' ip 1 il (ints .u8 id)) (rc : ∀ h', Sat h0 A h' → hsv h' cp 5 cl (cvsV cs))
  (k1 : 32 ≤ cs.length → ∀ h', Sat h0 A h' → Q 0 none 0 0 none 0 0 (zeros 32) 3 h')
  (k2 : cs.length < 32 → ¬ c.may → ∀ h', Sat h0 A h' → Q 0 none 0 0 none 0 0 (zeros 32) 1 h')
  (k3 : cs.length < 32 → c.may → ∀ p1 c1 p2 c2 h', Sat h0 (slE p2 (cl + 1) c2 5 (cvsV (cs ++ [c])) :: slE p1 il c1 1 (ints .u8 id) :: A) h' → Q key p1 il c1 p2 (cl + 1) c2 (macM tag (cbM c)) 0 h') :
  F_token_Token_Narrow key ip il ic cp cl cc tag c.kind c.slot c.frm c.to c.set Q h := by
 unfold F_token_Token_Narrow G_token_Token_Narrow
 try simp only [add_mk, Nat.zero_add, List.append_nil]
 have hcl : cs.length = cl := by have := (rc _ hs).1; rw [cvsV_len] at this; omega
 intro tb _ hn; replace hs := Sat.new hs hn; clear hn
 intro cb _ hn; replace hs := Sat.new hs hn; clear hn
 intro zb _ hn; replace hs := Sat.new hs hn; clear hn
 replace hs : Sat h0 (blk zb tok0 :: blk cb (cvV c) :: blk tb (tokL key ip il ic cp cl cc tag) :: A) _ := hs
 have bad : ∀ (e : Int) h', Sat h0 (blk zb tok0 :: blk cb (cvV c) :: blk tb (tokL key ip il ic cp cl cc tag) :: A) h' → (∀ h', Sat h0 A h' → Q 0 none 0 0 none 0 0 (zeros 32) e h') →
   hcan h' ⟨zb, 0, none⟩ 35 ∧ ∀ h31 : H, h31 = hwr h' ⟨zb, 0, none⟩ tok0 → ∃ i33 : Int, hc h31 ⟨zb, 0, none⟩ = some (.int .i64 i33) ∧ ∃ (o34 : Option Addr) (n35 n36 : Nat), hc h31 ⟨zb, 1, none⟩ = some (.slice o34 n35 n36) ∧ ∃ (o37 : Option Addr) (n38 n39 : Nat), hc h31 ⟨zb, 2, none⟩ = some (.slice o37 n38 n39) ∧
    ∃ l40 : List Int, l40.length = 32 ∧ hrow h31 ⟨zb, 3, none⟩ .u8 l40 ∧ Q i33 o34 n35 n36 o37 n38 n39 l40 e h31 := by
  intro e h2 hs kk
  refine ⟨Sat.can hs (i := 0) .z (by simp [zeros]), ?_⟩
  intro h3 e3
  replace hs := Sat.wra hs (i := 0) .z e3 rfl
  clear e3
  rw [put_zero] at hs
  exact ⟨_, hs.ld (i := 0) .z rfl, _, _, _, hs.ld (i := 0) .z rfl, _, _, _, hs.ld (i := 0) .z rfl, _, zeros_len 32, tok_row hs (i := 0) .z, kk _ hs.drop.drop.drop⟩
 refine ⟨_, _, _, hs.ld (i := 2) (.s (.s .z)) rfl, ?_⟩
 rw [leI_eq]
 by_cases g : 32 ≤ cl
 ·rw [if_pos (by simp; omega)]
  exact bad 3 _ hs (k1 (by omega))
 rw [if_neg (by simp; omega)]
 refine ⟨_, hs.ld (i := 1) (.s .z) rfl, _, hs.ld (i := 1) (.s .z) rfl, _, hs.ld (i := 1) (.s .z) rfl, _, hs.ld (i := 1) (.s .z) rfl, _, hs.ld (i := 1) (.s .z) rfl, ?_⟩
 refine CMay_sp c hs ?_
 intro h1 hs
 by_cases gm : c.may
 case neg =>
  rw [if_pos (by simp [gm])]
  exact bad 1 _ hs (k2 (by omega) gm)
 rw [if_neg (by simp [gm])]
 have K := k3 (by omega) gm
 clear bad k1 k2 k3
 have fin : ∀ (p1 : Option Addr) (c1 : Nat) (p2 : Option Addr) (c2 : Nat) (h' : H), Sat h0 (slE p2 (cl + 1) c2 5 (cvsV (cs ++ [c])) :: slE p1 il c1 1 (ints .u8 id) :: blk zb tok0 :: blk cb (cvV c) :: blk tb (tokL key ip il ic cp cl cc tag) :: A) h' →
   hcs h' ⟨cb, 0, none⟩ (cvV c) ∧ hcs h' ⟨tb, 3, none⟩ (ints .u8 tag) ∧ hcs h' ⟨tb, 0, none⟩ [.int .i64 key] ∧ F_token_next tag c.kind c.slot c.frm c.to c.set (fun l92 h93 => hcs h93 ⟨tb, 0, none⟩ [.int .i64 key] ∧ hcan h93 ⟨zb, 0, none⟩ 35 ∧
    ∀ h94 : H, h94 = hwr h93 ⟨zb, 0, none⟩ (.int .i64 key :: .slice p1 il c1 :: .slice p2 (cl + 1) c2 :: ints .u8 l92) → ∃ i96 : Int, hc h94 ⟨zb, 0, none⟩ = some (.int .i64 i96) ∧ ∃ (o97 : Option Addr) (n98 n99 : Nat), hc h94 ⟨zb, 1, none⟩ = some (.slice o97 n98 n99) ∧
     ∃ (o100 : Option Addr) (n101 n102 : Nat), hc h94 ⟨zb, 2, none⟩ = some (.slice o100 n101 n102) ∧ ∃ l103 : List Int, l103.length = 32 ∧ hrow h94 ⟨zb, 3, none⟩ .u8 l103 ∧ Q i96 o97 n98 n99 o100 n101 n102 l103 0 h94) h' := by
  intro p1 c1 p2 c2 h2 hs
  obtain ⟨x1, x2, x3, x4, x5⟩ := ckN hs (i := 4) (j := 3) (.s (.s (.s (.s .z)))) (.s (.s (.s .z)))
  refine ⟨x1, x2, x5, ?_⟩
  refine next_sp24 c ht hs ?_
  intro h3 hs
  obtain ⟨x1, x2, x3, x4, x5⟩ := ckN hs (i := 4) (j := 3) (.s (.s (.s (.s .z)))) (.s (.s (.s .z)))
  refine ⟨x5, Sat.can hs (i := 2) (.s (.s .z)) (by simp [zeros]), ?_⟩
  intro h4 e
  replace hs := Sat.wra hs (i := 2) (.s (.s .z)) e (by simp [zeros, macM_len])
  clear e
  simp only [put_succ, put_zero] at hs
  replace hs : Sat h0 (slE p2 (cl + 1) c2 5 (cvsV (cs ++ [c])) :: slE p1 il c1 1 (ints .u8 id) :: blk zb (tokL key p1 il c1 p2 (cl + 1) c2 (macM tag (cbM c))) :: blk cb (cvV c) :: blk tb (tokL key ip il ic cp cl cc tag) :: A) h4 := hs
  refine ⟨_, hs.ld (i := 2) (.s (.s .z)) rfl, _, _, _, hs.ld (i := 2) (.s (.s .z)) rfl, _, _, _, hs.ld (i := 2) (.s (.s .z)) rfl, _, macM_len _ _, tok_row hs (i := 2) (.s (.s .z)), ?_⟩
  exact K _ _ _ _ _ (hs.sub (by (repeat (first | exact List.Sublist.refl _ | apply List.Sublist.cons_cons | apply List.Sublist.cons))))
 have ecs : cvsV (cs ++ [c]) = cvsV cs ++ cvV c := by rw [cvsV_app]; simp [cvsV]
 refine ⟨_, hs.ld (i := 2) (.s (.s .z)) rfl, _, _, _, hs.ld (i := 2) (.s (.s .z)) rfl, _, _, _, hs.ld (i := 2) (.s (.s .z)) rfl, ?_⟩
 refine ⟨_, hs.ld (i := 1) (.s .z) rfl, _, hs.ld (i := 1) (.s .z) rfl, _, hs.ld (i := 1) (.s .z) rfl, _, hs.ld (i := 1) (.s .z) rfl, _, hs.ld (i := 1) (.s .z) rfl, ?_⟩
 refine ⟨tag, ht, tok_row hs (i := 2) (.s (.s .z)), ?_⟩
 refine ⟨_, hs.ld (i := 1) (.s .z) rfl, _, hs.ld (i := 1) (.s .z) rfl, _, hs.ld (i := 1) (.s .z) rfl, _, hs.ld (i := 1) (.s .z) rfl, _, hs.ld (i := 1) (.s .z) rfl, ?_⟩
 have cv1 : ∀ v, v ∈ cvV c → v.oneCell' = true := by
  intro v hv
  simp only [List.mem_cons, List.not_mem_nil, or_false] at hv
  rcases hv with rfl | rfl | rfl | rfl | rfl <;> rfl
 refine ⟨?_, ?_⟩
 ·refine clone1_sp (vs := ints .u8 id) hs (by omega) (fun h' hs' => ri _ hs'.drop.drop.drop) ?_
  intro p1 c1 h2 _ hs
  obtain ⟨x1, x2, x3, x4, x5⟩ := ckN hs (i := 3) (j := 2) (.s (.s (.s .z))) (.s (.s .z))
  refine ⟨x1, x2, x1, x3, x5, ?_, ?_⟩
  ·refine clone5_sp (vs := cvsV cs) hs hl (fun h' hs' => rc _ hs'.drop.drop.drop.drop) ?_
   intro p2 c2 h3 hs
   obtain ⟨x1, x2, x3, x4, x5⟩ := ckN hs (i := 4) (j := 3) (.s (.s (.s (.s .z)))) (.s (.s (.s .z)))
   refine ⟨x1, x2, x1, x5, ?_⟩
   intro bb _ hn; replace hs := Sat.new hs hn; clear hn
   obtain ⟨x1, x2, x3, x4, x5⟩ := ckN hs (i := 5) (j := 4) (.s (.s (.s (.s (.s .z))))) (.s (.s (.s (.s .z))))
   refine ⟨x1, x2, x5, _, hs.bv (i := 0) (l := 1) (sz := 5) .z rfl cv1, ?_⟩
   refine Sat.app hs (i := 1) (vs := cvV c) (.s .z) rfl rfl cv1 (by omega) ?_
   intro p3 c3 h4 hs
   simp only [put_succ, put_zero] at hs
   rw [← ecs] at hs
   exact fin _ _ _ _ _ hs.drop
  ·intro bb _ hn; replace hs := Sat.new hs hn; clear hn
   obtain ⟨x1, x2, x3, x4, x5⟩ := ckN hs (i := 4) (j := 3) (.s (.s (.s (.s .z)))) (.s (.s (.s .z)))
   refine ⟨x1, x2, x3, x5, ?_⟩
   refine clone5_sp (vs := cvsV cs) hs hl (fun h' hs' => rc _ hs'.drop.drop.drop.drop.drop) ?_
   intro p2 c2 h3 hs
   obtain ⟨x1, x2, x3, x4, x5⟩ := ckN hs (i := 5) (j := 4) (.s (.s (.s (.s (.s .z))))) (.s (.s (.s (.s .z))))
   refine ⟨x1, x2, x5, _, hs.bv (i := 1) (l := 1) (sz := 5) (.s .z) rfl cv1, ?_⟩
   refine Sat.app hs (i := 0) (vs := cvV c) .z rfl rfl cv1 (by omega) ?_
   intro p3 c3 h4 hs
   simp only [put_succ, put_zero] at hs
   rw [← ecs] at hs
   exact fin _ _ _ _ _ (hs.sub (by (repeat (first | exact List.Sublist.refl _ | apply List.Sublist.cons_cons | apply List.Sublist.cons))))
 ·intro bb _ hn; replace hs := Sat.new hs hn; clear hn
  obtain ⟨x1, x2, x3, x4, x5⟩ := ckN hs (i := 3) (j := 2) (.s (.s (.s .z))) (.s (.s .z))
  refine ⟨x1, x2, x3, x4, x5, ?_⟩
  refine clone1_sp (vs := ints .u8 id) hs (by omega) (fun h' hs' => ri _ hs'.drop.drop.drop.drop) ?_
  intro p1 c1 h2 _ hs
  obtain ⟨x1, x2, x3, x4, x5⟩ := ckN hs (i := 4) (j := 3) (.s (.s (.s (.s .z)))) (.s (.s (.s .z)))
  refine ⟨x1, x2, x3, x5, ?_⟩
  refine clone5_sp (vs := cvsV cs) hs hl (fun h' hs' => rc _ hs'.drop.drop.drop.drop.drop) ?_
  intro p2 c2 h3 hs
  obtain ⟨x1, x2, x3, x4, x5⟩ := ckN hs (i := 5) (j := 4) (.s (.s (.s (.s (.s .z))))) (.s (.s (.s (.s .z))))
  refine ⟨x1, x2, x5, _, hs.bv (i := 2) (l := 1) (sz := 5) (.s (.s .z)) rfl cv1, ?_⟩
  refine Sat.app hs (i := 0) (vs := cvV c) .z rfl rfl cv1 (by omega) ?_
  intro p3 c3 h4 hs
  simp only [put_succ, put_zero] at hs
  rw [← ecs] at hs
  exact fin _ _ _ _ _ (hs.sub (by (repeat (first | exact List.Sublist.refl _ | apply List.Sublist.cons_cons | apply List.Sublist.cons))))
end
end Go.Proofs.YtaglicdidpgkpaaGreatDoor
end

/- Tokens: Get. Own work. -/
section
set_option maxRecDepth 100000
set_option linter.unusedVariables false
namespace Go.Proofs.YtaglicdidpgkpaaGreatDoor
open Go Go.Vc

def nuM (b : List Int) : Nat → Int
 | 0 => 0
 | t + 1 => bits .or .u64 (nuM b t) (IntKind.u64.wrap (IntKind.u64.wrap (b.getD t 0) * 2 ^ min (8 * t) 64))
def standsM (at_ : Nat) (c : Int) : Bool := if at_ = 5 then decide (c < 64) else if at_ = 6 then decide (1 ≤ c ∧ c ≤ 64) else if at_ = 7 then decide (c ≤ 32) else c == ([80, 67, 84, 75, 1] : List Int).getD at_ 0
def gHead (bs : List Int) : Nat → Option (Int × Int)
 | 0 => none
 | k + 1 => if 8 - (k + 1) = bs.length then some (6, bs.length) else if standsM (8 - (k + 1)) (bs.getD (8 - (k + 1)) 0) = true then gHead bs k else some (5, ((8 - (k + 1) : Nat) : Int))
def cvAt (bs : List Int) (a : Nat) : CvM :=
 ⟨IntKind.i64.wrap (bs.getD a 0), IntKind.i64.wrap (bs.getD (a + 1) 0), IntKind.i64.wrap (nuM (bs.drop (a + 2)) 8), IntKind.i64.wrap (nuM (bs.drop (a + 10)) 8), nuM (bs.drop (a + 18)) 8⟩
def gCavs (bs : List Int) : Nat → Nat → List CvM → Except (Int × Int) (Nat × List CvM)
 | 0, a, cs => .ok (a, cs)
 | n + 1, a, cs => if bs.length < a + 26 then .error (6, bs.length) else if (cvAt bs a).may then gCavs bs n (a + 26) (cs ++ [cvAt bs a]) else .error (5, a)
structure TkM where
 key : Int
 id : List Int
 cs : List CvM
 tag : List Int
def gRest (bs : List Int) (a : Nat) (cs : List CvM) : Except (Int × Int) TkM :=
 if bs.length < a + 32 then .error (6, bs.length) else if a + 32 < bs.length then .error (7, ((a + 32 : Nat) : Int)) else .ok ⟨bs.getD 5 0, (bs.drop 8).take (bs.getD 6 0).toNat, cs, (bs.drop a).take 32⟩
def tgetM (bs : List Int) : Except (Int × Int) TkM :=
 match gHead bs 8 with
 | some e => .error e
 | none => if bs.length < 8 + (bs.getD 6 0).toNat then .error (6, bs.length) else
  match gCavs bs (bs.getD 7 0).toNat (8 + (bs.getD 6 0).toNat) [] with
  | .error e => .error e
  | .ok (a, cs) => gRest bs a cs
def isBytes (bs : List Int) : Prop := ∀ n, n ∈ bs → 0 ≤ n ∧ n < 256
theorem isB_get {bs : List Int} (hb : isBytes bs) (x : Nat) : 0 ≤ bs.getD x 0 ∧ bs.getD x 0 < 256 := by
 rw [List.getD_eq_getElem?_getD]
 cases e : bs[x]? with
 | none => exact ⟨by decide, by decide⟩
 | some v => exact hb v (List.mem_iff_getElem?.2 ⟨x, e⟩)
section
variable {h0 h : H} {A : List Ent} {i j d : Nat}
theorem number24_sp {Q : Int → H → Prop} {p : Option Addr} {l c : Nat} {bs : List Int} (rd : hsv h p 1 l (ints .u8 bs)) (hl : 8 ≤ l) (q : Q (nuM bs 8) h) : F_token_number p l c Q h := by
 unfold F_token_number G_token_number
 intro J hJ
 refine loopS 8 (fun t (x : Int) => [.dv (.one (.int .u64 x)), si t]) (fun t x h' => x = nuM bs t ∧ h' = h) ?_ ?_ 0 0 _ (by omega) ⟨rfl, rfl⟩
 ·rintro t x h1 ht ⟨hx, hh⟩ hk
  subst hx hh
  apply hJ
  rw [ltI_eq, if_pos (by simp; omega)]
  obtain ⟨q1, hq1, g⟩ := hsvI rd (x := t) (by omega)
  have e8 : IntKind.i64.wrap (8 * (t : Int)) = ((8 * t : Nat) : Int) := by rw [wrap_id (by omega)]; push_cast; rfl
  rw [e8]
  simp only [Int.toNat_natCast, Nat.mul_one]
  refine ⟨q1, hq1, by omega, by omega, _, g, by omega, ?_⟩
  rw [wrap_succ (by omega)]
  exact hk _ _ ⟨rfl, rfl⟩
 ·rintro x h1 ⟨hx, hh⟩
  subst hx hh
  apply hJ
  rw [ltI_eq, if_neg (by decide)]
  exact q
theorem stands_sp {Q : Bool → H → Prop} (t : Nat) (c : Int) (ht : t < 8) (q : Q (standsM t c) h) : F_token_stands (t : Int) c Q h := by
 unfold F_token_stands G_token_stands
 unfold standsM at q
 by_cases c5 : t = 5
 ·rw [if_pos c5] at q
  rw [if_pos (by simp [c5]), ltI_eq]
  exact q
 rw [if_neg c5] at q
 rw [if_neg (by simp; omega)]
 by_cases c6 : t = 6
 ·rw [if_pos c6] at q
  rw [if_pos (by simp [c6]), leI_eq]
  by_cases g : 1 ≤ c
  ·rw [if_pos (by simpa using g), leI_eq]
   simpa [g] using q
  ·rw [if_neg (by simpa using g)]
   simpa [g] using q
 rw [if_neg c6] at q
 rw [if_neg (by simp; omega)]
 by_cases c7 : t = 7
 ·rw [if_pos c7] at q
  rw [if_pos (by simp [c7]), leI_eq]
  exact q
 rw [if_neg c7] at q
 rw [if_neg (by simp; omega)]
 refine ⟨by omega, by omega, ?_⟩
 rw [Int.toNat_natCast]
 have : t = 0 ∨ t = 1 ∨ t = 2 ∨ t = 3 ∨ t = 4 := by omega
 rcases this with rfl | rfl | rfl | rfl | rfl <;> exact q
theorem gHead_at (bs : List Int) {t : Nat} (ht : t < 8) : gHead bs (8 - t) = if t = bs.length then some (6, (bs.length : Int)) else if standsM t (bs.getD t 0) = true then gHead bs (8 - (t + 1)) else some (5, (t : Int)) := by
 obtain ⟨k, hk⟩ : ∃ k, 8 - t = k + 1 := ⟨7 - t, by omega⟩
 rw [hk]
 show (if 8 - (k + 1) = bs.length then _ else _) = _
 rw [show 8 - (k + 1) = t by omega, show 8 - (t + 1) = k by omega]
theorem gCavs_at (bs : List Int) {n t a : Nat} (cs : List CvM) (ht : t < n) : gCavs bs (n - t) a cs = if bs.length < a + 26 then .error (6, (bs.length : Int)) else if (cvAt bs a).may then gCavs bs (n - (t + 1)) (a + 26) (cs ++ [cvAt bs a]) else .error (5, (a : Int)) := by
 obtain ⟨k, hk⟩ : ∃ k, n - t = k + 1 := ⟨n - t - 1, by omega⟩
 rw [hk]
 show (if bs.length < a + 26 then _ else _) = _
 rw [show n - (t + 1) = k by omega]
theorem nuM_congr {a b : List Int} : ∀ {t : Nat}, (∀ x, x < t → a.getD x 0 = b.getD x 0) → nuM a t = nuM b t
 | 0, _ => rfl
 | t + 1, h => by
  show bits .or .u64 (nuM a t) _ = bits .or .u64 (nuM b t) _
  rw [nuM_congr (t := t) fun x hx => h x (by omega), h t (by omega)]
theorem dropD (bs : List Int) (o n x : Nat) (hx : x < n) : ((bs.drop o).take n).getD x 0 = bs.getD (o + x) 0 := by
 rw [List.getD_eq_getElem?_getD, List.getD_eq_getElem?_getD, List.getElem?_take_of_lt hx, List.getElem?_drop]
theorem dropD' (bs : List Int) (o x : Nat) : (bs.drop o).getD x 0 = bs.getD (o + x) 0 := by
 rw [List.getD_eq_getElem?_getD, List.getD_eq_getElem?_getD, List.getElem?_drop]
theorem tok_tag {key : Int} {ip cp : Option Addr} {il ic cl cc : Nat} {tag : List Int} (ht : tag.length = 32) : splice (tokL key ip il ic cp cl cc (zeros 32)) 3 (ints .u8 tag) = tokL key ip il ic cp cl cc tag := by
 apply List.ext_getElem?
 intro x
 rw [splice_get, ints_length, ht]
 have e35 : (tokL key ip il ic cp cl cc (zeros 32)).length = 35 := by simp [zeros]
 have e35' : (tokL key ip il ic cp cl cc tag).length = 35 := by simp [ht]
 by_cases c : 3 ≤ x ∧ x < 3 + 32 ∧ x < (tokL key ip il ic cp cl cc (zeros 32)).length
 ·rw [if_pos c]
  obtain ⟨y, rfl⟩ : ∃ y, x = y + 1 + 1 + 1 := ⟨x - 3, by omega⟩
  show _ = (Value.int .i64 key :: .slice ip il ic :: .slice cp cl cc :: ints .u8 tag)[y + 1 + 1 + 1]?
  rw [List.getElem?_cons_succ, List.getElem?_cons_succ, List.getElem?_cons_succ]
  congr 1
 ·rw [if_neg c]
  match x with
  | 0 => rfl
  | 1 => rfl
  | 2 => rfl
  | x + 3 => rw [List.getElem?_eq_none (by omega), List.getElem?_eq_none (by omega)]
theorem tok_cs {key : Int} {ip cp cp' : Option Addr} {il ic cl cc cl' cc' : Nat} {tag : List Int} : splice (tokL key ip il ic cp cl cc tag) 2 [.slice cp' cl' cc'] = tokL key ip il ic cp' cl' cc' tag := rfl
abbrev wrongT : TypeId := 200
theorem get_sp {Q : Int → Option Addr → Nat → Nat → Option Addr → Nat → Nat → List Int → Value → H → Prop} {bs : List Int} {p : Option Addr} {l c : Nat} (hs : Sat h0 A h) (hb : isBytes bs) (hlc : l ≤ c) (hl : l < 2 ^ 47) (rd : ∀ h', Sat h0 A h' → hsv h' p 1 l (ints .u8 bs))
  (kE : ∀ e a, tgetM bs = .error (e, a) → ∀ w h', Sat h0 (blk w [.int .i64 e, .int .i64 a] :: A) h' → Q 0 none 0 0 none 0 0 (zeros 32) (.iface wrongT (.pointer (some ⟨w, 0, none⟩))) h')
  (kT : ∀ t, tgetM bs = .ok t → ∀ p1 c1 p2 l2 c2 h', t.cs.length = l2 → Sat h0 (slE p2 l2 c2 5 (cvsV t.cs) :: slE p1 t.id.length c1 1 (ints .u8 t.id) :: A) h' → t.tag.length = 32 → Q t.key p1 t.id.length c1 p2 l2 c2 t.tag .nilIface h') :
  F_token_Get p l c Q h := by
 unfold F_token_Get G_token_Get
 try simp only [add_mk, Nat.zero_add, List.append_nil]
 have hbl : bs.length = l := by have := (rd _ hs).1; simpa using this
 intro rb _ hn; replace hs := Sat.new hs hn; clear hn
 intro tb _ hn; replace hs := Sat.new hs hn; clear hn
 intro wb _ hn; replace hs := Sat.new hs hn; clear hn
 replace hs : Sat h0 (blk wb [.int .i64 6, .int .i64 (l : Int)] :: blk tb tok0 :: blk rb tok0 :: A) _ := hs
 intro J18 hJ18
 have bad : ∀ (w : Nat) (e a : Int) (h' : H), tgetM bs = .error (e, a) → (∃ x, Sat h0 (blk w [.int .i64 e, .int .i64 a] :: blk rb x :: A) h' ∧ x.length = 35) → J18 [.dv (.one (.pointer (some ⟨w, 0, none⟩)))] h' := by
  rintro w e a h2 he ⟨x, hs, hx⟩
  apply hJ18
  refine ⟨Sat.can hs (i := 1) (.s .z) (by omega), ?_⟩
  intro h3 e3
  replace hs := Sat.wra (xs := tok0) hs (i := 1) (.s .z) e3 (by rw [hx]; simp [zeros])
  clear e3
  simp only [put_succ, put_zero] at hs
  refine ⟨_, hs.ld (i := 1) (.s .z) rfl, _, _, _, hs.ld (i := 1) (.s .z) rfl, _, _, _, hs.ld (i := 1) (.s .z) rfl, _, zeros_len 32, tok_row hs (i := 1) (.s .z), ?_⟩
  exact kE e a he w h3 (hs.sub (by (repeat (first | exact List.Sublist.refl _ | apply List.Sublist.cons_cons | apply List.Sublist.cons))))
 clear kE hJ18
 have t35 : (tok0).length = 35 := by simp [zeros]
 intro J33 hJ33
 apply hJ33
 clear hJ33 J33
 intro J36 hJ36
 refine loopS 8 (fun t (_ : Unit) => [.dv (.one (.pointer (some ⟨wb, 0, none⟩))), si t]) (fun t _ h => gHead bs 8 = gHead bs (8 - t) ∧ t ≤ bs.length ∧ Sat h0 (blk wb [.int .i64 6, .int .i64 (l : Int)] :: blk tb tok0 :: blk rb tok0 :: A) h) ?_ ?_ 0 () _ (by omega) ⟨rfl, by omega, hs⟩
 ·rintro t _ h1 ht ⟨hg, htl, hs⟩ hk
  apply hJ36
  rw [ltI_eq, if_pos (by simp; omega)]
  rw [gHead_at bs ht] at hg
  by_cases ce : t = l
  ·rw [if_pos (by simp [ce])]
   rw [if_pos (by omega)] at hg
   refine bad wb 6 l h1 ?_ ⟨tok0, hs.sub (by (repeat (first | exact List.Sublist.refl _ | apply List.Sublist.cons_cons | apply List.Sublist.cons))), t35⟩
   unfold tgetM
   rw [hg, hbl]
  rw [if_neg (by simp; omega)]
  rw [if_neg (by omega)] at hg
  obtain ⟨q, hq, g⟩ := hsvI (rd _ hs.drop.drop.drop) (x := t) (by omega)
  refine ⟨q, hq, by omega, by omega, ?_⟩
  simp only [Int.toNat_natCast, Nat.mul_one]
  refine ⟨_, g, ?_⟩
  refine stands_sp t _ ht ?_
  by_cases cs : standsM t (bs.getD t 0) = true
  ·rw [if_pos cs] at hg
   rw [cs, if_neg (by decide), wrap_succ (by omega)]
   exact hk () _ ⟨hg, by omega, hs⟩
  ·rw [if_neg cs] at hg
   have cs' : standsM t (bs.getD t 0) = false := by simpa using cs
   rw [cs', if_pos (by decide)]
   intro nb _ hn; replace hs := Sat.new hs hn; clear hn
   refine bad nb 5 t _ ?_ ⟨tok0, hs.sub (by (repeat (first | exact List.Sublist.refl _ | apply List.Sublist.cons_cons | apply List.Sublist.cons))), t35⟩
   unfold tgetM
   rw [hg]
 rintro _ h1 ⟨hg, hl8, hs⟩
 apply hJ36
 rw [ltI_eq, if_neg (by decide)]
 clear hJ36 J36
 replace hg : gHead bs 8 = none := hg
 obtain ⟨q, hq, _⟩ := hsvI (rd _ hs.drop.drop.drop) (x := 0) (by omega)
 subst hq
 have rdx : ∀ h' x, Sat h0 A h' → x < l → hc h' (q.add x) = some (.int .u8 (bs.getD x 0)) := by
  intro h' x hs' hx
  obtain ⟨q', hq', g⟩ := hsvI (rd _ hs') (x := x) hx
  injection hq' with hq'
  subst hq'
  exact g
 obtain ⟨n6, hn6⟩ : ∃ n6, n6 = (bs.getD 6 0).toNat := ⟨_, rfl⟩
 obtain ⟨n7, hn7⟩ : ∃ n7, n7 = (bs.getD 7 0).toNat := ⟨_, rfl⟩
 have b5 := isB_get hb 5
 have b6 := isB_get hb 6
 have b7 := isB_get hb 7
 have tg : tgetM bs = if bs.length < 8 + n6 then .error (6, (bs.length : Int)) else match gCavs bs n7 (8 + n6) [] with | .error e => .error e | .ok (a, cs) => gRest bs a cs := by
  unfold tgetM
  rw [hg, hn6, hn7]
 have e86 : IntKind.i64.wrap (8 + IntKind.i64.wrap (bs.getD 6 0)) = ((8 + n6 : Nat) : Int) := by
  rw [wrap_id (n := bs.getD 6 0) (by omega), wrap_id (by omega)]; omega
 refine ⟨q, rfl, by decide, by omega, _, rdx _ 6 hs.drop.drop.drop (by omega), ?_⟩
 rw [e86, ltI_eq]
 by_cases c6 : l < 8 + n6
 ·rw [if_pos (by rw [decide_eq_true_iff]; omega)]
  refine bad wb 6 l h1 ?_ ⟨tok0, hs.sub (by (repeat (first | exact List.Sublist.refl _ | apply List.Sublist.cons_cons | apply List.Sublist.cons))), t35⟩
  rw [tg, if_pos (by omega), hbl]
 rw [if_neg (by rw [decide_eq_true_iff]; omega)]
 rw [if_neg (by omega)] at tg
 refine ⟨q, rfl, by decide, by omega, _, rdx _ 5 hs.drop.drop.drop (by omega), by decide, by omega, by omega, ?_⟩
 simp only [Int.toNat_natCast]
 rw [show 8 + n6 - 8 = n6 by omega]
 refine clone1_sp (vs := ints .u8 ((bs.drop 8).take n6)) hs (by omega) (fun h' hs' => subRd (o := 8) (n := n6) (m := c) (rd _ hs'.drop.drop.drop) (by omega) (by omega)) ?_
 intro p1 c1 h2 _ hs
 refine ⟨hcs_one (rdx _ 5 hs.drop.drop.drop.drop (by omega)), ?_⟩
 refine ⟨Sat.can hs (i := 2) (.s (.s .z)) (by simp [zeros]), ?_⟩
 intro h3 e
 replace hs := Sat.wra hs (i := 2) (.s (.s .z)) e (by simp [zeros])
 clear e
 rw [wrap_id (n := bs.getD 5 0) (by omega)] at hs
 simp only [put_succ, put_zero] at hs
 obtain ⟨id, hid⟩ : ∃ id, id = (bs.drop 8).take n6 := ⟨_, rfl⟩
 rw [← hid] at hs
 have hidl : id.length = n6 := by rw [hid]; simp; omega
 obtain ⟨key, hkey⟩ : ∃ key, key = bs.getD 5 0 := ⟨_, rfl⟩
 rw [← hkey] at hs
 replace hs : Sat h0 (slE p1 n6 c1 1 (ints .u8 id) :: blk wb [.int .i64 6, .int .i64 (l : Int)] :: blk tb (tokL key p1 n6 c1 none 0 0 (zeros 32)) :: blk rb tok0 :: A) h3 := hs
 refine ⟨q, rfl, by decide, by omega, _, rdx _ 7 hs.drop.drop.drop.drop (by omega), ?_⟩
 have e7 : IntKind.i64.wrap (bs.getD 7 0) = (n7 : Int) := by rw [wrap_id (by omega)]; omega
 rw [e7]
 intro J59 hJ59
 refine loopS n7 (fun t (_ : List CvM × Option Addr × Nat) => [.dv (.one (.pointer (some ⟨wb, 0, none⟩))), .dv (.one (.int .i64 ((8 + n6 + 26 * t : Nat) : Int))), si t])
  (fun t s h => s.1.length = t ∧ gCavs bs n7 (8 + n6) [] = gCavs bs (n7 - t) (8 + n6 + 26 * t) s.1 ∧ 8 + n6 + 26 * t ≤ l ∧ Sat h0 (slE s.2.1 t s.2.2 5 (cvsV s.1) :: slE p1 n6 c1 1 (ints .u8 id) :: blk wb [.int .i64 6, .int .i64 (l : Int)] :: blk tb (tokL key p1 n6 c1 s.2.1 t s.2.2 (zeros 32)) :: blk rb tok0 :: A) h) ?_ ?_ 0 ([], none, 0) _ (by omega)
  ⟨rfl, rfl, by omega, hs.sl_nil 5 none⟩
 ·rintro t ⟨cs, p2, c2⟩ h4 ht ⟨hcl, hgc, hal, hs⟩ hk
  dsimp only at hcl hgc hs hk ⊢
  apply hJ59
  rw [ltI_eq, if_pos (by simp; omega)]
  obtain ⟨a, ha⟩ : ∃ a, a = 8 + n6 + 26 * t := ⟨_, rfl⟩
  rw [← ha] at hgc hal ⊢
  rw [gCavs_at bs cs ht] at hgc
  have e26 : IntKind.i64.wrap ((a : Int) + 26) = ((a + 26 : Nat) : Int) := by rw [wrap_id (by omega)]; push_cast; rfl
  rw [e26, ltI_eq]
  by_cases cl : l < a + 26
  ·rw [if_pos (by rw [decide_eq_true_iff]; omega)]
   rw [if_pos (by omega)] at hgc
   refine bad wb 6 l h4 ?_ ⟨tok0, hs.sub (by (repeat (first | exact List.Sublist.refl _ | apply List.Sublist.cons_cons | apply List.Sublist.cons))), t35⟩
   rw [tg, hgc, hbl]
  rw [if_neg (by rw [decide_eq_true_iff]; omega)]
  rw [if_neg (by omega)] at hgc
  refine ⟨by omega, by omega, by omega, ?_⟩
  intro J64 hJ64
  obtain ⟨C, hC⟩ : ∃ C, C = cvAt bs a := ⟨_, rfl⟩
  rw [← hC] at hgc
  have wayC : ∀ (cb : Nat) h', Sat h0 (blk cb (cvV C) :: slE p2 t c2 5 (cvsV cs) :: slE p1 n6 c1 1 (ints .u8 id) :: blk wb [.int .i64 6, .int .i64 (l : Int)] :: blk tb (tokL key p1 n6 c1 p2 t c2 (zeros 32)) :: blk rb tok0 :: A) h' → J64 [.dv (.addr ⟨cb, 0, none⟩)] h' := by
   intro cb h5 hs
   apply hJ64
   clear hJ64 J64
   try simp only [add_mk, Nat.zero_add]
   refine ⟨_, hs.ld (i := 0) .z rfl, _, hs.ld (i := 0) .z rfl, _, hs.ld (i := 0) .z rfl, _, hs.ld (i := 0) .z rfl, _, hs.ld (i := 0) .z rfl, ?_⟩
   refine CMay_sp C hs ?_
   intro h6 hs
   by_cases gm : C.may
   case neg =>
    rw [if_pos (by simp [gm])]
    rw [if_neg gm] at hgc
    intro nb _ hn; replace hs := Sat.new hs hn; clear hn
    refine bad nb 5 a _ ?_ ⟨tok0, hs.sub (by (repeat (first | exact List.Sublist.refl _ | apply List.Sublist.cons_cons | apply List.Sublist.cons))), t35⟩
    rw [tg, hgc]
   rw [if_neg (by simp [gm])]
   rw [if_pos gm] at hgc
   refine ⟨_, _, _, hs.ld (i := 4) (.s (.s (.s (.s .z)))) rfl, ?_⟩
   refine ⟨_, hs.ld (i := 0) .z rfl, _, hs.ld (i := 0) .z rfl, _, hs.ld (i := 0) .z rfl, _, hs.ld (i := 0) .z rfl, _, hs.ld (i := 0) .z rfl, ?_⟩
   intro bb _ hn; replace hs := Sat.new hs hn; clear hn
   have cv1 : ∀ v, v ∈ cvV C → v.oneCell' = true := by
    intro v hv
    simp only [List.mem_cons, List.not_mem_nil, or_false] at hv
    rcases hv with rfl | rfl | rfl | rfl | rfl <;> rfl
   refine ⟨_, hs.bv (i := 0) (l := 1) (sz := 5) .z rfl cv1, ?_⟩
   refine Sat.app hs (i := 2) (vs := cvV C) (.s (.s .z)) rfl rfl cv1 (by omega) ?_
   intro p3 c3 h7 hs
   simp only [put_succ, put_zero] at hs
   replace hs := hs.drop.drop
   refine ⟨Sat.can hs (i := 3) (.s (.s (.s .z))) (by simp [zeros]), ?_⟩
   intro h8 e
   replace hs := Sat.wr hs (i := 3) (.s (.s (.s .z))) e
   clear e
   rw [tok_cs] at hs
   simp only [put_succ, put_zero] at hs
   rw [wrap_succ (by omega)]
   have K := hk (cs ++ [C], p3, c3) h8
   dsimp only at K
   rw [show 8 + n6 + 26 * (t + 1) = a + 26 by omega] at K
   refine K ⟨by simp [hcl], hgc, by omega, ?_⟩
   have ecs : cvsV (cs ++ [C]) = cvsV cs ++ cvV C := by rw [cvsV_app]; simp [cvsV]
   rw [ecs]
   exact hs
  clear hJ64 bad
  have base : ∀ h', Sat h0 A h' → hsv h' (subAddr (some q) a c 1) 1 26 (ints .u8 ((bs.drop a).take 26)) := fun h' hs' => subRd (o := a) (n := 26) (m := c) (rd _ hs') (by omega) (by omega)
  simp only [Int.toNat_natCast]
  rw [show a + 26 - a = 26 by omega]
  have nums : ∀ (o : Nat) h', o + 8 ≤ 26 → Sat h0 A h' → hsv h' (subAddr (subAddr (some q) a c 1) o (c - a) 1) 1 (26 - o) (ints .u8 ((((bs.drop a).take 26).drop o).take (26 - o))) := fun o h' ho hs' => subRd (o := o) (n := 26 - o) (m := c - a) (base _ hs') (by omega) (by omega)
  have numE : ∀ o, o + 8 ≤ 26 → nuM ((((bs.drop a).take 26).drop o).take (26 - o)) 8 = nuM (bs.drop (a + o)) 8 := by
   intro o ho
   refine nuM_congr fun x hx => ?_
   rw [dropD _ _ _ _ (by omega), dropD _ _ _ _ (by omega), dropD', Nat.add_assoc]
  have sa : subAddr (some q) a c 1 = some (q.add a) := by
   unfold subAddr
   rw [if_neg (by omega), Nat.mul_one]; rfl
  have rdA : ∀ h', Sat h0 A h' → hc h' (q.add a) = some (.int .u8 (bs.getD a 0)) := fun h' hs' => rdx _ a hs' (by omega)
  have rdB : ∀ h', Sat h0 A h' → hc h' ((q.add a).add 1) = some (.int .u8 (bs.getD (a + 1) 0)) := fun h' hs' => by rw [addAdd]; exact rdx _ (a + 1) hs' (by omega)
  have SA := hs.drop.drop.drop.drop.drop
  refine ⟨_, sa, by decide, by omega, _, rdA _ SA, _, sa, by decide, by omega, _, rdB _ SA, by decide, by omega, by decide, by omega, by decide, by omega, ?_⟩
  have fin : ∀ (cb : Nat) (x : List Value) h', x.length = 5 → Sat h0 (blk cb x :: slE p2 t c2 5 (cvsV cs) :: slE p1 n6 c1 1 (ints .u8 id) :: blk wb [.int .i64 6, .int .i64 (l : Int)] :: blk tb (tokL key p1 n6 c1 p2 t c2 (zeros 32)) :: blk rb tok0 :: A) h' →
    hcan h' ⟨cb, 0, none⟩ 5 ∧ ∀ h110 : H, h110 = hwr h' ⟨cb, 0, none⟩ [.int .i64 (IntKind.i64.wrap (bs.getD a 0)), .int .i64 (IntKind.i64.wrap (bs.getD (a + 1) 0)), .int .i64 (IntKind.i64.wrap (nuM ((((bs.drop a).take 26).drop 2).take (26 - 2)) 8)), .int .i64 (IntKind.i64.wrap (nuM ((((bs.drop a).take 26).drop 10).take (26 - 10)) 8)), .int .u64 (nuM ((((bs.drop a).take 26).drop 18).take (26 - 18)) 8)] → J64 [.dv (.addr ⟨cb, 0, none⟩)] h110 := by
   intro cb x h5 hx hs
   refine ⟨Sat.can hs (i := 0) .z (by omega), ?_⟩
   intro h6 e
   replace hs := Sat.wra hs (i := 0) .z e (by rw [hx]; rfl)
   clear e
   rw [put_zero, numE 2 (by decide), numE 10 (by decide), numE 18 (by decide)] at hs
   refine wayC cb h6 ?_
   rw [hC]
   exact hs
  refine ⟨?_, ?_⟩
  ·refine number24_sp (nums 2 _ (by decide) SA) (by decide) ?_
   refine ⟨hcs_one (rdB _ SA), hcs_one (rdA _ SA), ?_, ?_⟩
   ·refine number24_sp (nums 10 _ (by decide) SA) (by decide) ?_
    refine ⟨hcs_one (rdB _ SA), hcs_one (rdA _ SA), ?_, ?_⟩
    ·refine number24_sp (nums 18 _ (by decide) SA) (by decide) ?_
     refine ⟨hcs_one (rdB _ SA), hcs_one (rdA _ SA), ?_⟩
     intro cb _ hn; replace hs := Sat.new hs hn; clear hn
     have SB := hs.drop.drop.drop.drop.drop.drop
     refine ⟨hcs_one (rdB _ SB), hcs_one (rdA _ SB), ?_⟩
     exact fin cb _ _ rfl hs
    ·intro cb _ hn; replace hs := Sat.new hs hn; clear hn
     have SB := hs.drop.drop.drop.drop.drop.drop
     refine ⟨hcs_one (rdB _ SB), hcs_one (rdA _ SB), ?_⟩
     refine number24_sp (nums 18 _ (by decide) SB) (by decide) ?_
     refine ⟨hcs_one (rdB _ SB), hcs_one (rdA _ SB), ?_⟩
     exact fin cb _ _ rfl hs
   ·intro cb _ hn; replace hs := Sat.new hs hn; clear hn
    have SB := hs.drop.drop.drop.drop.drop.drop
    refine ⟨hcs_one (rdB _ SB), hcs_one (rdA _ SB), ?_⟩
    refine number24_sp (nums 10 _ (by decide) SB) (by decide) ?_
    refine ⟨hcs_one (rdB _ SB), hcs_one (rdA _ SB), ?_⟩
    refine number24_sp (nums 18 _ (by decide) SB) (by decide) ?_
    refine ⟨hcs_one (rdB _ SB), hcs_one (rdA _ SB), ?_⟩
    exact fin cb _ _ rfl hs
  ·intro cb _ hn; replace hs := Sat.new hs hn; clear hn
   have SB := hs.drop.drop.drop.drop.drop.drop
   refine ⟨hcs_one (rdB _ SB), hcs_one (rdA _ SB), ?_⟩
   refine number24_sp (nums 2 _ (by decide) SB) (by decide) ?_
   refine ⟨hcs_one (rdB _ SB), hcs_one (rdA _ SB), ?_⟩
   refine number24_sp (nums 10 _ (by decide) SB) (by decide) ?_
   refine ⟨hcs_one (rdB _ SB), hcs_one (rdA _ SB), ?_⟩
   refine number24_sp (nums 18 _ (by decide) SB) (by decide) ?_
   refine ⟨hcs_one (rdB _ SB), hcs_one (rdA _ SB), ?_⟩
   exact fin cb _ _ rfl hs
 ·rintro ⟨cs, p2, c2⟩ h4 ⟨hcl, hgc, hal, hs⟩
  dsimp only at hcl hgc hs ⊢
  apply hJ59
  rw [ltI_eq, if_neg (by simp)]
  clear hJ59 J59
  obtain ⟨a, ha⟩ : ∃ a, a = 8 + n6 + 26 * n7 := ⟨_, rfl⟩
  rw [← ha] at hgc hal ⊢
  rw [Nat.sub_self] at hgc
  replace hgc : gCavs bs n7 (8 + n6) [] = .ok (a, cs) := hgc
  have tg2 : tgetM bs = gRest bs a cs := by rw [tg, hgc]
  unfold gRest at tg2
  have e32 : IntKind.i64.wrap ((a : Int) + 32) = ((a + 32 : Nat) : Int) := by rw [wrap_id (by omega)]; push_cast; rfl
  rw [e32, ltI_eq]
  by_cases cl : l < a + 32
  ·rw [if_pos (by rw [decide_eq_true_iff]; omega)]
   rw [if_pos (by omega)] at tg2
   exact bad wb 6 l h4 (by rw [tg2, hbl]) ⟨tok0, hs.sub (by (repeat (first | exact List.Sublist.refl _ | apply List.Sublist.cons_cons | apply List.Sublist.cons))), t35⟩
  rw [if_neg (by rw [decide_eq_true_iff]; omega)]
  rw [if_neg (by omega)] at tg2
  simp only [Int.toNat_natCast]
  rw [show (l - a).min 32 = 32 from Nat.min_eq_right (by omega)]
  have tagR := subRd (o := a) (n := 32) (m := c) (rd _ hs.drop.drop.drop.drop.drop) (by omega) (by omega)
  obtain ⟨tag, htag⟩ : ∃ tag, tag = (bs.drop a).take 32 := ⟨_, rfl⟩
  rw [← htag] at tagR tg2
  have htl : tag.length = 32 := by rw [htag]; simp; omega
  refine ⟨by omega, by omega, _, tagR, Or.inr ⟨_, rfl, Sat.can hs (i := 3) (.s (.s (.s .z))) (by simp [zeros])⟩, ?_⟩
  intro h5 e
  replace hs := Sat.wr hs (i := 3) (.s (.s (.s .z))) e
  clear e
  rw [tok_tag htl] at hs
  simp only [put_succ, put_zero] at hs
  have e32' : IntKind.i64.wrap ((a : Int) + ((32 : Nat) : Int)) = ((a + 32 : Nat) : Int) := by rw [wrap_id (by omega)]; push_cast; rfl
  rw [e32', ltI_eq]
  by_cases cr : a + 32 < l
  ·rw [if_pos (by rw [decide_eq_true_iff]; omega)]
   rw [if_pos (by omega)] at tg2
   intro nb _ hn; replace hs := Sat.new hs hn; clear hn
   exact bad nb 7 _ _ tg2 ⟨tok0, hs.sub (by (repeat (first | exact List.Sublist.refl _ | apply List.Sublist.cons_cons | apply List.Sublist.cons))), t35⟩
  rw [if_neg (by rw [decide_eq_true_iff]; omega)]
  rw [if_neg (by omega)] at tg2
  have t3 := At.s (x := slE p2 n7 c2 5 (cvsV cs)) (At.s (x := slE p1 n6 c1 1 (ints .u8 id)) (At.s (x := blk wb [.int .i64 6, .int .i64 (l : Int)]) (At.z (A := blk rb tok0 :: A) (e := blk tb (tokL key p1 n6 c1 p2 n7 c2 tag)))))
  refine ⟨_, hs.ld t3 rfl, _, _, _, hs.ld t3 rfl, _, _, _, hs.ld t3 rfl, tag, htl, tok_row hs t3, ?_⟩
  refine ⟨Sat.can hs (i := 4) (.s (.s (.s (.s .z)))) (by simp [zeros]), ?_⟩
  intro h6 e
  replace hs := Sat.wra (xs := tokL key p1 n6 c1 p2 n7 c2 tag) hs (i := 4) (.s (.s (.s (.s .z)))) e (by simp [zeros, htl])
  clear e
  simp only [put_succ, put_zero] at hs
  have t4 := At.s (x := slE p2 n7 c2 5 (cvsV cs)) (At.s (x := slE p1 n6 c1 1 (ints .u8 id)) (At.s (x := blk wb [.int .i64 6, .int .i64 (l : Int)]) (At.s (x := blk tb (tokL key p1 n6 c1 p2 n7 c2 tag)) (At.z (A := A) (e := blk rb (tokL key p1 n6 c1 p2 n7 c2 tag))))))
  refine ⟨_, hs.ld t4 rfl, _, _, _, hs.ld t4 rfl, _, _, _, hs.ld t4 rfl, tag, htl, tok_row hs t4, ?_⟩
  rw [← hn6, ← hid, ← hkey] at tg2
  have K := kT _ tg2 p1 c1 p2 n7 c2 h6 hcl
  dsimp only at K
  rw [hidl] at K
  exact K (hs.sub (by (repeat (first | exact List.Sublist.refl _ | apply List.Sublist.cons_cons | apply List.Sublist.cons)))) htl
end
end Go.Proofs.YtaglicdidpgkpaaGreatDoor
end

/- Tokens: errors, and answers that the document fixes. Own work. -/
section
set_option maxRecDepth 1000000
set_option linter.unusedVariables false
namespace Go.Proofs.YtaglicdidpgkpaaGreatDoor
open Go Go.Vc

theorem nIF (t : TypeId) (v : Value) : ¬ isNilI (.iface t v) = true := Bool.false_ne_true
theorem oM_bytes (s : List Int) : ∀ t, isBytes (oM s t)
 | 0 => by
  intro n hn
  have hn : n ∈ zeros 32 := hn
  unfold zeros at hn
  rw [List.mem_replicate] at hn
  omega
 | t + 1 => by
  intro n hn
  have hn : n ∈ (oM s t).set t (outB s t) := hn
  rcases List.mem_or_eq_of_mem_set hn with h | h
  ·exact oM_bytes s t n h
  ·rw [h]
   unfold outB
   rw [IntKind.wrap_u8]
   omega
theorem shaM_bytes (ms : List Int) : isBytes (shaM ms) := oM_bytes _ _
theorem macM_bytes (key b : List Int) : isBytes (macM key b) := shaM_bytes _
theorem awake_put (tag : List Int) : putM24 1 [105, 100] [] tag = [80, 67, 84, 75, 1, 1, 2, 0, 105, 100] ++ tag := by
 unfold putM24 headM24 cbsM
 rw [List.append_nil]; rfl
theorem awake_get {tag : List Int} (ht : tag.length = 32) : tgetM (putM24 1 [105, 100] [] tag) = .ok ⟨1, [105, 100], [], tag⟩ := by
 rw [awake_put]
 obtain ⟨B, hB⟩ : ∃ B, B = ([80, 67, 84, 75, 1, 1, 2, 0, 105, 100] : List Int) ++ tag := ⟨_, rfl⟩
 have hl : B.length = 42 := by rw [hB, List.length_append, ht]; rfl
 have st : ∀ t, t < 8 → standsM t (B.getD t 0) = true := by
  intro t h
  have : t = 0 ∨ t = 1 ∨ t = 2 ∨ t = 3 ∨ t = 4 ∨ t = 5 ∨ t = 6 ∨ t = 7 := by omega
  rw [hB]
  rcases this with rfl | rfl | rfl | rfl | rfl | rfl | rfl | rfl <;> rfl
 have gh : ∀ k, k ≤ 8 → gHead B k = none := by
  intro k
  induction k with
  | zero => intro _; rfl
  | succ k ih =>
   intro h
   have := gHead_at B (t := 8 - (k + 1)) (by omega)
   rw [show 8 - (8 - (k + 1)) = k + 1 by omega, if_neg (by omega), if_pos (st _ (by omega)), show 8 - (8 - (k + 1) + 1) = k by omega, ih (by omega)] at this
   exact this
 have b6 : B.getD 6 0 = 2 := by rw [hB]; rfl
 have b7 : B.getD 7 0 = 0 := by rw [hB]; rfl
 have b5 : B.getD 5 0 = 1 := by rw [hB]; rfl
 have e1 : (B.drop 8).take 2 = [105, 100] := by rw [hB]; rfl
 have e2 : (B.drop 10).take 32 = tag := by
  rw [hB]
  show tag.take 32 = tag
  exact List.take_of_length_le (by omega)
 rw [← hB]
 unfold tgetM
 rw [gh 8 (by omega), b6, b7]
 dsimp only
 rw [if_neg (by rw [hl]; decide)]
 show (match gCavs B 0 10 [] with | .error e => Except.error e | .ok (a, cs) => gRest B a cs) = _
 unfold gCavs
 dsimp only
 unfold gRest
 rw [if_neg (by omega), if_neg (by omega), b5, b6, e2]
 show Except.ok (TkM.mk 1 ((B.drop 8).take 2) [] tag) = _
 rw [e1]
section
variable {h0 h : H} {A : List Ent} {i j d : Nat}
theorem told24_sp {Q : Int → Int → Bool → H → Prop} {w : Nat} {e a : Int} (hg : hc h0 ⟨0, 0, none⟩ = some errTypeV) (hs : Sat h0 A h) (m : At A i (blk w [.int .i64 e, .int .i64 a])) (he : e ≠ 0) (k : ∀ h', Sat h0 A h' → Q e a true h') :
  F_portcullislaw24_told (.iface 200 (.pointer (some ⟨w, 0, none⟩))) Q h := by
 unfold F_portcullislaw24_told G_portcullislaw24_told
 try simp only [add_mk, Nat.zero_add]
 intro rb _ hn; replace hs := Sat.new hs hn; clear hn
 refine ⟨rfl, ?_⟩
 rw [if_neg (nIF _ _)]
 intro pb _ hn; replace hs := Sat.new hs hn; clear hn
 intro J hJ
 unfold F_errors_As
 refine Or.inr ⟨⟨w, 0, none⟩, pb, 0, .pointer none, rfl, rfl, hc_ext hs.ex hg (fun y => y), hs.ld (i := 0) .z rfl, ?_, ?_⟩
 ·have := (Sat.can hs (i := 0) (o := 0) (n := 1) .z (by simp)) 0 (by decide)
  rw [add_zero] at this
  exact this.2
 intro b1 _ hn; replace hs := Sat.new hs hn; clear hn
 intro b2 _ hn; replace hs := Sat.new hs hn; clear hn
 intro b3 _ hn; replace hs := Sat.new hs hn; clear hn
 intro b4 _ hn; replace hs := Sat.new hs hn; clear hn
 intro h5 e5
 replace hs := Sat.wr hs (i := 4) (.s (.s (.s (.s .z)))) e5
 clear e5
 simp only [put_succ, put_zero] at hs
 replace hs := hs.drop.drop.drop.drop
 replace hs : Sat h0 (blk pb [.pointer (some ⟨w, 0, none⟩)] :: blk rb [.int .i64 0, .int .i64 0] :: A) h5 := hs
 rw [if_neg (by decide)]
 refine ⟨_, hs.ld (i := 0) .z rfl, ?_⟩
 rw [if_neg (by simp)]
 refine ⟨_, hs.ld (i := 0) .z rfl, _, rfl, _, hs.ld m.s.s rfl, ?_⟩
 rw [if_neg (by simpa using he)]
 apply hJ
 refine ⟨_, hs.ld (i := 0) .z rfl, _, rfl, _, hs.ld m.s.s rfl, _, hs.ld (i := 0) .z rfl, _, rfl, a, ?_, ?_⟩
 ·have := hs.ld m.s.s (o := 1) rfl
  simpa using this
 refine ⟨Sat.can hs (i := 1) (.s .z) (by simp), ?_⟩
 intro h6 e6
 replace hs := Sat.wra hs (i := 1) (.s .z) e6 rfl
 clear e6
 simp only [put_succ, put_zero] at hs
 exact ⟨_, hs.ld (i := 1) (.s .z) rfl, _, hs.ld (i := 1) (.s .z) rfl, k _ hs.drop.drop⟩
end
end Go.Proofs.YtaglicdidpgkpaaGreatDoor
end

/- Tokens: the document's: caveats, numbers, whether they may be. Own work. -/
section
set_option maxRecDepth 100000
set_option linter.unusedVariables false
namespace Go.Proofs.YtaglicdidpgkpaaGreatDoor
open Go Go.Vc
section
variable {h0 h : H} {A : List Ent} {i j d : Nat}
theorem within_sp {Q : Bool → H → Prop} (n m : Int) (q : Q (decide (0 ≤ n ∧ n ≤ m)) h) : F_portcullisref24_within n m Q h := by
 unfold F_portcullisref24_within G_portcullisref24_within
 by_cases c : 0 ≤ n
 ·rw [leI_eq, if_pos (by simpa using c), leI_eq]
  simpa [c] using q
 ·rw [leI_eq, if_neg (by simpa using c)]
  simpa [c] using q
theorem only_sp {Q : Bool → H → Prop} (c : CvM) (a1 a2 a3 a4 : Bool) (hs : Sat h0 A h) (k : ∀ h', Sat h0 A h' → Q ((a1 || c.slot == 0) && ((a2 || c.frm == 0) && ((a3 || c.to == 0) && (a4 || c.set == 0)))) h') :
  F_portcullisref24_Caveat_only c.kind c.slot c.frm c.to c.set a1 a2 a3 a4 Q h := by
 unfold F_portcullisref24_Caveat_only G_portcullisref24_Caveat_only
 try simp only [add_mk, Nat.zero_add]
 intro b _ hn; replace hs := Sat.new hs hn; clear hn
 have K := k _ hs.drop
 have l1 := hs.ld (i := 0) .z (o := 1) rfl
 have l2 := hs.ld (i := 0) .z (o := 2) rfl
 have l3 := hs.ld (i := 0) .z (o := 3) rfl
 have l4 := hs.ld (i := 0) .z (o := 4) rfl
 clear k hs
 generalize h1 : (c.slot == 0) = b1 at K
 generalize h2 : (c.frm == 0) = b2 at K
 generalize h3 : (c.to == 0) = b3 at K
 generalize h4 : (c.set == 0) = b4 at K
 cases a1 <;> cases a2 <;> cases a3 <;> cases a4 <;> cases b1 <;> cases b2 <;> cases b3 <;> cases b4 <;>
  (repeat first | exact K | rw [if_pos rfl] | rw [if_neg Bool.false_ne_true] | (refine ⟨_, l1, ?_⟩; rw [h1]) | (refine ⟨_, l2, ?_⟩; rw [h2]) | (refine ⟨_, l3, ?_⟩; rw [h3]) | (refine ⟨_, l4, ?_⟩; rw [h4]))
theorem rcmay_sp {Q : Bool → H → Prop} (c : CvM) (hs : Sat h0 A h) (k : ∀ h', Sat h0 A h' → Q (decide c.may) h') : F_portcullisref24_Caveat_May c.kind c.slot c.frm c.to c.set Q h := by
 unfold F_portcullisref24_Caveat_May G_portcullisref24_Caveat_May
 try simp only [add_mk, Nat.zero_add]
 intro b _ hn; replace hs := Sat.new hs hn; clear hn
 replace hs : Sat h0 (blk b (cvV c) :: A) _ := hs
 have fin : ∀ (x : Bool) h', (x = true ↔ c.may) → Sat h0 (blk b (cvV c) :: A) h' → Q x h' := by
  intro x h' hx hs
  have := k _ hs.drop
  rwa [show decide c.may = x by rw [Bool.eq_iff_iff, decide_eq_true_iff]; exact hx.symm] at this
 clear k
 refine ⟨_, hs.ld (i := 0) .z rfl, ?_⟩
 by_cases c1 : c.kind = 1
 ·rw [if_pos (by simpa using c1)]
  refine ⟨_, hs.ld (i := 0) .z rfl, _, hs.ld (i := 0) .z rfl, _, hs.ld (i := 0) .z rfl, _, hs.ld (i := 0) .z rfl, _, hs.ld (i := 0) .z rfl, ?_⟩
  refine only_sp c _ _ _ _ hs ?_
  intro h1 hs
  have fin := fun x => fin x h1
  unfold CvM.may at fin
  generalize bits .andNot .u64 c.set 16382 = z at *
  split
  ·rename_i g
   simp at g
   refine ⟨_, hs.ld (i := 0) .z rfl, ?_⟩
   refine within_sp _ _ (fin _ ?_ hs)
   rw [decide_eq_true_iff]; omega
  ·rename_i g
   simp at g
   exact fin _ (by simp; omega) hs
 rw [if_neg (by simpa using c1)]
 by_cases c2 : c.kind = 2
 ·rw [if_pos (by simpa using c2)]
  refine ⟨_, hs.ld (i := 0) .z rfl, _, hs.ld (i := 0) .z rfl, _, hs.ld (i := 0) .z rfl, _, hs.ld (i := 0) .z rfl, _, hs.ld (i := 0) .z rfl, ?_⟩
  refine only_sp c _ _ _ _ hs ?_
  intro h1 hs
  have fin := fun x => fin x h1
  unfold CvM.may at fin
  generalize bits .andNot .u64 c.set 16382 = z at *
  split
  ·rename_i g
   simp at g
   refine ⟨_, hs.ld (i := 0) .z rfl, ?_⟩
   refine within_sp _ _ ?_
   split
   ·rename_i g2
    simp at g2
    refine ⟨_, hs.ld (i := 0) .z rfl, ?_⟩
    refine within_sp _ _ ?_
    split
    ·rename_i g3
     simp at g3
     refine ⟨_, hs.ld (i := 0) .z rfl, _, hs.ld (i := 0) .z rfl, ?_⟩
     rw [leI_eq]
     exact fin _ (by rw [decide_eq_true_iff]; omega) hs
    ·rename_i g3
     simp at g3
     exact fin _ (by simp; omega) hs
   ·rename_i g2
    simp at g2
    exact fin _ (by simp; omega) hs
  ·rename_i g
   simp at g
   exact fin _ (by simp; omega) hs
 rw [if_neg (by simpa using c2)]
 by_cases c3 : c.kind = 3
 ·rw [if_pos (by simpa using c3)]
  refine ⟨_, hs.ld (i := 0) .z rfl, _, hs.ld (i := 0) .z rfl, _, hs.ld (i := 0) .z rfl, _, hs.ld (i := 0) .z rfl, _, hs.ld (i := 0) .z rfl, ?_⟩
  refine only_sp c _ _ _ _ hs ?_
  intro h1 hs
  have fin := fun x => fin x h1
  unfold CvM.may at fin
  split
  ·rename_i g
   simp at g
   refine ⟨_, hs.ld (i := 0) .z rfl, ?_⟩
   split
   ·rename_i g2
    simp at g2
    refine ⟨_, hs.ld (i := 0) .z rfl, ?_⟩
    refine fin _ ?_ hs
    generalize bits .andNot .u64 c.set 16382 = z at *
    rw [beq_iff_eq]
    omega
   ·rename_i g2
    simp at g2
    generalize bits .andNot .u64 c.set 16382 = z at *
    exact fin _ (by simp; omega) hs
  ·rename_i g
   simp at g
   generalize bits .andNot .u64 c.set 16382 = z at *
   exact fin _ (by simp; omega) hs
 rw [if_neg (by simpa using c3)]
 by_cases c4 : c.kind = 4
 ·rw [if_pos (by simpa using c4)]
  refine ⟨_, hs.ld (i := 0) .z rfl, _, hs.ld (i := 0) .z rfl, _, hs.ld (i := 0) .z rfl, _, hs.ld (i := 0) .z rfl, _, hs.ld (i := 0) .z rfl, ?_⟩
  refine only_sp c _ _ _ _ hs ?_
  intro h1 hs
  have fin := fun x => fin x h1
  unfold CvM.may at fin
  generalize bits .andNot .u64 c.set 16382 = z at *
  split
  ·rename_i g
   simp at g
   refine ⟨_, hs.ld (i := 0) .z rfl, ?_⟩
   refine within_sp _ _ ?_
   split
   ·rename_i g2
    simp at g2
    refine ⟨_, hs.ld (i := 0) .z rfl, ?_⟩
    first
     | (refine within_sp _ _ (fin _ ?_ hs); rw [decide_eq_true_iff]; omega)
     | (intro v hv; subst hv; refine within_sp _ _ (fin _ ?_ hs); rw [decide_eq_true_iff]; omega)
   ·rename_i g2
    simp at g2
    exact fin _ (by simp; omega) hs
  ·rename_i g
   simp at g
   exact fin _ (by simp; omega) hs
 rw [if_neg (by simpa using c4)]
 by_cases c5 : c.kind = 5
 ·rw [if_pos (by simpa using c5)]
  refine ⟨_, hs.ld (i := 0) .z rfl, _, hs.ld (i := 0) .z rfl, _, hs.ld (i := 0) .z rfl, _, hs.ld (i := 0) .z rfl, _, hs.ld (i := 0) .z rfl, ?_⟩
  refine only_sp c _ _ _ _ hs ?_
  intro h1 hs
  have fin := fun x => fin x h1
  unfold CvM.may at fin
  generalize bits .andNot .u64 c.set 16382 = z at *
  split
  ·rename_i g
   simp at g
   refine ⟨_, hs.ld (i := 0) .z rfl, ?_⟩
   refine within_sp _ _ ?_
   split
   ·rename_i g2
    simp at g2
    refine ⟨_, hs.ld (i := 0) .z rfl, ?_⟩
    first
     | (refine within_sp _ _ (fin _ ?_ hs); rw [decide_eq_true_iff]; omega)
     | (intro v hv; subst hv; refine within_sp _ _ (fin _ ?_ hs); rw [decide_eq_true_iff]; omega)
   ·rename_i g2
    simp at g2
    exact fin _ (by simp; omega) hs
  ·rename_i g
   simp at g
   exact fin _ (by simp; omega) hs
 rw [if_neg (by simpa using c5)]
 refine fin _ _ ?_ hs
 unfold CvM.may
 generalize bits .andNot .u64 c.set 16382 = z at *
 simp; omega
theorem reight24_sp {Q : Option Addr → Nat → Nat → H → Prop} {p : Option Addr} {l c : Nat} {bs : List Int} (n : Int) (hs : Sat h0 A h) (m : At A i (slE p l c 1 (ints .u8 bs))) (hb : l + 8 ≤ 2 ^ 40)
  (k : ∀ p' c' h', Sat h0 (put A i (slE p' (l + 8) c' 1 (ints .u8 (bs ++ eightM n 8)))) h' → Q p' (l + 8) c' h') : F_portcullisref24_eight p l c n Q h := by
 unfold F_portcullisref24_eight G_portcullisref24_eight
 intro J hJ
 refine loopS 8 (fun t (s : Option Addr × Nat) => [.dv (.one (.slice s.1 (l + t) s.2)), si t]) (fun t s h => Sat h0 (put A i (slE s.1 (l + t) s.2 1 (ints .u8 (bs ++ eightM n t)))) h) ?_ ?_ 0 (p, c) _ (by omega) (by
  have : put A i (slE p (l + 0) c 1 (ints .u8 (bs ++ eightM n 0))) = A := by simpa [eightM] using m.put_self
  rw [this]; exact hs)
 ·rintro t ⟨p1, c1⟩ h1 ht hs hk
  dsimp only at hs ⊢
  apply hJ
  rw [ltI_eq, if_pos (by simp; omega)]
  have e8 : IntKind.i64.wrap (8 * (t : Int)) = ((8 * t : Nat) : Int) := by rw [wrap_id (by omega)]; push_cast; rfl
  rw [e8, Int.toNat_natCast]
  refine ⟨by omega, ?_⟩
  intro b _ hn; replace hs := Sat.new hs hn; clear hn
  refine ⟨_, hs.bv (i := 0) (l := 1) .z rfl (ints_one .u8 [IntKind.u8.wrap (n.fdiv (2 ^ min (8 * t) 64))]), ?_⟩
  refine Sat.app hs (i := i + 1) (vs := ints .u8 [IntKind.u8.wrap (n.fdiv (2 ^ min (8 * t) 64))]) (.s (m.put _)) rfl rfl (ints_one _ _) (by omega) ?_
  intro p' c' h2 hs
  simp only [put_succ, put_put] at hs
  rw [wrap_succ (by omega)]
  have := hk (p', c') h2
  dsimp only at this
  refine this ?_
  have e : eightM n (t + 1) = eightM n t ++ [IntKind.u8.wrap (n.fdiv (2 ^ min (8 * t) 64))] := by unfold eightM; rw [List.range_succ, List.map_append]; rfl
  rw [e, ← List.append_assoc]
  have e2 : ints .u8 (bs ++ eightM n t ++ [IntKind.u8.wrap (n.fdiv (2 ^ min (8 * t) 64))]) = ints .u8 (bs ++ eightM n t) ++ ints .u8 [IntKind.u8.wrap (n.fdiv (2 ^ min (8 * t) 64))] := by unfold ints; rw [List.map_append]
  rw [e2]
  exact hs.drop
 ·rintro ⟨p1, c1⟩ h1 hs
  apply hJ
  rw [ltI_eq, if_neg (by decide)]
  exact k _ _ _ hs
theorem rcbytes_sp {Q : Option Addr → Nat → Nat → H → Prop} (c : CvM) (hs : Sat h0 A h) (k : ∀ p' c' h', Sat h0 (slE p' 26 c' 1 (ints .u8 (cbM c)) :: A) h' → Q p' 26 c' h') : F_portcullisref24_Caveat_Bytes c.kind c.slot c.frm c.to c.set Q h := by
 unfold F_portcullisref24_Caveat_Bytes G_portcullisref24_Caveat_Bytes
 try simp only [add_mk, Nat.zero_add]
 intro b _ hn; replace hs := Sat.new hs hn; clear hn
 refine ⟨_, hs.ld (i := 0) .z rfl, _, hs.ld (i := 0) .z rfl, ?_⟩
 intro b2 _ hn; replace hs := Sat.new hs hn; clear hn
 refine ⟨_, hs.ld (i := 1) (.s .z) rfl, ?_⟩
 replace hs := hs.as_sl (i := 0) (l := 2) (sz := 1) .z rfl (ints_one .u8 [IntKind.u8.wrap c.kind, IntKind.u8.wrap c.slot])
 rw [put_zero] at hs
 refine reight24_sp (bs := [IntKind.u8.wrap c.kind, IntKind.u8.wrap c.slot]) _ hs (i := 0) .z (by decide) ?_
 intro p1 c1 h1 hs
 rw [put_zero] at hs
 refine ⟨_, hs.ld (i := 1) (.s .z) rfl, ?_⟩
 refine reight24_sp _ hs (i := 0) .z (by decide) ?_
 intro p2 c2 h2 hs
 rw [put_zero] at hs
 refine ⟨_, hs.ld (i := 1) (.s .z) rfl, ?_⟩
 refine reight24_sp _ hs (i := 0) .z (by decide) ?_
 intro p3 c3 h3 hs
 rw [put_zero] at hs
 refine k p3 c3 h3 ?_
 exact hs.sub (by (repeat (first | exact List.Sublist.refl _ | apply List.Sublist.cons_cons | apply List.Sublist.cons)))
theorem rfew_sp {Q : Bool → H → Prop} {key : Int} {tag : List Int} {ip cp : Option Addr} {il ic cl cc : Nat} (hs : Sat h0 A h) (k : ∀ h', Sat h0 A h' → Q (decide (cl ≤ 65536)) h') : F_portcullisref24_Few key ip il ic cp cl cc tag Q h := by
 unfold F_portcullisref24_Few G_portcullisref24_Few
 try simp only [add_mk, Nat.zero_add, List.append_nil]
 intro b _ hn; replace hs := Sat.new hs hn; clear hn
 replace hs : Sat h0 (blk b (tokL key ip il ic cp cl cc tag) :: A) _ := hs
 refine ⟨_, _, _, hs.ld (i := 0) .z rfl, ?_⟩
 have := k _ hs.drop
 rw [leI_eq]
 rwa [show decide ((cl : Int) ≤ 65536) = decide (cl ≤ 65536) by rw [Bool.eq_iff_iff, decide_eq_true_iff, decide_eq_true_iff]; omega]
end
end Go.Proofs.YtaglicdidpgkpaaGreatDoor
end

/- Tokens: the document's Put; whether two are the same; copies. Own work. -/
section
set_option maxRecDepth 100000
set_option linter.unusedVariables false
namespace Go.Proofs.YtaglicdidpgkpaaGreatDoor
open Go Go.Vc
theorem cv1 (c : CvM) : ∀ v, v ∈ cvV c → v.oneCell' = true := by
 intro v hv
 simp only [List.mem_cons, List.not_mem_nil, or_false] at hv
 rcases hv with rfl | rfl | rfl | rfl | rfl <;> rfl
theorem cvsV_snoc (cs : List CvM) (c : CvM) : cvsV (cs ++ [c]) = cvsV cs ++ cvV c := by rw [cvsV_app]; simp [cvsV]
theorem take_snoc {α : Type} (l : List α) {t : Nat} (h : t < l.length) : l.take (t + 1) = l.take t ++ [l[t]] := by rw [List.take_succ, List.getElem?_eq_getElem h]; rfl
section
variable {h0 h : H} {A : List Ent} {i j d : Nat}
end
end Go.Proofs.YtaglicdidpgkpaaGreatDoor
end

/- Tokens: as the program has them, and back. Own work. -/
section
set_option maxRecDepth 100000
set_option linter.unusedVariables false
namespace Go.Proofs.YtaglicdidpgkpaaGreatDoor
open Go Go.Vc
theorem flat_len (n : Nat) (X : List Value) : (List.replicate n X).flatten.length = n * X.length := by
 induction n with
 | zero => simp
 | succ n ih => rw [List.replicate_succ, List.flatten_cons, List.length_append, ih, Nat.succ_mul]; omega
section
variable {h0 h : H} {A : List Ent} {i j d : Nat}
theorem as_sl0 (hs : Sat h0 A h) {i b c sz : Nat} {vs : List Value} (m : At A i (blk b vs)) (hl : vs.length = c * sz) : Sat h0 (put A i (slE (some ⟨b, 0, none⟩) 0 c sz [])) h := by
 refine hs.as m fun f hp => ?_
 obtain ⟨k, hf⟩ := blk_P.1 hp
 refine slE_P.2 ⟨[b], ⟨by simp, by omega, by intro v hv; simp at hv, Or.inr ⟨b, vs, rfl, rfl, by simpa using k, by rw [hl]; simp⟩⟩, fun x => ?_⟩
 rw [hf]; simp
theorem caveat_sp {Q : Int → Int → Int → Int → Int → H → Prop} (c : CvM) (hs : Sat h0 A h) (k : ∀ h', Sat h0 A h' → Q c.kind c.slot c.frm c.to c.set h') : F_portcullislaw24_caveat c.kind c.slot c.frm c.to c.set Q h := by
 unfold F_portcullislaw24_caveat G_portcullislaw24_caveat
 try simp only [add_mk, Nat.zero_add]
 intro b _ hn; replace hs := Sat.new hs hn; clear hn
 intro b2 _ hn; replace hs := Sat.new hs hn; clear hn
 refine ⟨_, hs.ld (i := 1) (.s .z) rfl, _, hs.ld (i := 1) (.s .z) rfl, _, hs.ld (i := 1) (.s .z) rfl, _, hs.ld (i := 1) (.s .z) rfl, _, hs.ld (i := 1) (.s .z) rfl, ?_⟩
 refine ⟨Sat.can hs (i := 0) .z (by simp), ?_⟩
 intro h2 e
 replace hs := Sat.wra hs (i := 0) .z e rfl
 clear e
 simp only [put_zero] at hs
 refine ⟨_, hs.ld (i := 0) .z rfl, _, hs.ld (i := 0) .z rfl, _, hs.ld (i := 0) .z rfl, _, hs.ld (i := 0) .z rfl, _, hs.ld (i := 0) .z rfl, ?_⟩
 exact k _ hs.drop.drop
theorem lawof_sp {Q : Int → Option Addr → Nat → Nat → Option Addr → Nat → Nat → List Int → H → Prop} {key : Int} {id tag : List Int} {cs : List CvM} {ip cp : Option Addr} {il ic cl cc : Nat} (hs : Sat h0 A h) (ht : tag.length = 32) (hi : il + 4096 ≤ 2 ^ 47) (hl : cl ≤ 65536)
  (ri : ∀ h', Sat h0 A h' → hsv h' ip 1 il (ints .u8 id)) (rc : ∀ h', Sat h0 A h' → hsv h' cp 5 cl (cvsV cs))
  (k : ∀ p1 c1 p2 c2 h', il + 3 ≤ c1 → Sat h0 (slE p2 cl c2 5 (cvsV cs) :: slE p1 (il + 3) c1 1 (ints .u8 (id ++ [161, 162, 163])) :: A) h' → Q key (subAddr p1 0 c1 1) il c1 p2 cl c2 tag h') :
  F_portcullislaw24_of key ip il ic cp cl cc tag Q h := by
 unfold F_portcullislaw24_of G_portcullislaw24_of
 try simp only [add_mk, Nat.zero_add, List.append_nil]
 have hcl : cs.length = cl := by have := (rc _ hs).1; rw [cvsV_len] at this; omega
 have hil : id.length = il := by have := (ri _ hs).1; simpa using this
 intro tb _ hn; replace hs := Sat.new hs hn; clear hn
 intro ob _ hn; replace hs := Sat.new hs hn; clear hn
 replace hs : Sat h0 (blk ob tok0 :: blk tb (tokL key ip il ic cp cl cc tag) :: A) _ := hs
 refine ⟨_, _, _, hs.ld (i := 1) (.s .z) rfl, _, _, _, hs.ld (i := 1) (.s .z) rfl, ?_⟩
 have e3 : IntKind.i64.wrap ((il : Int) + 3) = ((il + 3 : Nat) : Int) := by rw [wrap_id (by omega)]; push_cast; rfl
 rw [e3]
 refine ⟨by decide, by omega, by omega, by omega, ?_⟩
 simp only [Int.toNat_natCast]
 intro ib _ hn; replace hs := Sat.new hs hn; clear hn
 refine ⟨hcs_one (hs.ld (i := 2) (.s (.s .z)) rfl), _, ri _ hs.drop.drop.drop, ?_⟩
 replace hs := as_sl0 hs (i := 0) (c := il + 3) (sz := 1) .z (by rw [flat_len]; simp)
 rw [put_zero] at hs
 refine Sat.app hs (i := 0) (vs := ints .u8 id) .z (by simp [hil]) rfl (ints_one _ _) (by omega) ?_
 intro p1 c1 h2 hs
 simp only [put_zero, Nat.zero_add, List.nil_append] at hs ⊢
 refine ⟨_, _, _, hs.ld (i := 2) (.s (.s .z)) rfl, ?_⟩
 have e2 : IntKind.i64.wrap ((cl : Int) + 2) = ((cl + 2 : Nat) : Int) := by rw [wrap_id (by omega)]; push_cast; rfl
 rw [e2]
 refine ⟨by decide, by omega, by omega, by omega, ?_⟩
 simp only [Int.toNat_natCast]
 intro cb _ hn; replace hs := Sat.new hs hn; clear hn
 replace hs := as_sl0 hs (i := 0) (c := cl + 2) (sz := 5) .z (by rw [flat_len]; rfl)
 rw [put_zero] at hs
 refine ⟨_, _, _, hs.ld (i := 3) (.s (.s (.s .z))) rfl, ?_⟩
 intro J40 hJ40
 refine loopS cl (fun t (s : Option Addr × Nat) => [.dv (.one (.slice s.1 t s.2)), si t]) (fun t s h => Sat h0 (slE s.1 t s.2 5 (cvsV (cs.take t)) :: slE p1 il c1 1 (ints .u8 id) :: blk ob tok0 :: blk tb (tokL key ip il ic cp cl cc tag) :: A) h) ?_ ?_ 0 (some ⟨cb, 0, none⟩, cl + 2) _ (by omega) (by simpa [cvsV] using hs)
 ·rintro t ⟨p3, c3⟩ h5 htl hs hk
  dsimp only at hs hk ⊢
  apply hJ40
  rw [ltI_eq, if_pos (by simp; omega)]
  obtain ⟨q, hl2, hq, g0, g1, g2, g3, g4⟩ := cv_rd (rc _ hs.drop.drop.drop.drop) (i := t) htl
  refine ⟨q, hq, by omega, by omega, ?_⟩
  simp only [Int.toNat_natCast]
  refine ⟨_, g0, _, g1, _, g2, _, g3, _, g4, ?_⟩
  intro b3 _ hn; replace hs := Sat.new hs hn; clear hn
  refine ⟨Sat.can hs (i := 0) .z (by simp), ?_⟩
  intro h6 e
  replace hs := Sat.wra hs (i := 0) .z e rfl
  clear e
  simp only [put_zero] at hs
  refine ⟨_, hs.ld (i := 0) .z rfl, _, hs.ld (i := 0) .z rfl, _, hs.ld (i := 0) .z rfl, _, hs.ld (i := 0) .z rfl, _, hs.ld (i := 0) .z rfl, ?_⟩
  refine caveat_sp cs[t] hs ?_
  intro h7 hs
  intro b4 _ hn; replace hs := Sat.new hs hn; clear hn
  refine ⟨_, hs.bv (i := 0) (l := 1) (sz := 5) .z rfl (cv1 cs[t]), ?_⟩
  refine Sat.app hs (i := 2) (vs := cvV cs[t]) (.s (.s .z)) rfl rfl (cv1 _) (by omega) ?_
  intro p5 c5 h8 hs
  simp only [put_succ, put_zero] at hs
  rw [wrap_succ (by omega)]
  refine hk (p5, c5) h8 ?_
  dsimp only
  rw [take_snoc _ hl2, cvsV_snoc]
  exact hs.drop.drop
 ·rintro ⟨p3, c3⟩ h5 hs
  dsimp only at hs ⊢
  apply hJ40
  clear hJ40
  rw [ltI_eq, if_neg (by simp)]
  rw [List.take_of_length_le (by omega)] at hs
  have t3 := At.s (x := slE p3 cl c3 5 (cvsV cs)) (At.s (x := slE p1 il c1 1 (ints .u8 id)) (At.s (x := blk ob tok0) (At.z (A := A) (e := blk tb (tokL key ip il ic cp cl cc tag)))))
  refine ⟨_, hs.ld t3 rfl, _, _, _, hs.ld t3 rfl, tag, ht, tok_row hs t3, ?_⟩
  intro mb _ hn; replace hs := Sat.new hs hn; clear hn
  have t4 := At.s (x := blk mb [Value.int .u8 161, .int .u8 162, .int .u8 163]) t3
  refine ⟨tok_row hs t4, hcs_one (hs.ld t4 rfl), hcs_one (hs.ld t4 rfl), _, hs.bv (i := 0) (l := 3) (sz := 1) .z rfl (ints_one .u8 [161, 162, 163]), ?_⟩
  refine Sat.app hs (i := 2) (vs := ints .u8 [161, 162, 163]) (.s (.s .z)) rfl rfl (ints_one _ _) (by omega) ?_
  intro p6 c6 h6 hs
  simp only [put_succ, put_zero] at hs
  rw [← ints_app] at hs
  have hc := capS hs (i := 2) (.s (.s .z))
  have t5 := At.s (x := blk mb [Value.int .u8 161, .int .u8 162, .int .u8 163]) (At.s (x := slE p3 cl c3 5 (cvsV cs)) (At.s (x := slE p6 (il + 3) c6 1 (ints .u8 (id ++ [161, 162, 163]))) (At.s (x := blk ob tok0) (At.z (A := A) (e := blk tb (tokL key ip il ic cp cl cc tag))))))
  refine ⟨tok_row hs t5, hcs_one (hs.ld t5 rfl), hcs_one (hs.ld t5 rfl), by omega, by omega, ?_⟩
  refine ⟨Sat.can hs (i := 3) (.s (.s (.s .z))) (by simp [zeros]), ?_⟩
  intro h7 e
  replace hs := Sat.wra (xs := tokL key (subAddr p6 0 c6 1) il c6 p3 cl c3 tag) hs (i := 3) (.s (.s (.s .z))) (by simpa using e) (by simp [zeros, ht])
  clear e
  simp only [put_succ, put_zero] at hs
  have t6 := At.s (x := blk mb [Value.int .u8 161, .int .u8 162, .int .u8 163]) (At.s (x := slE p3 cl c3 5 (cvsV cs)) (At.s (x := slE p6 (il + 3) c6 1 (ints .u8 (id ++ [161, 162, 163]))) (At.z (A := blk tb (tokL key ip il ic cp cl cc tag) :: A) (e := blk ob (tokL key (subAddr p6 0 c6 1) il c6 p3 cl c3 tag)))))
  refine ⟨_, hs.ld t6 rfl, _, _, _, hs.ld t6 rfl, _, _, _, hs.ld t6 rfl, tag, ht, tok_row hs t6, ?_⟩
  exact k p6 c6 p3 c3 h7 hc (hs.sub (by (repeat (first | exact List.Sublist.refl _ | apply List.Sublist.cons_cons | apply List.Sublist.cons))))
theorem ofId {p : Option Addr} {il c1 : Nat} {id m : List Int} (hil : id.length = il) (hc : il + 3 ≤ c1) (R : hsv h p 1 (il + 3) (ints .u8 (id ++ m))) : hsv h (subAddr p 0 c1 1) 1 il (ints .u8 id) := by
 have := subRd (o := 0) (n := il) (m := c1) R (by omega) (by omega)
 rw [List.drop_zero, List.take_append_of_le_length (by omega), List.take_of_length_le (by omega)] at this
 exact this
end
end Go.Proofs.YtaglicdidpgkpaaGreatDoor
end

/- Tokens: two tags part (reckoned). Own work. -/
section
set_option maxRecDepth 1000000
namespace Go.Proofs.YtaglicdidpgkpaaGreatDoor
open Go Go.Vc
theorem awake_tags : (macM (macM [107] (msgM [105, 100])) (cbM ⟨1, 1, 0, 0, 0⟩) == macM [107] (msgM [105, 100])) = false := by decide +kernel
end Go.Proofs.YtaglicdidpgkpaaGreatDoor
end

/- Tokens: awake; TokenNames. Own work. -/
section
set_option maxRecDepth 1000000
set_option linter.unusedVariables false
namespace Go.Proofs.YtaglicdidpgkpaaGreatDoor
open Go Go.Vc
theorem awake_may : TokMay 1 [105, 100] [] := by decide
theorem get_nil : tgetM [] = .error (6, 0) := rfl
section
variable {h0 h : H} {A : List Ent} {i j d : Nat}
theorem hsv_nil (h : H) (p : Option Addr) (sz : Nat) : hsv h p sz 0 [] := ⟨by simp, by intro v hv; simp at hv, Or.inl rfl⟩
theorem awake24_sp {Q : Bool → H → Prop} (hg : hc h0 ⟨0, 0, none⟩ = some errTypeV) (hs : Sat h0 A h) (k : ∀ h', Sat h0 A h' → Q true h') : F_portcullislaw24_awake Q h := by
 unfold F_portcullislaw24_awake G_portcullislaw24_awake
 try simp only [add_mk, Nat.zero_add, List.append_nil]
 intro kb _ hn; replace hs := Sat.new hs hn; clear hn
 refine ⟨_, rfl, ?_⟩
 intro h1 e
 replace hs := hs.mark (i := 0) .z e
 clear e
 intro sb _ hn; replace hs := Sat.new hs hn; clear hn
 refine keys1_sp (key := 1) (bs := [107]) hs (by decide) (by decide) (fun h' hs' => hs'.ld (i := 0) .z rfl) (fun h' hs' => by rw [add_mk]; exact hs'.ld (i := 0) .z rfl) (fun h' hs' => hs'.bv (i := 1) (l := 1) (.s .z) rfl (ints_one .u8 [107])) ?_
 intro r m kp kc h2 hkc hs
 intro J hJ
 rw [if_neg (by decide), if_neg (by simp)]
 apply hJ
 clear hJ J
 intro ib _ hn; replace hs := Sat.new hs hn; clear hn
 refine ⟨_, rfl, ?_⟩
 intro h3 e
 replace hs := hs.mark (i := 0) .z e
 clear e
 refine ⟨_, rfl, ?_⟩
 refine issue_sp (key := 1) (secret := [107]) (id := [105, 100]) hs (i := 2) (j := 3) (.s (.s .z)) (.s (.s (.s .z))) rfl hkc (by decide) (by decide) (fun h' hs' => hs'.sv (i := 1) (.s .z)) (fun h' hs' => hs'.bv (i := 0) (l := 2) .z rfl (ints_one .u8 [105, 100])) ?_
 intro p1 c1 h4 hc1 hs
 obtain ⟨tag, htag⟩ : ∃ tag, tag = macM [107] (msgM [105, 100]) := ⟨_, rfl⟩
 have htl : tag.length = 32 := by rw [htag]; exact macM_len _ _
 have htb : isBytes tag := by rw [htag]; exact macM_bytes _ _
 have hne := awake_tags
 rw [← htag] at hne ⊢
 clear htag
 intro tb _ hn; replace hs := Sat.new hs hn; clear hn
 refine ⟨Sat.can hs (i := 0) .z (by simp [zeros]), ?_⟩
 intro h5 e
 replace hs := Sat.wra (xs := tokL 1 p1 2 c1 none 0 0 tag) hs (i := 0) .z e (by simp [zeros, htl])
 clear e
 simp only [put_zero] at hs
 refine ⟨_, hs.ld (i := 0) .z rfl, _, _, _, hs.ld (i := 0) .z rfl, _, _, _, hs.ld (i := 0) .z rfl, tag, htl, tok_row hs (i := 0) .z, ?_⟩
 refine narrow_sp (⟨1, 1, 0, 0, 0⟩ : CvM) (id := [105, 100]) (cs := []) hs htl (by decide) (by decide) (fun h' hs' => hs'.sv (i := 1) (.s .z)) (fun h' hs' => hsv_nil _ _ _) (fun y => absurd y (by decide)) (fun _ y => absurd (by decide) y) ?_
 intro _ _ p2 c2 p3 c3 h6 hs
 obtain ⟨tag2, htag2⟩ : ∃ tag2, tag2 = macM tag (cbM ⟨1, 1, 0, 0, 0⟩) := ⟨_, rfl⟩
 have htl2 : tag2.length = 32 := by rw [htag2]; exact macM_len _ _
 rw [← htag2] at hne ⊢
 clear htag2
 intro ub _ hn; replace hs := Sat.new hs hn; clear hn
 refine ⟨Sat.can hs (i := 0) .z (by simp [zeros]), ?_⟩
 intro h7 e
 replace hs := Sat.wra (xs := tokL 1 p2 2 c2 p3 1 c3 tag2) hs (i := 0) .z e (by simp [zeros, htl2])
 clear e
 simp only [put_zero] at hs
 refine ⟨_, hs.ld (i := 3) (.s (.s (.s .z))) rfl, _, _, _, hs.ld (i := 3) (.s (.s (.s .z))) rfl, _, _, _, hs.ld (i := 3) (.s (.s (.s .z))) rfl, tag, htl, tok_row hs (i := 3) (.s (.s (.s .z))), ?_⟩
 refine narrow_sp (⟨0, 0, 0, 0, 0⟩ : CvM) (id := [105, 100]) (cs := []) hs htl (by decide) (by decide) (fun h' hs' => hs'.sv (i := 4) (.s (.s (.s (.s .z))))) (fun h' hs' => hsv_nil _ _ _) (fun y => absurd y (by decide)) ?_ (fun _ y => absurd y (by decide))
 intro _ _ h8 hs
 intro nb _ hn; replace hs := Sat.new hs hn; clear hn
 refine ⟨Sat.can hs (i := 0) .z (by simp [zeros]), ?_⟩
 intro h9 e
 replace hs := Sat.wra (xs := tok0) hs (i := 0) .z e (by simp [zeros])
 clear e
 simp only [put_zero] at hs
 refine ⟨_, hs.ld (i := 4) (.s (.s (.s (.s .z)))) rfl, _, _, _, hs.ld (i := 4) (.s (.s (.s (.s .z)))) rfl, _, _, _, hs.ld (i := 4) (.s (.s (.s (.s .z)))) rfl, tag, htl, tok_row hs (i := 4) (.s (.s (.s (.s .z)))), ?_⟩
 refine put24_sp (id := [105, 100]) (cs := []) hs htl (by decide) (fun h' hs' => hs'.sv (i := 5) (.s (.s (.s (.s (.s .z)))))) (fun h' hs' => hsv_nil _ _ _) (fun y => absurd awake_may y) ?_
 intro _ p4 c4 h10 hc4 hs
 have hpl : (putM24 1 [105, 100] [] tag).length = 42 := by rw [awake_put, List.length_append, htl]; rfl
 have hpb : isBytes (putM24 1 [105, 100] [] tag) := by
  rw [awake_put]
  intro n hn
  rcases List.mem_append.1 hn with hn | hn
  ·simp only [List.mem_cons, List.not_mem_nil, or_false] at hn
   omega
  ·exact htb n hn
 have hget := awake_get htl
 generalize putM24 1 [105, 100] [] tag = B at *
 rw [hpl] at hs hc4 ⊢
 refine get_sp (bs := B) hs hpb hc4 (by decide) (fun h' hs' => hs'.sv (i := 0) .z) (fun e a he => by rw [hget] at he; cases he) ?_
 intro t ht p5 c5 p6 l6 c6 h11 hl6 hs htt
 rw [hget] at ht
 injection ht with ht
 subst ht
 dsimp only at hs htt hl6 ⊢
 intro xb _ hn; replace hs := Sat.new hs hn; clear hn
 refine ⟨Sat.can hs (i := 0) .z (by simp [zeros]), ?_⟩
 intro h12 e
 replace hs := Sat.wra (xs := tokL 1 p5 2 c5 p6 l6 c6 tag) hs (i := 0) .z e (by simp [zeros, htl])
 clear e
 simp only [put_zero] at hs
 refine get_sp (bs := []) hs (by intro n hn; simp at hn) (by decide) (by decide) (fun h' hs' => hsv_nil _ _ _) ?_ (fun t ht => by rw [get_nil] at ht; cases ht)
 intro e a hea wb h13 hs
 rw [get_nil] at hea
 injection hea with hea
 injection hea with he ha
 subst he ha
 intro yb _ hn; replace hs := Sat.new hs hn; clear hn
 refine ⟨Sat.can hs (i := 0) .z (by simp [zeros]), ?_⟩
 intro h14 e
 replace hs := Sat.wra (xs := tok0) hs (i := 0) .z e (by simp [zeros])
 clear e
 simp only [put_zero] at hs
 refine told24_sp hg hs (i := 1) (.s .z) (by decide) ?_
 intro h15 hs
 intro zb _ hn; replace hs := Sat.new hs hn; clear hn
 refine ⟨Sat.can hs (i := 0) .z (by simp), ?_⟩
 intro h16 e
 replace hs := Sat.wra hs (i := 0) .z e rfl
 clear e
 simp only [put_zero] at hs
 rw [if_pos (by decide), if_pos (by decide)]
 have tU := At.s (x := blk zb [.int .i64 6, .int .i64 0]) (At.s (x := blk yb tok0) (At.s (x := blk wb [.int .i64 6, .int .i64 0]) (At.s (x := blk xb (tokL 1 p5 2 c5 p6 l6 c6 tag)) (At.s (x := slE p6 l6 c6 5 (cvsV [])) (At.s (x := slE p5 2 c5 1 (ints .u8 [105, 100])) (At.s (x := slE p4 42 c4 1 (ints .u8 B)) (At.s (x := blk nb tok0) (At.z (e := blk ub (tokL 1 p2 2 c2 p3 1 c3 tag2)) (A := slE p3 1 c3 5 (cvsV [⟨1, 1, 0, 0, 0⟩]) :: slE p2 2 c2 1 (ints .u8 [105, 100]) :: blk tb (tokL 1 p1 2 c1 none 0 0 tag) :: slE p1 2 c1 1 (ints .u8 [105, 100]) :: blk ib (ints .u8 [105, 100]) :: slE kp 1 kc 1 (ints .u8 [107]) :: blk r [.map (some m)] :: mapE m [(.int .i64 1, .one (.slice kp 1 kc))] :: blk sb [.int .i64 1, .slice (some ⟨kb, 0, none⟩) 1 1] :: blk kb (ints .u8 [107]) :: A)))))))))
 refine ⟨_, _, _, hs.ld tU rfl, ?_⟩
 rw [if_pos (by decide)]
 have tT : At _ 11 (blk tb (tokL 1 p1 2 c1 none 0 0 tag)) := At.s (x := blk zb [.int .i64 6, .int .i64 0]) (At.s (x := blk yb tok0) (At.s (x := blk wb [.int .i64 6, .int .i64 0]) (At.s (x := blk xb (tokL 1 p5 2 c5 p6 l6 c6 tag)) (At.s (x := slE p6 l6 c6 5 (cvsV [])) (At.s (x := slE p5 2 c5 1 (ints .u8 [105, 100])) (At.s (x := slE p4 42 c4 1 (ints .u8 B)) (At.s (x := blk nb tok0) (At.s (x := blk ub (tokL 1 p2 2 c2 p3 1 c3 tag2)) (At.s (x := slE p3 1 c3 5 (cvsV [⟨1, 1, 0, 0, 0⟩])) (At.s (x := slE p2 2 c2 1 (ints .u8 [105, 100])) (At.z (A := slE p1 2 c1 1 (ints .u8 [105, 100]) :: blk ib (ints .u8 [105, 100]) :: slE kp 1 kc 1 (ints .u8 [107]) :: blk r [.map (some m)] :: mapE m [(.int .i64 1, .one (.slice kp 1 kc))] :: blk sb [.int .i64 1, .slice (some ⟨kb, 0, none⟩) 1 1] :: blk kb (ints .u8 [107]) :: A))))))))))))
 refine ⟨tag2, htl2, tok_row hs tU, tag, htl, tok_row hs tT, ?_⟩
 rw [if_pos (show (!tag2 == tag) = true by rw [hne]; rfl), if_pos (by decide), if_pos (by decide), if_pos (by decide)]
 refine ⟨rfl, ?_⟩
 rw [if_pos (by decide)]
 refine ⟨_, hs.ld (i := 3) (.s (.s (.s .z))) rfl, ?_⟩
 rw [if_pos (by decide)]
 refine ⟨_, _, _, hs.ld (i := 3) (.s (.s (.s .z))) rfl, [105, 100], hs.sv (i := 5) (.s (.s (.s (.s (.s .z))))), ?_⟩
 rw [if_pos (by decide +kernel), if_pos rfl]
 refine ⟨_, hs.ld (i := 0) .z rfl, _, hs.ld (i := 0) .z rfl, ?_⟩
 exact k _ (hs.sub (by (repeat (first | exact List.Sublist.refl _ | apply List.Sublist.cons_cons | apply List.Sublist.cons))))
end
end Go.Proofs.YtaglicdidpgkpaaGreatDoor
end

/- Tokens, plain: there and back. Own work. -/
section
set_option maxRecDepth 100000
set_option linter.unusedVariables false
namespace Go.Proofs.YtaglicdidpgkpaaGreatDoor
open Go Go.Vc

def CvM.typed (c : CvM) : Prop := has .i64 c.kind ∧ has .i64 c.slot ∧ has .i64 c.frm ∧ has .i64 c.to ∧ has .u64 c.set
end Go.Proofs.YtaglicdidpgkpaaGreatDoor
end

/- What arguments of the statements are: tokens, bytes. Own work. -/
section
set_option maxRecDepth 100000
set_option linter.unusedVariables false
namespace Go.Proofs.YtaglicdidpgkpaaGreatDoor
open Go Go.Vc Go.ChangeShapes Go.WideShapes Go.ChangeAt Go.RowKit

theorem xByte24 : xsh PP 8 5 = some [.int .u8] := by kernel_rfl
theorem xCav24 : xsh PP 8 40 = some [.int .i64, .int .i64, .int .i64, .int .i64, .int .u64] := by kernel_rfl
theorem xTok24 : xsh PP 8 37 = some [.int .i64, .slc 5, .slc 40, .row .u8 32] := by kernel_rfl
section
variable {D : Type} {enc : TypeId × Value → D} {W : World}
theorem bytes24_of {p : Option Addr} {l c : Nat} (h : Sli enc PP W 5 p l c) : ∃ ns : List Int, hsv W.heap p 1 l (ints .u8 ns) ∧ isBytes ns ∧ l ≤ c ∧ l + 4096 ≤ 2 ^ 47 := by
 have hb : Tryz.prog.bytesOf 5 = 1 := by kernel_rfl
 have hc : Tryz.prog.cellsOf 5 = 1 := by kernel_rfl
 obtain ⟨ess, h1, h2, h3, _⟩ := h.els xByte24
 have hlc := h.1
 have hr := h.2.1
 rw [hb] at hr
 rw [hc] at h3
 have key : ∀ ess : List (List Value), (∀ es, es ∈ ess → es.length = Tryz.prog.cellsOf 5 ∧ XM enc PP W [XSh.int .u8] es) → ∃ ns : List Int, ess.flatten = ints .u8 ns ∧ isBytes ns := by
  intro ess
  induction ess with
  | nil => intro _; exact ⟨[], rfl, by intro n hn; simp at hn⟩
  | cons x r ih =>
   intro h
   obtain ⟨ns, e, hn⟩ := ih fun es hes => h es (by simp [hes])
   obtain ⟨n, rest, rfl, hh, hr⟩ := (h x (by simp)).2
   simp only [XM] at hr
   subst hr
   refine ⟨n :: ns, by simp [e], ?_⟩
   intro m hm
   rcases List.mem_cons.1 hm with rfl | hm
   ·exact has_u8 hh
   ·exact hn m hm
 obtain ⟨ns, e, hn⟩ := key ess h2
 rw [e] at h3
 refine ⟨ns, h3, hn, hlc, ?_⟩
 unfold reachBytes at hr
 omega
theorem cavs_of {p : Option Addr} {l c : Nat} (h : Sli enc PP W 40 p l c) : ∃ cs : List CvM, hsv W.heap p 5 l (cvsV cs) ∧ (∀ c, c ∈ cs → c.typed) ∧ l ≤ c ∧ l * 40 + 4096 ≤ 2 ^ 47 := by
 have hb : Tryz.prog.bytesOf 40 = 40 := by kernel_rfl
 have hc : Tryz.prog.cellsOf 40 = 5 := by kernel_rfl
 obtain ⟨ess, h1, h2, h3, _⟩ := h.els xCav24
 have hlc := h.1
 have hr := h.2.1
 rw [hb] at hr
 rw [hc] at h3
 have key : ∀ ess : List (List Value), (∀ es, es ∈ ess → es.length = Tryz.prog.cellsOf 40 ∧ XM enc PP W [XSh.int .i64, .int .i64, .int .i64, .int .i64, .int .u64] es) → ∃ cs : List CvM, ess.flatten = cvsV cs ∧ ∀ c, c ∈ cs → c.typed := by
  intro ess
  induction ess with
  | nil => intro _; exact ⟨[], rfl, by intro n hn; simp at hn⟩
  | cons x r ih =>
   intro h
   obtain ⟨cs, e, hn⟩ := ih fun es hes => h es (by simp [hes])
   obtain ⟨a, _, rfl, ha, b, _, rfl, hb, c, _, rfl, hc, d, _, rfl, hd, f, _, rfl, hf, hr⟩ := (h x (by simp)).2
   simp only [XM] at hr
   subst hr
   refine ⟨⟨a, b, c, d, f⟩ :: cs, by simp [e, cvsV], ?_⟩
   intro m hm
   rcases List.mem_cons.1 hm with rfl | hm
   ·exact ⟨ha, hb, hc, hd, hf⟩
   ·exact hn m hm
 obtain ⟨cs, e, hn⟩ := key ess h2
 rw [e] at h3
 refine ⟨cs, h3, hn, hlc, ?_⟩
 unfold reachBytes at hr
 omega
structure TokIn (h : H) (key : Int) (id tag : List Int) (cs : List CvM) (ip : Option Addr) (il : Nat) (cp : Option Addr) (cl : Nat) : Prop where
 key : has .i64 key
 ri : hsv h ip 1 il (ints .u8 id)
 rb : isBytes id
 ii : il + 4096 ≤ 2 ^ 47
 rc : hsv h cp 5 cl (cvsV cs)
 ct : ∀ c, c ∈ cs → c.typed
 cc : cl * 40 + 4096 ≤ 2 ^ 47
 tl : tag.length = 32
 tb : isBytes tag
theorem tok24_of {v : Value} {base : Nat} (h : Rdt enc PP W 37 v.cells.toList) (ho : Value.okWide PP W .any base 37 v) :
  ∃ key id tag cs ip il ic cp cl cc, v = .agg (tokL key ip il ic cp cl cc tag).toArray ∧ TokIn W.heap key id tag cs ip il cp cl := by
 have e := okw_agg (by kernel_rfl) ho
 obtain ⟨key, r1, e1, hk, ip, il, ic, r2, rfl, s2, cp, cl, cc, r3, rfl, s3, tag, r4, rfl, tl, th, hr⟩ := Rdt.xm 8 _ _ _ xTok24 h
 simp only [XM] at hr
 subst hr
 obtain ⟨id, i1, i2, _, i4⟩ := bytes24_of s2
 obtain ⟨cs, c1, c2, _, c4⟩ := cavs_of s3
 refine ⟨key, id, tag, cs, ip, il, ic, cp, cl, cc, ?_, hk, i1, i2, i4, c1, c2, c4, tl, fun x hx => has_u8 (th x hx)⟩
 rw [e]
 congr 1
 rw [← Array.toArray_toList (xs := v.cells), e1, List.append_nil]
theorem ok_tok {key : Int} {tag : List Int} {ip cp : Option Addr} {il ic cl cc : Nat} (ht : tag.length = 32) : (DV.agg [.c (.int .i64 key), .c (.slice ip il ic), .c (.slice cp cl cc), .row .u8 32 tag]).ok := by
 intro y hy
 simp only [List.mem_cons, List.not_mem_nil, or_false] at hy
 rcases hy with rfl | rfl | rfl | rfl
 ·rfl
 ·rfl
 ·rfl
 ·exact ht
end
end Go.Proofs.YtaglicdidpgkpaaGreatDoor
end

/- SHA-256 as the document has it: words, a piece. Own work. -/
section
set_option maxRecDepth 100000
set_option linter.unusedVariables false
namespace Go.Proofs.YtaglicdidpgkpaaGreatDoor
open Go Go.Vc

def isBy (bs : List Int) : Prop := ∀ n, n ∈ bs → 0 ≤ n ∧ n < 256
theorem isBy_get {bs : List Int} (hb : isBy bs) (x : Nat) : 0 ≤ bs.getD x 0 ∧ bs.getD x 0 < 256 := by
 rw [List.getD_eq_getElem?_getD]
 cases e : bs[x]? with
 | none => exact ⟨by decide, by decide⟩
 | some v => exact hb v (List.mem_iff_getElem?.2 ⟨x, e⟩)
theorem or_comm32 (a b : Int) : bits .or .u32 a b = bits .or .u32 b a := by
 have e : ∀ x y : Int, bits .or .u32 x y = IntKind.u32.wrap ((BitVec.ofInt 32 x ||| BitVec.ofInt 32 y).toNat : Int) := fun _ _ => rfl
 rw [e, e, BitVec.or_comm]
theorem wrapU32 (n : Int) : IntKind.u32.wrap n = n % 4294967296 := by simp [IntKind.wrap, IntKind.signed, IntKind.bits]
theorem or_nat32 {x y : Nat} (hx : x < 2 ^ 32) (hy : y < 2 ^ 32) : bits .or .u32 (x : Int) (y : Int) = ((x ||| y : Nat) : Int) := by
 have : bits .or .u32 (x : Int) (y : Int) = IntKind.u32.wrap ((BitVec.ofInt 32 (x : Int) ||| BitVec.ofInt 32 (y : Int)).toNat : Int) := rfl
 rw [this, BitVec.ofInt_natCast, BitVec.ofInt_natCast, BitVec.toNat_or, BitVec.toNat_ofNat, BitVec.toNat_ofNat, Nat.mod_eq_of_lt hx, Nat.mod_eq_of_lt hy, wrapU32]
 have h3 : x ||| y < 2 ^ 32 := Nat.or_lt_two_pow hx hy
 omega
theorem or_hi {a b k : Nat} (hb : b < 2 ^ k) (h : 2 ^ k * a + b < 2 ^ 32) : bits .or .u32 ((2 ^ k * a : Nat) : Int) (b : Int) = ((2 ^ k * a + b : Nat) : Int) := by
 rw [or_nat32 (by omega) (by omega), ← Nat.two_pow_add_eq_or_of_lt hb]
theorem word4 {a b c d : Int} (ha : 0 ≤ a ∧ a < 256) (hb : 0 ≤ b ∧ b < 256) (hc : 0 ≤ c ∧ c < 256) (hd : 0 ≤ d ∧ d < 256) :
  bits .or .u32 (bits .or .u32 (bits .or .u32 (IntKind.u32.wrap (IntKind.u32.wrap a * 2 ^ 24)) (IntKind.u32.wrap (IntKind.u32.wrap b * 2 ^ 16))) (IntKind.u32.wrap (IntKind.u32.wrap c * 2 ^ 8))) (IntKind.u32.wrap d) = accM [a, b, c, d] 4 := by
 obtain ⟨a, rfl⟩ := Int.eq_ofNat_of_zero_le ha.1
 obtain ⟨b, rfl⟩ := Int.eq_ofNat_of_zero_le hb.1
 obtain ⟨c, rfl⟩ := Int.eq_ofNat_of_zero_le hc.1
 obtain ⟨d, rfl⟩ := Int.eq_ofNat_of_zero_le hd.1
 have wa : IntKind.u32.wrap (a : Int) = (a : Int) := by rw [wrapU32]; omega
 have wb : IntKind.u32.wrap (b : Int) = (b : Int) := by rw [wrapU32]; omega
 have wc : IntKind.u32.wrap (c : Int) = (c : Int) := by rw [wrapU32]; omega
 have wd : IntKind.u32.wrap (d : Int) = (d : Int) := by rw [wrapU32]; omega
 have x24 : IntKind.u32.wrap ((a : Int) * 2 ^ 24) = ((2 ^ 24 * a : Nat) : Int) := by rw [wrapU32]; omega
 have x16 : IntKind.u32.wrap ((b : Int) * 2 ^ 16) = ((2 ^ 16 * b : Nat) : Int) := by rw [wrapU32]; omega
 have x8 : IntKind.u32.wrap ((c : Int) * 2 ^ 8) = ((2 ^ 8 * c : Nat) : Int) := by rw [wrapU32]; omega
 rw [wa, wb, wc, wd, x24, x16, x8]
 rw [or_hi (by omega) (by omega)]
 have e1 : (2 ^ 24 * a + 2 ^ 16 * b : Nat) = 2 ^ 16 * (2 ^ 8 * a + b) := by omega
 rw [e1, or_hi (by omega) (by omega)]
 have e2 : (2 ^ 16 * (2 ^ 8 * a + b) + 2 ^ 8 * c : Nat) = 2 ^ 8 * (2 ^ 16 * a + 2 ^ 8 * b + c) := by omega
 rw [e2, or_hi (by omega) (by omega)]
 have s0 : accM [(a : Int), b, c, d] 1 = ((2 ^ 0 * 0 + a : Nat) : Int) := by
  show bits .or .u32 (IntKind.u32.wrap (0 * 2 ^ 8)) (IntKind.u32.wrap (a : Int)) = _
  rw [wa]
  exact or_hi (k := 8) (a := 0) (b := a) (by omega) (by omega)
 have s1 : accM [(a : Int), b, c, d] 2 = ((2 ^ 8 * a + b : Nat) : Int) := by
  show bits .or .u32 (IntKind.u32.wrap (accM [(a : Int), b, c, d] 1 * 2 ^ 8)) (IntKind.u32.wrap (b : Int)) = _
  rw [s0, wb, show IntKind.u32.wrap (((2 ^ 0 * 0 + a : Nat) : Int) * 2 ^ 8) = ((2 ^ 8 * a : Nat) : Int) by rw [wrapU32]; omega]
  exact or_hi (by omega) (by omega)
 have s2 : accM [(a : Int), b, c, d] 3 = ((2 ^ 8 * (2 ^ 8 * a + b) + c : Nat) : Int) := by
  show bits .or .u32 (IntKind.u32.wrap (accM [(a : Int), b, c, d] 2 * 2 ^ 8)) (IntKind.u32.wrap (c : Int)) = _
  rw [s1, wc, show IntKind.u32.wrap (((2 ^ 8 * a + b : Nat) : Int) * 2 ^ 8) = ((2 ^ 8 * (2 ^ 8 * a + b) : Nat) : Int) by rw [wrapU32]; omega]
  exact or_hi (by omega) (by omega)
 have s3 : accM [(a : Int), b, c, d] 4 = ((2 ^ 8 * (2 ^ 8 * (2 ^ 8 * a + b) + c) + d : Nat) : Int) := by
  show bits .or .u32 (IntKind.u32.wrap (accM [(a : Int), b, c, d] 3 * 2 ^ 8)) (IntKind.u32.wrap (d : Int)) = _
  rw [s2, wd, show IntKind.u32.wrap (((2 ^ 8 * (2 ^ 8 * a + b) + c : Nat) : Int) * 2 ^ 8) = ((2 ^ 8 * (2 ^ 8 * (2 ^ 8 * a + b) + c) : Nat) : Int) by rw [wrapU32]; omega]
  exact or_hi (by omega) (by omega)
 rw [s3]
 congr 1
 omega
theorem take4 {bs : List Int} {o : Nat} (h : o + 4 ≤ bs.length) : (bs.drop o).take 4 = [bs.getD o 0, bs.getD (o + 1) 0, bs.getD (o + 2) 0, bs.getD (o + 3) 0] := by
 apply List.ext_getElem (by simp; omega)
 intro i h1 h2
 simp only [List.length_cons, List.length_nil, Nat.zero_add] at h2
 rw [List.getElem_take, List.getElem_drop]
 have g : ∀ x (hx : x < bs.length), bs.getD x 0 = bs[x] := fun x hx => by rw [List.getD_eq_getElem?_getD, List.getElem?_eq_getElem hx]; rfl
 have : i = 0 ∨ i = 1 ∨ i = 2 ∨ i = 3 := by omega
 rcases this with rfl | rfl | rfl | rfl
 ·exact (g o (by omega)).symm
 ·exact (g (o + 1) (by omega)).symm
 ·exact (g (o + 2) (by omega)).symm
 ·exact (g (o + 3) (by omega)).symm
section
variable {h0 h : H} {A : List Ent} {i d : Nat}
theorem turned_sp {Q : Int → H → Prop} (x : Int) (m : Nat) {mi : Int} (e : mi = (m : Int)) (h1 : 1 ≤ m) (h2 : m < 32) (q : Q (rotM x m) h) : F_portcullisref02_turned x mi Q h := by
 subst e
 unfold F_portcullisref02_turned G_portcullisref02_turned
 have e : IntKind.i64.wrap (32 - (m : Int)) = ((32 - m : Nat) : Int) := by rw [wrap_id (by omega)]; omega
 rw [e]
 refine ⟨by omega, by omega, ?_⟩
 rw [Int.toNat_natCast, Int.toNat_natCast, Nat.min_eq_left (by omega), Nat.min_eq_left (by omega), or_comm32]
 exact q
theorem words_sp {Q : List Int → H → Prop} {bs : List Int} {p : Option Addr} {l c : Nat} (hs : Sat h0 A h) (hb : isBy bs) (hl : 64 ≤ l) (rd : ∀ h', Sat h0 A h' → hsv h' p 1 l (ints .u8 bs)) (k : ∀ h', Sat h0 A h' → Q (wM bs 64) h') : F_portcullisref02_words p l c Q h := by
 unfold F_portcullisref02_words G_portcullisref02_words
 try simp only [add_mk, Nat.zero_add, List.append_nil]
 have hbl : bs.length = l := by have := (rd _ hs).1; simpa using this
 intro rb _ hn; replace hs := Sat.new hs hn; clear hn
 intro wn _ hn; replace hs := Sat.new hs hn; clear hn
 refine ⟨Sat.can hs (i := 0) .z (by simp [zeros]), ?_⟩
 intro h2 e
 replace hs := Sat.wra hs (i := 0) .z e rfl
 clear e
 simp only [put_zero] at hs
 obtain ⟨q, hq, _⟩ := hsvI (rd _ hs.drop.drop) (x := 0) (by omega)
 subst hq
 intro J14 hJ14
 refine loop_up 16 (fun t h => Sat h0 (blk wn (ints .u32 (wM bs t)) :: blk rb (ints .u32 (zeros 64)) :: A) h) ?_ ?_ 0 _ (by omega) hs
 ·intro t h1 ht hs hk
  apply hJ14
  rw [ltI_eq, if_pos (by simp; omega)]
  have e0 : IntKind.i64.wrap (4 * (t : Int)) = ((4 * t : Nat) : Int) := by rw [wrap_id (by omega)]; push_cast; rfl
  have e1 : IntKind.i64.wrap (((4 * t : Nat) : Int) + 1) = ((4 * t + 1 : Nat) : Int) := by rw [wrap_id (by omega)]; push_cast; rfl
  have e2 : IntKind.i64.wrap (((4 * t : Nat) : Int) + 2) = ((4 * t + 2 : Nat) : Int) := by rw [wrap_id (by omega)]; push_cast; rfl
  have e3 : IntKind.i64.wrap (((4 * t : Nat) : Int) + 3) = ((4 * t + 3 : Nat) : Int) := by rw [wrap_id (by omega)]; push_cast; rfl
  rw [e0, e1, e2, e3]
  simp only [Int.toNat_natCast, Nat.mul_one]
  have g : ∀ x, x < l → hc h1 (q.add x) = some (.int .u8 (bs.getD x 0)) := by
   intro x hx
   obtain ⟨q', hq', g⟩ := hsvI (rd _ hs.drop.drop) (x := x) hx
   injection hq' with hq'
   subst hq'
   exact g
  refine ⟨q, rfl, by omega, by omega, _, g _ (by omega), by decide, q, rfl, by omega, by omega, _, g _ (by omega), by decide, q, rfl, by omega, by omega, _, g _ (by omega), by decide, q, rfl, by omega, by omega, _, g _ (by omega), by omega, by omega, ?_⟩
  have hlen := wM_len bs t
  refine ⟨Sat.can hs (i := 0) .z (by simp [hlen]; omega), ?_⟩
  intro h3 e
  replace hs := Sat.wr hs (i := 0) .z e
  clear e
  rw [intsP] at hs
  simp only [put_zero] at hs
  rw [wrap_succ (by omega)]
  refine hk _ ?_
  show Sat h0 (blk wn (ints .u32 ((wM bs t).set t _)) :: blk rb (ints .u32 (zeros 64)) :: A) h3
  rw [if_pos ht, take4 (by omega), ← word4 (isBy_get hb _) (isBy_get hb _) (isBy_get hb _) (isBy_get hb _)]
  exact hs
 ·intro h1 hs
  apply hJ14
  rw [ltI_eq, if_neg (by decide)]
  clear hJ14 J14
  intro J27 hJ27
  refine loop_up 64 (fun t h => 16 ≤ t ∧ Sat h0 (blk wn (ints .u32 (wM bs t)) :: blk rb (ints .u32 (zeros 64)) :: A) h) ?_ ?_ 16 _ (by omega) ⟨by omega, hs⟩
  ·rintro t h2 ht ⟨ht2, hs⟩ hk
   apply hJ27
   rw [ltI_eq, if_pos (by simp; omega)]
   have hlen := wM_len bs t
   have e15 : IntKind.i64.wrap ((t : Int) - 15) = ((t - 15 : Nat) : Int) := by rw [wrap_id (by omega)]; omega
   have e2 : IntKind.i64.wrap ((t : Int) - 2) = ((t - 2 : Nat) : Int) := by rw [wrap_id (by omega)]; omega
   have e16 : IntKind.i64.wrap ((t : Int) - 16) = ((t - 16 : Nat) : Int) := by rw [wrap_id (by omega)]; omega
   have e7 : IntKind.i64.wrap ((t : Int) - 7) = ((t - 7 : Nat) : Int) := by rw [wrap_id (by omega)]; omega
   rw [e15, e2, e16, e7]
   simp only [Int.toNat_natCast, Nat.mul_one]
   have g := fun (x : Nat) (hx : x < 64) => hs.ld (i := 0) (b := wn) .z (intsG (k := .u32) (l := wM bs t) (i := x) (by omega))
   refine ⟨by omega, by omega, _, g _ (by omega), by omega, by omega, _, g _ (by omega), ?_⟩
   refine turned_sp _ 7 rfl (by decide) (by decide) ?_
   refine turned_sp _ 18 rfl (by decide) (by decide) ?_
   refine ⟨by decide, ?_⟩
   refine turned_sp _ 17 rfl (by decide) (by decide) ?_
   refine turned_sp _ 19 rfl (by decide) (by decide) ?_
   refine ⟨by decide, by omega, by omega, _, g _ (by omega), by omega, by omega, _, g _ (by omega), by omega, by omega, ?_⟩
   refine ⟨Sat.can hs (i := 0) .z (by simp [hlen]; omega), ?_⟩
   intro h3 e
   replace hs := Sat.wr hs (i := 0) .z e
   clear e
   rw [intsP] at hs
   simp only [put_zero] at hs
   rw [wrap_succ (by omega)]
   refine hk _ ⟨by omega, ?_⟩
   show Sat h0 (blk wn (ints .u32 ((wM bs t).set t _)) :: blk rb (ints .u32 (zeros 64)) :: A) h3
   rw [if_neg (by omega)]
   exact hs
  ·rintro h2 ⟨_, hs⟩
   apply hJ27
   rw [ltI_eq, if_neg (by decide)]
   refine ⟨_, wM_len bs 64, hs.row0 (i := 0) .z, ?_⟩
   refine ⟨Sat.can hs (i := 1) (.s .z) (by simp [zeros]), ?_⟩
   intro h3 e
   replace hs := Sat.wra hs (i := 1) (.s .z) e (by simp [zeros, wM_len])
   clear e
   simp only [put_succ, put_zero] at hs
   exact ⟨_, wM_len bs 64, hs.row0 (i := 1) (.s .z), k _ hs.drop.drop⟩
theorem piece_sp {Q : List Int → H → Prop} {s bs : List Int} {p : Option Addr} {l c : Nat} (hs : Sat h0 A h) (l1 : s.length = 8) (hb : isBy bs) (hl : 64 ≤ l) (rd : ∀ h', Sat h0 A h' → hsv h' p 1 l (ints .u8 bs)) (k : ∀ h', Sat h0 A h' → Q (pieceM s bs) h') : F_portcullisref02_piece s p l c kM Q h := by
 unfold F_portcullisref02_piece G_portcullisref02_piece
 try simp only [add_mk, Nat.zero_add, List.append_nil]
 intro sb _ hn; replace hs := Sat.new hs hn; clear hn
 intro kb _ hn; replace hs := Sat.new hs hn; clear hn
 intro rb _ hn; replace hs := Sat.new hs hn; clear hn
 refine words_sp hs hb hl (fun h' hs' => rd _ hs'.drop.drop.drop) ?_
 intro h1 hs
 obtain ⟨w, hw⟩ : ∃ w, w = wM bs 64 := ⟨_, rfl⟩
 have hwl : w.length = 64 := by rw [hw]; exact wM_len _ _
 rw [← hw]
 intro wn _ hn; replace hs := Sat.new hs hn; clear hn
 refine ⟨Sat.can hs (i := 0) .z (by simp [zeros]), ?_⟩
 intro h2 e
 replace hs := Sat.wra hs (i := 0) .z e (by simp [zeros, hwl])
 clear e
 simp only [put_zero] at hs
 refine ⟨s, l1, hs.row0 (i := 3) (.s (.s (.s .z))), ?_⟩
 intro sn _ hn; replace hs := Sat.new hs hn; clear hn
 refine ⟨Sat.can hs (i := 0) .z (by simp [zeros]), ?_⟩
 intro h3 e
 replace hs := Sat.wra hs (i := 0) .z e (by simp [zeros, l1])
 clear e
 simp only [put_zero] at hs
 intro J31 hJ31
 refine loop_up 64 (fun t h => Sat h0 (blk sn (ints .u32 (rM w s t)) :: blk wn (ints .u32 w) :: blk rb (ints .u32 (zeros 8)) :: blk kb (ints .u32 kM) :: blk sb (ints .u32 s) :: A) h) ?_ ?_ 0 _ (by omega) hs
 ·intro t h4 ht hs hk
  apply hJ31
  rw [ltI_eq, if_pos (by simp; omega)]
  obtain ⟨a, b, c, dd, e, f, g, hh, hr⟩ := len8 (rM_len w s l1 t)
  rw [hr] at hs
  simp only [Int.toNat_natCast, Nat.mul_one]
  have gk : hc h4 ⟨kb, t, none⟩ = some (.int .u32 (kM.getD t 0)) := hs.ld (i := 3) (.s (.s (.s .z))) (intsG (by rw [kM_len]; omega))
  have gw : hc h4 ⟨wn, t, none⟩ = some (.int .u32 (w.getD t 0)) := hs.ld (i := 1) (.s .z) (intsG (by omega))
  have g0 : hc h4 ⟨sn, 0, none⟩ = some (.int .u32 a) := hs.ld (i := 0) .z rfl
  have g1 : hc h4 ⟨sn, 1, none⟩ = some (.int .u32 b) := hs.ld (i := 0) .z rfl
  have g2 : hc h4 ⟨sn, 2, none⟩ = some (.int .u32 c) := hs.ld (i := 0) .z rfl
  have g3 : hc h4 ⟨sn, 3, none⟩ = some (.int .u32 dd) := hs.ld (i := 0) .z rfl
  have g4 : hc h4 ⟨sn, 4, none⟩ = some (.int .u32 e) := hs.ld (i := 0) .z rfl
  have g5 : hc h4 ⟨sn, 5, none⟩ = some (.int .u32 f) := hs.ld (i := 0) .z rfl
  have g6 : hc h4 ⟨sn, 6, none⟩ = some (.int .u32 g) := hs.ld (i := 0) .z rfl
  have g7 : hc h4 ⟨sn, 7, none⟩ = some (.int .u32 hh) := hs.ld (i := 0) .z rfl
  refine ⟨by decide, by decide, _, g0, by decide, by decide, _, g4, by decide, by decide, _, g7, by decide, by decide, _, g5, by decide, by decide, _, g6, by omega, by omega, _, gk, by omega, by omega, _, gw, ?_⟩
  refine turned_sp _ 6 rfl (by decide) (by decide) ?_
  refine ⟨hcs_one gw, hcs_one gk, hcs_one g6, hcs_one g5, hcs_one g7, ?_⟩
  refine turned_sp _ 11 rfl (by decide) (by decide) ?_
  refine ⟨hcs_one gw, hcs_one gk, hcs_one g6, hcs_one g5, hcs_one g7, ?_⟩
  refine turned_sp _ 25 rfl (by decide) (by decide) ?_
  refine ⟨hcs_one gw, hcs_one gk, hcs_one g6, hcs_one g5, hcs_one g7, ?_⟩
  refine ⟨by decide, by decide, _, g1, by decide, by decide, _, g2, by decide, by decide, _, g1, by decide, by decide, _, g2, ?_⟩
  refine turned_sp _ 2 rfl (by decide) (by decide) ?_
  refine ⟨hcs_one g2, hcs_one g1, hcs_one g2, hcs_one g1, ?_⟩
  refine turned_sp _ 13 rfl (by decide) (by decide) ?_
  refine ⟨hcs_one g2, hcs_one g1, hcs_one g2, hcs_one g1, ?_⟩
  refine turned_sp _ 22 rfl (by decide) (by decide) ?_
  refine ⟨hcs_one g2, hcs_one g1, hcs_one g2, hcs_one g1, ?_⟩
  refine ⟨by decide, by decide, _, g0, by decide, by decide, _, g1, by decide, by decide, _, g2, by decide, by decide, _, g3, by decide, by decide, _, g4, by decide, by decide, _, g5, by decide, by decide, _, g6, ?_⟩
  refine ⟨Sat.can hs (i := 0) .z (by simp), ?_⟩
  intro h5 e5
  replace hs := Sat.wra hs (i := 0) .z e5 (by simp)
  clear e5
  simp only [put_zero] at hs
  rw [wrap_succ (by omega)]
  refine hk _ ?_
  show Sat h0 (blk sn (ints .u32 (shStepM (rM w s t) (kM.getD t 0) (w.getD t 0))) :: blk wn (ints .u32 w) :: blk rb (ints .u32 (zeros 8)) :: blk kb (ints .u32 kM) :: blk sb (ints .u32 s) :: A) h5
  rw [hr]
  exact hs
 ·intro h4 hs
  apply hJ31
  rw [ltI_eq, if_neg (by decide)]
  clear hJ31 J31
  obtain ⟨r, hr⟩ : ∃ r, r = rM w s 64 := ⟨_, rfl⟩
  have hrl : r.length = 8 := by rw [hr]; exact rM_len _ _ l1 _
  rw [← hr] at hs
  intro J66 hJ66
  refine loop_up 8 (fun t h => Sat h0 (blk sn (ints .u32 r) :: blk wn (ints .u32 w) :: blk rb (ints .u32 (zeros 8)) :: blk kb (ints .u32 kM) :: blk sb (ints .u32 (aM s r t)) :: A) h) ?_ ?_ 0 _ (by omega) hs
  ·intro t h5 ht hs hk
   apply hJ66
   rw [ltI_eq, if_pos (by simp; omega)]
   have hal := aM_len s r l1 t
   simp only [Int.toNat_natCast, Nat.mul_one]
   refine ⟨by omega, by omega, _, hs.ld (i := 4) (.s (.s (.s (.s .z)))) (intsG (by omega)), by omega, by omega, _, hs.ld (i := 0) .z (intsG (by omega)), by omega, by omega, ?_⟩
   refine ⟨Sat.can hs (i := 4) (.s (.s (.s (.s .z)))) (by simp [hal]; omega), ?_⟩
   intro h6 e
   replace hs := Sat.wr hs (i := 4) (.s (.s (.s (.s .z)))) e
   clear e
   rw [intsP] at hs
   simp only [put_succ, put_zero] at hs
   rw [wrap_succ (by omega)]
   exact hk _ hs
  ·intro h5 hs
   apply hJ66
   rw [ltI_eq, if_neg (by decide)]
   have hpl : (aM s r 8).length = 8 := aM_len s r l1 8
   refine ⟨_, hpl, hs.row0 (i := 4) (.s (.s (.s (.s .z)))), ?_⟩
   refine ⟨Sat.can hs (i := 2) (.s (.s .z)) (by simp [zeros]), ?_⟩
   intro h6 e
   replace hs := Sat.wra hs (i := 2) (.s (.s .z)) e (by simp [zeros, hpl])
   clear e
   simp only [put_succ, put_zero] at hs
   refine ⟨_, hpl, hs.row0 (i := 2) (.s (.s .z)), ?_⟩
   have := k _ hs.drop.drop.drop.drop.drop
   unfold pieceM at this
   rw [← hw, ← hr] at this
   exact this
end
end Go.Proofs.YtaglicdidpgkpaaGreatDoor
end

/- SHA-256 as the document has it: what comes behind the bytes; the hash. Own work. -/
section
set_option maxRecDepth 100000
set_option linter.unusedVariables false
namespace Go.Proofs.YtaglicdidpgkpaaGreatDoor
open Go Go.Vc

theorem ext_getD24 {a b : List Int} (hl : a.length = b.length) (h : ∀ x, x < a.length → a.getD x 0 = b.getD x 0) : a = b := by
 apply List.ext_getElem hl
 intro i h1 h2
 have := h i h1
 rwa [List.getD_eq_getElem?_getD, List.getD_eq_getElem?_getD, List.getElem?_eq_getElem h1, List.getElem?_eq_getElem h2] at this
theorem zerosD (n x : Nat) : (zeros n).getD x 0 = 0 := by
 unfold zeros
 rw [List.getD_eq_getElem?_getD, List.getElem?_replicate]; split <;> rfl
theorem endM_get (n : Nat) : ∀ t x, t ≤ 8 → x < 73 → (endM n t).getD x 0 = if x = 0 then 128 else if 1 + zM n ≤ x ∧ x < 1 + zM n + t then lenB n (x - 1 - zM n) else 0
 | 0, x, _, hx => by
  show ((zeros 73).set 0 128).getD x 0 = _
  rw [setD]
  by_cases c : x = 0
  ·subst c; rfl
  ·rw [if_neg (by omega), if_neg c, if_neg (by omega), zerosD]
 | t + 1, x, ht, hx => by
  have hz := zM_lt n
  have ih := endM_get n t x (by omega) hx
  show ((endM n t).set (1 + zM n + t) (lenB n t)).getD x 0 = _
  rw [setD, endM_len]
  by_cases c : 1 + zM n + t = x
  ·subst c
   rw [if_pos ⟨rfl, hx⟩, if_neg (by omega), if_pos (by omega), show 1 + zM n + t - 1 - zM n = t by omega]
  ·rw [if_neg (fun y => c y.1), ih]
   by_cases c0 : x = 0
   ·rw [if_pos c0, if_pos c0]
   ·rw [if_neg c0, if_neg c0]
    by_cases c1 : 1 + zM n ≤ x ∧ x < 1 + zM n + t
    ·rw [if_pos c1, if_pos (by omega)]
    ·rw [if_neg c1, if_neg (by omega)]
def lensM (n : Nat) : List Int := (List.range 8).map (lenB n)
theorem lensM_len (n : Nat) : (lensM n).length = 8 := by simp [lensM]
theorem lensM_get (n : Nat) {t : Nat} (ht : t < 8) : (lensM n).getD t 0 = lenB n t := by
 unfold lensM
 rw [List.getD_eq_getElem?_getD, List.getElem?_map, List.getElem?_range ht]; rfl
theorem appD (a b : List Int) (x : Nat) : (a ++ b).getD x 0 = if x < a.length then a.getD x 0 else b.getD (x - a.length) 0 := by
 rw [List.getD_eq_getElem?_getD]
 split
 ·rename_i c; rw [List.getElem?_append_left c, List.getD_eq_getElem?_getD]
 ·rename_i c; rw [List.getElem?_append_right (by omega), List.getD_eq_getElem?_getD]
theorem tailM_eq (n : Nat) : tailM n = [128] ++ zeros (zM n) ++ lensM n := by
 have hz := zM_lt n
 have hzl : (zeros (zM n)).length = zM n := by simp [zeros]
 refine ext_getD24 ?_ ?_
 ·rw [tailM_len, List.length_append, List.length_append, hzl, lensM_len]; simp; omega
 ·intro x hx
  rw [tailM_len] at hx
  have e1 : (tailM n).getD x 0 = (endM n 8).getD x 0 := by
   unfold tailM
   rw [List.getD_eq_getElem?_getD, List.getElem?_take_of_lt hx, List.getD_eq_getElem?_getD]
  rw [e1, endM_get n 8 x (by omega) (by omega), appD, appD]
  simp only [List.length_append, List.length_cons, List.length_nil, hzl, Nat.zero_add]
  by_cases c0 : x = 0
  ·subst c0
   rw [if_pos rfl, if_pos (by omega), if_pos (by omega)]; rfl
  ·rw [if_neg c0]
   by_cases c1 : x < 1 + zM n
   ·rw [if_neg (by omega), if_pos c1, if_neg (by omega), zerosD]
   ·rw [if_pos (by omega), if_neg c1, lensM_get n (by omega), show x - 1 - zM n = x - (1 + zM n) by omega]
theorem fullM_len (ms : List Int) : (fullM ms).length = ms.length + 9 + zM ms.length := by
 unfold fullM; rw [List.length_append, tailM_len]; omega
theorem fullM_64 (ms : List Int) : (fullM ms).length = 64 * ((fullM ms).length / 64) := by
 rw [fullM_len]; unfold zM; omega
theorem isBy_app {a b : List Int} (ha : isBy a) (hb : isBy b) : isBy (a ++ b) := fun v hv => (List.mem_append.1 hv).elim (ha v) (hb v)
theorem isBy_zeros (n : Nat) : isBy (zeros n) := by
 intro v hv
 unfold zeros at hv
 rw [List.mem_replicate] at hv
 omega
theorem isBy_tail (n : Nat) : isBy (tailM n) := by
 rw [tailM_eq]
 refine isBy_app (isBy_app ?_ (isBy_zeros _)) ?_
 ·intro v hv
  simp only [List.mem_cons, List.not_mem_nil, or_false] at hv
  omega
 ·intro v hv
  unfold lensM at hv
  obtain ⟨i, _, rfl⟩ := List.mem_map.1 hv
  unfold lenB
  rw [IntKind.wrap_u8]; omega
theorem isBy_blk {ms : List Int} (hb : isBy ms) (i : Nat) : isBy (blkM ms i) := fun v hv => hb v (List.mem_of_mem_drop (List.mem_of_mem_take hv))
theorem takeS (l : List Int) {t : Nat} (h : t < l.length) : l.take (t + 1) = l.take t ++ [l.getD t 0] := by
 rw [List.take_succ, List.getElem?_eq_getElem h, List.getD_eq_getElem?_getD, List.getElem?_eq_getElem h]; rfl
theorem intsApp (k : IntKind) (a b : List Int) : ints k (a ++ b) = ints k a ++ ints k b := by unfold ints; rw [List.map_append]
theorem loopN {J : List SV → H → Prop} {σ : Type} (N : Nat) (S : Nat → σ → List SV) (Inv : Nat → σ → H → Prop) (step : ∀ i s h, i < N → Inv i s h → (∀ s' h', Inv (i + 1) s' h' → J (S (i + 1) s') h') → J (S i s) h)
  (exit : ∀ s h, Inv N s h → J (S N s) h) (i : Nat) (s : σ) (h : H) (hi : i ≤ N) (inv : Inv i s h) : J (S i s) h := by
 generalize e : N - i = n
 induction n generalizing i s h with
 | zero =>
  have : i = N := by omega
  subst this; exact exit s h inv
 | succ n ih => exact step i s h (by omega) inv fun s' h' inv' => ih (i + 1) s' h' (by omega) inv' (by omega)
theorem capL {h0 h : H} {A : List Ent} (hs : Sat h0 A h) {i : Nat} {p : Option Addr} {l c sz : Nat} {vs : List Value} (m : At A i (slE p l c sz vs)) : l ≤ c := by
 obtain ⟨f, hp, _⟩ := hs.take m
 obtain ⟨bs, o, _⟩ := slE_P.1 hp
 exact o.2.1
section
variable {h0 h : H} {A : List Ent} {i d : Nat}
theorem padded_sp {Q : Option Addr → Nat → Nat → H → Prop} {ms : List Int} {p : Option Addr} {l c : Nat} (hs : Sat h0 A h) (hl : l < 2 ^ 46) (rd : ∀ h', Sat h0 A h' → hsv h' p 1 l (ints .u8 ms))
  (k : ∀ p' c' h', (fullM ms).length ≤ c' → Sat h0 (slE p' (fullM ms).length c' 1 (ints .u8 (fullM ms)) :: A) h' → Q p' (fullM ms).length c' h') : F_portcullisref02_padded p l c Q h := by
 unfold F_portcullisref02_padded G_portcullisref02_padded
 have hml : ms.length = l := by have := (rd _ hs).1; simpa using this
 have hz := zM_lt l
 refine ⟨_, rd _ hs, ?_⟩
 refine Sat.app_new hs (by simp [hml]) rfl (ints_one _ _) (by omega) ?_
 intro p1 c1 h1 hs
 intro b _ hn; replace hs := Sat.new hs hn; clear hn
 refine ⟨_, hs.bv (i := 0) (l := 1) .z rfl (ints_one .u8 [128]), ?_⟩
 refine Sat.app hs (i := 1) (vs := ints .u8 [128]) (.s .z) rfl rfl (ints_one _ _) (by omega) ?_
 intro p2 c2 h2 hs
 simp only [put_succ, put_zero] at hs
 rw [← intsApp] at hs
 replace hs := hs.drop
 intro J18 hJ18
 refine loopN (zM l) (fun t (s : Option Addr × Nat) => [.dv (.one (.slice s.1 (l + 1 + t) s.2))]) (fun t s h => Sat h0 (slE s.1 (l + 1 + t) s.2 1 (ints .u8 (ms ++ [128] ++ zeros t)) :: A) h) ?_ ?_ 0 (p2, c2) _ (by omega) (by simpa [zeros] using hs)
 ·rintro t ⟨p3, c3⟩ h3 ht hs hk
  dsimp only at hs hk ⊢
  apply hJ18
  refine ⟨by decide, ?_⟩
  have em : (((l + 1 + t : Nat) : Int)).tmod 64 = (((l + 1 + t) % 64 : Nat) : Int) := by rw [Int.tmod_eq_emod_of_nonneg (by omega)]; omega
  rw [em, if_pos (by
   rw [bne_iff_ne]
   intro y
   unfold zM at ht
   omega)]
  intro b _ hn; replace hs := Sat.new hs hn; clear hn
  refine ⟨_, hs.bv (i := 0) (l := 1) .z rfl (ints_one .u8 [0]), ?_⟩
  refine Sat.app hs (i := 1) (vs := ints .u8 [0]) (.s .z) rfl rfl (ints_one _ _) (by omega) ?_
  intro p4 c4 h4 hs
  simp only [put_succ, put_zero] at hs
  rw [← intsApp] at hs
  refine hk (p4, c4) h4 ?_
  have ez : ms ++ [128] ++ zeros (t + 1) = ms ++ [128] ++ zeros t ++ [0] := by
   unfold zeros
   rw [List.replicate_succ', List.append_assoc, List.append_assoc, List.append_assoc]
  dsimp only
  rw [ez]
  exact hs.drop
 ·rintro ⟨p3, c3⟩ h3 hs
  dsimp only at hs ⊢
  apply hJ18
  clear hJ18
  refine ⟨by decide, ?_⟩
  have em : (((l + 1 + zM l : Nat) : Int)).tmod 64 = 56 := by
   rw [Int.tmod_eq_emod_of_nonneg (by omega)]
   unfold zM
   omega
  rw [em, if_neg (by decide)]
  have ew : IntKind.u64.wrap (8 * IntKind.u64.wrap (l : Int)) = IntKind.u64.wrap (8 * (l : Int)) := by rw [wrapU64 (l : Int), wrapU64, wrapU64]; omega
  rw [ew]
  intro J31 hJ31
  refine loopN 8 (fun t (s : Option Addr × Nat) => [.dv (.one (.slice s.1 (l + 1 + zM l + t) s.2)), .dv (.one (.int .i64 (7 - (t : Int))))]) (fun t s h => Sat h0 (slE s.1 (l + 1 + zM l + t) s.2 1 (ints .u8 (ms ++ [128] ++ zeros (zM l) ++ (lensM l).take t)) :: A) h) ?_ ?_ 0 (p3, c3) _ (by omega) (by simpa using hs)
  ·rintro t ⟨p4, c4⟩ h4 ht hs hk
   dsimp only at hs hk ⊢
   apply hJ31
   rw [leI_eq, if_pos (by rw [decide_eq_true_iff]; omega)]
   have e8 : IntKind.i64.wrap (8 * (7 - (t : Int))) = ((56 - 8 * t : Nat) : Int) := by rw [wrap_id (by omega)]; omega
   rw [e8]
   simp only [Int.toNat_natCast]
   refine ⟨by omega, ?_⟩
   intro b _ hn; replace hs := Sat.new hs hn; clear hn
   refine ⟨_, hs.bv (i := 0) (l := 1) .z rfl (ints_one .u8 [lenB l t]), ?_⟩
   refine Sat.app hs (i := 1) (vs := ints .u8 [lenB l t]) (.s .z) rfl rfl (ints_one _ _) (by omega) ?_
   intro p5 c5 h5 hs
   simp only [put_succ, put_zero] at hs
   rw [← intsApp] at hs
   have e1 : IntKind.i64.wrap (7 - (t : Int) - 1) = 7 - ((t + 1 : Nat) : Int) := by rw [wrap_id (by omega)]; omega
   rw [e1]
   refine hk (p5, c5) h5 ?_
   dsimp only
   rw [takeS _ (by rw [lensM_len]; exact ht), lensM_get l ht, ← List.append_assoc]
   exact hs.drop
  ·rintro ⟨p4, c4⟩ h4 hs
   dsimp only at hs ⊢
   apply hJ31
   rw [leI_eq, if_neg (by decide)]
   rw [List.take_of_length_le (by rw [lensM_len]; exact Nat.le_refl _)] at hs
   have ef : ms ++ [128] ++ zeros (zM l) ++ lensM l = fullM ms := by
    unfold fullM
    rw [tailM_eq, hml, List.append_assoc, List.append_assoc, List.append_assoc]
   have efl : (fullM ms).length = l + 1 + zM l + 8 := by rw [fullM_len, hml]; omega
   rw [ef] at hs
   have K := k p4 c4 h4
   rw [efl] at K
   exact K (capL hs (i := 0) .z) hs
theorem rof_sp {Q : List Int → H → Prop} {ms : List Int} {p : Option Addr} {l c : Nat} (hs : Sat h0 A h) (hb : isBy ms) (hl : l < 2 ^ 46) (rd : ∀ h', Sat h0 A h' → hsv h' p 1 l (ints .u8 ms)) (k : ∀ h', Sat h0 A h' → Q (shaM ms) h') : F_portcullisref02_Of p l c Q h := by
 unfold F_portcullisref02_Of G_portcullisref02_Of
 try simp only [add_mk, Nat.zero_add, List.append_nil]
 have hml : ms.length = l := by have := (rd _ hs).1; simpa using this
 intro rb _ hn; replace hs := Sat.new hs hn; clear hn
 refine padded_sp (ms := ms) hs hl (fun h' hs' => rd _ hs'.drop) ?_
 intro p1 c1 h1 hc1 hs
 obtain ⟨F, hF⟩ : ∃ F, F = fullM ms := ⟨_, rfl⟩
 have hbF : isBy F := by rw [hF]; unfold fullM; exact isBy_app hb (isBy_tail _)
 have hFl : F.length < 2 ^ 47 := by rw [hF, fullM_len, hml]; have := zM_lt l; omega
 obtain ⟨N, hN⟩ : ∃ N, N = F.length / 64 := ⟨_, rfl⟩
 have h64 : F.length = 64 * N := by rw [hN, hF]; exact fullM_64 ms
 rw [← hF] at hs hc1 ⊢
 rw [h64] at hs hc1 ⊢
 unfold F_portcullisref02_begins G_portcullisref02_begins
 try simp only [add_mk, Nat.zero_add, List.append_nil]
 intro bb _ hn; replace hs := Sat.new hs hn; clear hn
 refine ⟨Sat.can hs (i := 0) .z (by simp [zeros]), ?_⟩
 intro h2 e
 replace hs := Sat.wra hs (i := 0) .z e (by simp [zeros])
 clear e
 simp only [put_zero] at hs
 refine ⟨sM, rfl, hs.row0 .z, ?_⟩
 replace hs := hs.drop
 intro sb _ hn; replace hs := Sat.new hs hn; clear hn
 refine ⟨Sat.can hs (i := 0) .z (by simp [zeros, sM]), ?_⟩
 intro h3 e
 replace hs := Sat.wra hs (i := 0) .z e (by simp [zeros, sM])
 clear e
 simp only [put_zero] at hs
 unfold F_portcullisref02_rounds G_portcullisref02_rounds
 try simp only [add_mk, Nat.zero_add, List.append_nil]
 intro kb _ hn; replace hs := Sat.new hs hn; clear hn
 refine ⟨Sat.can hs (i := 0) .z (by simp [zeros]), ?_⟩
 intro h4 e
 replace hs := Sat.wra hs (i := 0) .z e (by simp [zeros])
 clear e
 simp only [put_zero] at hs
 refine ⟨kM, rfl, hs.row0 .z, ?_⟩
 replace hs := hs.drop
 intro kc _ hn; replace hs := Sat.new hs hn; clear hn
 refine ⟨Sat.can hs (i := 0) .z (by simp [zeros, kM_len]), ?_⟩
 intro h5 e
 replace hs := Sat.wra hs (i := 0) .z e (by simp [zeros, kM_len])
 clear e
 simp only [put_zero] at hs
 intro J30 hJ30
 refine loopN N (fun t (_ : Unit) => [.dv (.one (.int .i64 ((64 * t : Nat) : Int)))]) (fun t _ h => Sat h0 (blk kc (ints .u32 kM) :: blk sb (ints .u32 (stM F t)) :: slE p1 (64 * N) c1 1 (ints .u8 F) :: blk rb (ints .u8 (zeros 32)) :: A) h) ?_ ?_ 0 () _ (by omega) hs
 ·rintro t _ h6 ht hs hk
  apply hJ30
  rw [ltI_eq, if_pos (by rw [decide_eq_true_iff]; omega)]
  have e64 : IntKind.i64.wrap (((64 * t : Nat) : Int) + 64) = ((64 * (t + 1) : Nat) : Int) := by rw [wrap_id (by omega)]; push_cast; omega
  rw [e64]
  simp only [Int.toNat_natCast]
  have hsl := stM_len F t
  refine ⟨stM F t, hsl, hs.row0 (i := 1) (.s .z), by omega, by omega, by omega, kM, kM_len, hs.row0 (i := 0) .z, ?_⟩
  rw [show 64 * (t + 1) - 64 * t = 64 by omega]
  refine piece_sp (bs := blkM F t) hs hsl (isBy_blk hbF t) (Nat.le_refl _) (fun h' hs' => subRd (o := 64 * t) (n := 64) (m := c1) (hs'.sv (i := 2) (.s (.s .z))) (by omega) (by omega)) ?_
  intro h7 hs
  have hpl : (pieceM (stM F t) (blkM F t)).length = 8 := pieceM_len hsl
  refine ⟨Sat.can hs (i := 1) (.s .z) (by simp [hsl]), ?_⟩
  intro h8 e
  replace hs := Sat.wra hs (i := 1) (.s .z) e (by simp [hsl, hpl])
  clear e
  simp only [put_succ, put_zero] at hs
  exact hk () _ hs
 ·rintro _ h6 hs
  apply hJ30
  clear hJ30
  rw [ltI_eq, if_neg (by rw [decide_eq_true_iff]; omega)]
  obtain ⟨S, hS⟩ : ∃ S, S = stM F N := ⟨_, rfl⟩
  have hSl : S.length = 8 := by rw [hS]; exact stM_len F N
  have hsh : shaM ms = oM S 32 := by unfold shaM; rw [← hF, ← hN, hS]
  rw [← hS] at hs
  intro ob _ hn; replace hs := Sat.new hs hn; clear hn
  refine ⟨Sat.can hs (i := 0) .z (by simp [zeros]), ?_⟩
  intro h7 e
  replace hs := Sat.wra hs (i := 0) .z e rfl
  clear e
  simp only [put_zero] at hs
  intro J44 hJ44
  refine loop_up 32 (fun t h => Sat h0 (blk ob (ints .u8 (oM S t)) :: blk kc (ints .u32 kM) :: blk sb (ints .u32 S) :: slE p1 (64 * N) c1 1 (ints .u8 F) :: blk rb (ints .u8 (zeros 32)) :: A) h) ?_ ?_ 0 _ (by omega) hs
  ·intro t h8 ht hs hk
   apply hJ44
   rw [ltI_eq, if_pos (by simp; omega)]
   have hol := oM_len S t
   have ed : IntKind.i64.wrap ((t : Int).tdiv 4) = ((t / 4 : Nat) : Int) := by
    rw [Int.tdiv_eq_ediv_of_nonneg (by omega), wrap_id (by omega)]; omega
   have em : IntKind.i64.wrap (24 - IntKind.i64.wrap (8 * (t : Int).tmod 4)) = ((24 - 8 * (t % 4) : Nat) : Int) := by
    rw [Int.tmod_eq_emod_of_nonneg (by omega), wrap_id (n := 8 * ((t : Int) % 4)) (by omega), wrap_id (by omega)]; omega
   rw [ed, em]
   simp only [Int.toNat_natCast, Nat.mul_one]
   refine ⟨by decide, by omega, by omega, _, hs.ld (i := 2) (.s (.s .z)) (intsG (by omega)), by decide, by omega, by omega, by omega, ?_⟩
   refine ⟨Sat.can hs (i := 0) .z (by simp [hol]; omega), ?_⟩
   intro h9 e
   replace hs := Sat.wr hs (i := 0) .z e
   clear e
   rw [intsP] at hs
   simp only [put_zero] at hs
   rw [wrap_succ (by omega)]
   exact hk _ hs
  ·intro h8 hs
   apply hJ44
   rw [ltI_eq, if_neg (by decide)]
   rw [← hsh] at hs
   refine ⟨_, shaM_len ms, hs.row0 (i := 0) .z, ?_⟩
   refine ⟨Sat.can hs (i := 4) (.s (.s (.s (.s .z)))) (by simp [zeros]), ?_⟩
   intro h9 e
   replace hs := Sat.wra hs (i := 4) (.s (.s (.s (.s .z)))) e (by simp [zeros, shaM_len])
   clear e
   simp only [put_succ, put_zero] at hs
   exact ⟨_, shaM_len ms, hs.row0 (i := 4) (.s (.s (.s (.s .z)))), k _ hs.drop.drop.drop.drop.drop⟩
end
end Go.Proofs.YtaglicdidpgkpaaGreatDoor
end
