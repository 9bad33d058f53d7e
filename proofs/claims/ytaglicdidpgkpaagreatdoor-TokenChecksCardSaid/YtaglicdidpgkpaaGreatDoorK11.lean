/- TokenChecks: what is proved and its parts, laid together by a program of ours: Tk3 Tk4 Tk5 Tk6 Tk7 Tr1 Tr2 Tr4 TkW Tk8 Tr6 At -/
import Derived.Test.YtaglicdidpgkpaaGreatDoorRows
import Derived.Test.YtaglicdidpgkpaaGreatDoorK10
set_option autoImplicit false
set_option linter.all false
/- Tokens: bytes, copies, messages, tags. Own work. -/
section
set_option maxRecDepth 100000
set_option linter.unusedVariables false
namespace Go.Proofs.YtaglicdidpgkpaaGreatDoor
open Go Go.Vc

theorem loopS {J : List SV → H → Prop} {σ : Type} (N : Nat) (S : Nat → σ → List SV) (Inv : Nat → σ → H → Prop) (step : ∀ i s h, i < N → Inv i s h → (∀ s' h', Inv (i + 1) s' h' → J (S (i + 1) s') h') → J (S i s) h)
  (exit : ∀ s h, Inv N s h → J (S N s) h) (i : Nat) (s : σ) (h : H) (hi : i ≤ N) (inv : Inv i s h) : J (S i s) h := by
 generalize e : N - i = n
 induction n generalizing i s h with
 | zero =>
  have : i = N := by omega
  subst this; exact exit s h inv
 | succ n ih => exact step i s h (by omega) inv fun s' h' inv' => ih (i + 1) s' h' (by omega) inv' (by omega)
theorem capS {h0 h : H} {A : List Ent} (hs : Sat h0 A h) {i : Nat} {p : Option Addr} {l c sz : Nat} {vs : List Value} (m : At A i (slE p l c sz vs)) : l ≤ c := by
 obtain ⟨f, hp, _⟩ := hs.take m
 obtain ⟨bs, o, _⟩ := slE_P.1 hp
 exact o.2.1
def beginsL : List Int := [112, 111, 114, 116, 99, 117, 108, 108, 105, 115, 32, 116, 111, 107, 101, 110, 0]
def msgM (id : List Int) : List Int := beginsL ++ [IntKind.u8.wrap (id.length : Int)] ++ id
section
variable {h0 h : H} {A : List Ent} {i d : Nat}
theorem eight_sp24 {Q : Option Addr → Nat → Nat → H → Prop} {p : Option Addr} {l c : Nat} {bs : List Int} (n : Int) (hs : Sat h0 A h) (m : At A i (slE p l c 1 (ints .u8 bs))) (hb : l + 8 ≤ 2 ^ 40)
  (k : ∀ p' c' h', Sat h0 (put A i (slE p' (l + 8) c' 1 (ints .u8 (bs ++ eightM n 8)))) h' → Q p' (l + 8) c' h') : F_token_eight p l c n Q h := by
 unfold F_token_eight G_token_eight
 intro J hJ
 refine loopS 8 (fun t (s : Option Addr × Nat) => [.dv (.one (.slice s.1 (l + t) s.2)), si t]) (fun t s h => Sat h0 (put A i (slE s.1 (l + t) s.2 1 (ints .u8 (bs ++ eightM n t)))) h) ?_ ?_ 0 (p, c) _ (by omega) (by
  have : put A i (slE p (l + 0) c 1 (ints .u8 (bs ++ eightM n 0))) = A := by simpa [eightM] using m.put_self
  rw [this]; exact hs)
 ·rintro t ⟨p1, c1⟩ h1 ht hs hk
  dsimp only at hs ⊢
  apply hJ
  rw [ltI_eq, if_pos (by simp; omega)]
  have e8 : IntKind.i64.wrap (8 * (t : Int)) = ((8 * t : Nat) : Int) := by rw [wrap_id (by omega)]; push_cast; rfl
  rw [e8, Int.toNat_natCast]
  refine ⟨by omega, ?_⟩
  intro b _ hn; replace hs := Sat.new hs hn; clear hn
  refine ⟨_, hs.bv (i := 0) (l := 1) .z rfl (ints_one .u8 [IntKind.u8.wrap (n.fdiv (2 ^ min (8 * t) 64))]), ?_⟩
  refine Sat.app hs (i := i + 1) (vs := ints .u8 [IntKind.u8.wrap (n.fdiv (2 ^ min (8 * t) 64))]) (.s (m.put _)) rfl rfl (ints_one _ _) (by omega) ?_
  intro p' c' h2 hs
  simp only [put_succ, put_put] at hs
  rw [wrap_succ (by omega)]
  have := hk (p', c') h2
  dsimp only at this
  refine this ?_
  have e : eightM n (t + 1) = eightM n t ++ [IntKind.u8.wrap (n.fdiv (2 ^ min (8 * t) 64))] := by unfold eightM; rw [List.range_succ, List.map_append]; rfl
  rw [e, ← List.append_assoc]
  have e2 : ints .u8 (bs ++ eightM n t ++ [IntKind.u8.wrap (n.fdiv (2 ^ min (8 * t) 64))]) = ints .u8 (bs ++ eightM n t) ++ ints .u8 [IntKind.u8.wrap (n.fdiv (2 ^ min (8 * t) 64))] := by unfold ints; rw [List.map_append]
  rw [e2]
  exact hs.drop
 ·rintro ⟨p1, c1⟩ h1 hs
  apply hJ
  rw [ltI_eq, if_neg (by decide)]
  exact k _ _ _ hs
theorem cbytes_sp {Q : Option Addr → Nat → Nat → H → Prop} (c : CvM) (hs : Sat h0 A h) (k : ∀ p' c' h', Sat h0 (slE p' 26 c' 1 (ints .u8 (cbM c)) :: A) h' → Q p' 26 c' h') : F_token_Caveat_bytes c.kind c.slot c.frm c.to c.set Q h := by
 unfold F_token_Caveat_bytes G_token_Caveat_bytes
 try simp only [add_mk, Nat.zero_add]
 intro b _ hn; replace hs := Sat.new hs hn; clear hn
 refine ⟨_, hs.ld (i := 0) .z rfl, _, hs.ld (i := 0) .z rfl, ?_⟩
 intro b2 _ hn; replace hs := Sat.new hs hn; clear hn
 refine ⟨_, hs.ld (i := 1) (.s .z) rfl, _, hs.ld (i := 1) (.s .z) rfl, _, hs.ld (i := 1) (.s .z) rfl, ?_⟩
 replace hs := hs.as_sl (i := 0) (l := 2) (sz := 1) .z rfl (ints_one .u8 [IntKind.u8.wrap c.kind, IntKind.u8.wrap c.slot])
 rw [put_zero] at hs
 refine eight_sp24 (bs := [IntKind.u8.wrap c.kind, IntKind.u8.wrap c.slot]) _ hs (i := 0) .z (by decide) ?_
 intro p1 c1 h1 hs
 rw [put_zero] at hs
 refine ⟨hcs_one (hs.ld (i := 1) (.s .z) rfl), hcs_one (hs.ld (i := 1) (.s .z) rfl), ?_⟩
 refine eight_sp24 _ hs (i := 0) .z (by decide) ?_
 intro p2 c2 h2 hs
 rw [put_zero] at hs
 refine ⟨hcs_one (hs.ld (i := 1) (.s .z) rfl), ?_⟩
 refine eight_sp24 _ hs (i := 0) .z (by decide) ?_
 intro p3 c3 h3 hs
 rw [put_zero] at hs
 refine k p3 c3 h3 ?_
 exact hs.sub (by (repeat (first | exact List.Sublist.refl _ | apply List.Sublist.cons_cons | apply List.Sublist.cons)))
theorem clone1_sp {Q : Option Addr → Nat → Nat → H → Prop} {p : Option Addr} {l c : Nat} {vs : List Value} (hs : Sat h0 A h) (hl : l < 2 ^ 47) (rd : ∀ h', Sat h0 A h' → hsv h' p 1 l vs)
  (k : ∀ p' c' h', (p.isNone = true → p' = none ∧ l = 0) → Sat h0 (slE p' l c' 1 vs :: A) h' → Q p' l c' h') : F_slices_Clone_byte_byte p l c Q h := by
 unfold F_slices_Clone_byte_byte G_slices_Clone_byte_byte
 have R := rd _ hs
 by_cases g : p.isNone = true
 ·rw [if_pos g]
  have hp : p = none := by simpa using g
  subst hp
  have e := hsv_none R
  subst e
  have hl0 : l = 0 := by have := R.1; simp at this; omega
  subst hl0
  exact k none 0 h (fun _ => ⟨rfl, rfl⟩) (hs.sl_nil 1 none)
 ·rw [if_neg g]
  intro b _ hn; replace hs := Sat.new hs hn; clear hn
  have R2 := rd _ hs.drop
  refine ⟨vs, R2, ?_⟩
  refine Sat.app_new hs R2.1 rfl R2.2.1 (by omega) ?_
  intro p' c' h1 hs
  exact k _ _ _ (fun y => absurd y g) (hs.sub (by (repeat (first | exact List.Sublist.refl _ | apply List.Sublist.cons_cons | apply List.Sublist.cons))))
theorem clone5_sp {Q : Option Addr → Nat → Nat → H → Prop} {p : Option Addr} {l c : Nat} {vs : List Value} (hs : Sat h0 A h) (hl : l < 2 ^ 40) (rd : ∀ h', Sat h0 A h' → hsv h' p 5 l vs)
  (k : ∀ p' c' h', Sat h0 (slE p' l c' 5 vs :: A) h' → Q p' l c' h') : F_slices_Clone_token_Caveat_token_Caveat p l c Q h := by
 unfold F_slices_Clone_token_Caveat_token_Caveat G_slices_Clone_token_Caveat_token_Caveat
 have R := rd _ hs
 by_cases g : p.isNone = true
 ·rw [if_pos g]
  have hp : p = none := by simpa using g
  subst hp
  have e := hsv_none R
  subst e
  have hl0 : l = 0 := by have := R.1; simp at this; omega
  subst hl0
  exact k none 0 h (hs.sl_nil 5 none)
 ·rw [if_neg g]
  intro b _ hn; replace hs := Sat.new hs hn; clear hn
  have R2 := rd _ hs.drop
  refine ⟨vs, R2, ?_⟩
  refine Sat.app_new hs R2.1 rfl R2.2.1 (by omega) ?_
  intro p' c' h1 hs
  exact k _ _ _ (hs.sub (by (repeat (first | exact List.Sublist.refl _ | apply List.Sublist.cons_cons | apply List.Sublist.cons))))
theorem index_sp {Q : Int → H → Prop} {p : Option Addr} {l c : Nat} {cs : List CvM} (hs : Sat h0 A h) (hl : l < 2 ^ 40) (rd : ∀ h', Sat h0 A h' → hsv h' p 5 l (cvsV cs))
  (k : ∀ r h', Sat h0 A h' → ((0 ≤ r ∧ ¬ ∀ c ∈ cs, c.may) ∨ (r = -1 ∧ ∀ c ∈ cs, c.may)) → Q r h') : F_slices_IndexFunc_token_Caveat_token_Caveat p l c (.func (.func id_token_Token_may_1) ⟨[]⟩ ⟨[]⟩) Q h := by
 unfold F_slices_IndexFunc_token_Caveat_token_Caveat G_slices_IndexFunc_token_Caveat_token_Caveat
 have hcl : cs.length = l := by have := (rd _ hs).1; rw [cvsV_len] at this; omega
 intro J hJ
 refine loop_up l (fun t h => (∀ j (hj : j < cs.length), j < t → cs[j].may) ∧ Sat h0 A h) ?_ ?_ 0 _ (by omega) ⟨fun j _ y => by omega, hs⟩
 ·rintro t h1 ht ⟨hm, hs⟩ hk
  apply hJ
  rw [ltI_eq, if_pos (by simp; omega)]
  obtain ⟨q, hl2, hq, g0, g1, g2, g3, g4⟩ := cv_rd (rd _ hs) (i := t) ht
  refine ⟨q, hq, by omega, by omega, ?_⟩
  simp only [Int.toNat_natCast]
  refine ⟨_, g0, _, g1, _, g2, _, g3, _, g4, ?_⟩
  refine callFn_dv (f := id_token_Token_may_1) R_token_Token_may_1 (xs := []) (ys := []) (args := [.agg [.c (.int .i64 cs[t].kind), .c (.int .i64 cs[t].slot), .c (.int .i64 cs[t].frm), .c (.int .i64 cs[t].to), .c (.int .u64 cs[t].set)]]) ?_ ?_
  ·intro x hx
   simp at hx
   subst hx
   intro y hy
   simp at hy
   rcases hy with rfl | rfl | rfl | rfl | rfl <;> rfl
  ·show F_token_Token_may_1 cs[t].kind cs[t].slot cs[t].frm cs[t].to cs[t].set _ h1
   unfold F_token_Token_may_1 G_token_Token_may_1
   try simp only [add_mk, Nat.zero_add]
   intro b _ hn; replace hs := Sat.new hs hn; clear hn
   refine ⟨_, hs.ld (i := 0) .z rfl, _, hs.ld (i := 0) .z rfl, _, hs.ld (i := 0) .z rfl, _, hs.ld (i := 0) .z rfl, _, hs.ld (i := 0) .z rfl, ?_⟩
   refine CMay_sp cs[t] hs ?_
   intro h2 hs
   refine ⟨_, _, rfl, _, rfl, rfl, ?_⟩
   by_cases g : cs[t].may
   ·rw [if_neg (by simp [g]), wrap_succ (by omega)]
    refine hk _ ⟨fun j hj hjt => ?_, hs.drop⟩
    by_cases e : j = t
    ·subst e; exact g
    ·exact hm j hj (by omega)
   ·rw [if_pos (by simp [g])]
    exact k _ _ hs.drop (Or.inl ⟨by omega, fun y => g (y _ (List.getElem_mem hl2))⟩)
 ·rintro h1 ⟨hm, hs⟩
  apply hJ
  rw [ltI_eq, if_neg (by simp)]
  refine k _ _ hs (Or.inr ⟨rfl, fun c hc => ?_⟩)
  obtain ⟨j, hj, rfl⟩ := List.getElem_of_mem hc
  exact hm j hj (by omega)
def TokMay (key : Int) (id : List Int) (cs : List CvM) : Prop := (0 ≤ key ∧ key < 64) ∧ (1 ≤ id.length ∧ id.length ≤ 64) ∧ cs.length ≤ 32 ∧ ∀ c ∈ cs, c.may
instance (key : Int) (id : List Int) (cs : List CvM) : Decidable (TokMay key id cs) := by unfold TokMay; infer_instance
theorem tmay_sp {Q : Bool → H → Prop} {key : Int} {id tag : List Int} {cs : List CvM} {ip cp : Option Addr} {il ic cl cc : Nat} (hs : Sat h0 A h) (hil : id.length = il) (hl : cl < 2 ^ 40) (hcl : cs.length = cl) (rc : ∀ h', Sat h0 A h' → hsv h' cp 5 cl (cvsV cs))
  (k : ∀ h', Sat h0 A h' → Q (decide (TokMay key id cs)) h') : F_token_Token_may key ip il ic cp cl cc tag Q h := by
 unfold F_token_Token_may G_token_Token_may
 try simp only [add_mk, Nat.zero_add]
 intro b _ hn; replace hs := Sat.new hs hn; clear hn
 have no : ¬ TokMay key id cs → Q false _ := fun y => by
  have := k _ hs.drop
  rw [decide_eq_false y] at this
  exact this
 refine ⟨_, hs.ld (i := 0) .z rfl, ?_⟩
 rw [leI_eq]
 by_cases c1 : 0 ≤ key
 case neg =>
  rw [if_neg (by simpa using c1)]
  exact no fun y => c1 y.1.1
 rw [if_pos (by simpa using c1)]
 refine ⟨_, hs.ld (i := 0) .z rfl, ?_⟩
 rw [ltI_eq]
 by_cases c2 : key < 64
 case neg =>
  rw [if_neg (by simpa using c2)]
  exact no fun y => c2 y.1.2
 rw [if_pos (by simpa using c2)]
 refine ⟨_, _, _, hs.ld (i := 0) .z rfl, ?_⟩
 rw [leI_eq]
 by_cases c3 : 1 ≤ il
 case neg =>
  rw [if_neg (by simp; omega)]
  exact no fun y => c3 (by have := y.2.1.1; omega)
 rw [if_pos (by simp; omega)]
 refine ⟨_, _, _, hs.ld (i := 0) .z rfl, ?_⟩
 rw [leI_eq]
 by_cases c4 : il ≤ 64
 case neg =>
  rw [if_neg (by simp; omega)]
  exact no fun y => c4 (by have := y.2.1.2; omega)
 rw [if_pos (by simp; omega)]
 refine ⟨_, _, _, hs.ld (i := 0) .z rfl, ?_⟩
 rw [leI_eq]
 by_cases c5 : cl ≤ 32
 case neg =>
  rw [if_neg (by simp; omega)]
  exact no fun y => c5 (by have := y.2.2.1; omega)
 rw [if_pos (by simp; omega)]
 refine ⟨_, _, _, hs.ld (i := 0) .z rfl, ?_⟩
 unfold F_slices_ContainsFunc_token_Caveat_token_Caveat G_slices_ContainsFunc_token_Caveat_token_Caveat
 refine index_sp hs hl (fun h' hs' => rc _ hs'.drop) ?_
 intro r h2 hs hr
 have K := k _ hs.drop
 rw [leI_eq]
 rcases hr with ⟨r1, r2⟩ | ⟨r1, r2⟩
 ·rw [decide_eq_true r1]
  rw [decide_eq_false (fun y => r2 y.2.2.2)] at K
  exact K
 ·rw [decide_eq_false (by omega)]
  rw [decide_eq_true ⟨⟨c1, c2⟩, ⟨by omega, by omega⟩, by omega, r2⟩] at K
  exact K
theorem ints_app (k : IntKind) (a b : List Int) : ints k (a ++ b) = ints k a ++ ints k b := by unfold ints; rw [List.map_append]
theorem message_sp {Q : Option Addr → Nat → Nat → H → Prop} {p : Option Addr} {l c : Nat} {id : List Int} (hs : Sat h0 A h) (hl : l < 2 ^ 40) (rd : ∀ h', Sat h0 A h' → hsv h' p 1 l (ints .u8 id))
  (k : ∀ p' c' h', 18 + l ≤ c' → Sat h0 (slE p' (18 + l) c' 1 (ints .u8 (msgM id)) :: A) h' → Q p' (18 + l) c' h') : F_token_message p l c Q h := by
 unfold F_token_message G_token_message
 have hil : id.length = l := by have := (rd _ hs).1; simpa using this
 intro b _ hn; replace hs := Sat.new hs hn; clear hn
 refine ⟨_, rfl, ?_⟩
 intro h2 e
 replace hs := hs.mark (i := 0) .z e
 clear e
 intro b2 _ hn; replace hs := Sat.new hs hn; clear hn
 refine ⟨_, hs.bv (i := 0) (l := 1) .z rfl (ints_one .u8 [IntKind.u8.wrap (l : Int)]), ?_⟩
 replace hs := hs.as_sl (i := 1) (l := 17) (sz := 1) (.s .z) rfl (ints_one .u8 beginsL)
 simp only [put_succ, put_zero] at hs
 refine Sat.app hs (i := 1) (vs := ints .u8 [IntKind.u8.wrap (l : Int)]) (.s .z) rfl rfl (ints_one _ _) (by decide) ?_
 intro p1 c1 h3 hs
 simp only [put_succ, put_zero] at hs
 have R := rd _ hs.drop.drop
 refine ⟨_, R, ?_⟩
 refine Sat.app hs (i := 1) (vs := ints .u8 id) (.s .z) (by simp [hil]) rfl (ints_one _ _) (by omega) ?_
 intro p2 c2 h4 hs
 simp only [put_succ, put_zero] at hs
 have hs2 : Sat h0 (slE p2 (18 + l) c2 1 (ints .u8 (msgM id)) :: A) h4 := by
  have e : ints .u8 (msgM id) = ints .u8 beginsL ++ ints .u8 [IntKind.u8.wrap (l : Int)] ++ ints .u8 id := by
   unfold msgM; rw [ints_app, ints_app, hil]
  rw [e]
  exact hs.drop
 exact k p2 c2 h4 (capS hs2 (i := 0) .z) hs2
theorem next_sp24 {Q : List Int → H → Prop} {tag : List Int} (c : CvM) (ht : tag.length = 32) (hs : Sat h0 A h) (k : ∀ h', Sat h0 A h' → Q (macM tag (cbM c)) h') : F_token_next tag c.kind c.slot c.frm c.to c.set Q h := by
 unfold F_token_next G_token_next
 try simp only [add_mk, Nat.zero_add, List.append_nil]
 intro tb _ hn; replace hs := Sat.new hs hn; clear hn
 intro cb _ hn; replace hs := Sat.new hs hn; clear hn
 intro ob _ hn; replace hs := Sat.new hs hn; clear hn
 refine ⟨_, hs.ld (i := 1) (.s .z) rfl, _, hs.ld (i := 1) (.s .z) rfl, _, hs.ld (i := 1) (.s .z) rfl, _, hs.ld (i := 1) (.s .z) rfl, _, hs.ld (i := 1) (.s .z) rfl, ?_⟩
 refine cbytes_sp c hs ?_
 intro p1 c1 h1 hs
 refine MacOf_sp (key := tag) (b := cbM c) hs (by decide) (by decide) (capS hs (i := 0) .z) (by decide) ?_ (fun h' hs' => hs'.sv (i := 0) .z) ?_
 ·intro h' hs'
  have := blk_sv hs' (i := 3) (.s (.s (.s .z))) (n := 32) (by omega)
  rw [List.take_of_length_le (by omega)] at this
  exact this
 intro h2 hs
 refine ⟨Sat.can hs (i := 1) (.s .z) (by simp [zeros, macM_len]), ?_⟩
 intro h3 e
 replace hs := Sat.wra hs (i := 1) (.s .z) e (by simp [zeros, macM_len])
 clear e
 simp only [put_succ, put_zero] at hs
 exact ⟨_, macM_len _ _, hs.row0 (i := 1) (.s .z), k _ hs.drop.drop.drop.drop⟩
end
end Go.Proofs.YtaglicdidpgkpaaGreatDoor
end

/- Tokens: rings of keys, Issue, Put. Own work. -/
section
set_option maxRecDepth 100000
set_option linter.unusedVariables false
namespace Go.Proofs.YtaglicdidpgkpaaGreatDoor
open Go Go.Vc

abbrev tokL (key : Int) (ip : Option Addr) (il ic : Nat) (cp : Option Addr) (cl cc : Nat) (tag : List Int) : List Value := .int .i64 key :: .slice ip il ic :: .slice cp cl cc :: ints .u8 tag
abbrev tok0 : List Value := tokL 0 none 0 0 none 0 0 (zeros 32)
theorem zeros_len (n : Nat) : (zeros n).length = n := by simp [zeros]
section
variable {h0 h : H} {A : List Ent} {i j d r m : Nat}
theorem tok_row {b : Nat} {key : Int} {ip cp : Option Addr} {il ic cl cc : Nat} {tag : List Int} (hs : Sat h0 A h) (c : At A i (blk b (tokL key ip il ic cp cl cc tag))) : hrow h ⟨b, 3, none⟩ .u8 tag :=
 hs.row c fun x hx => by
  show (Value.int .i64 key :: .slice ip il ic :: .slice cp cl cc :: ints .u8 tag)[3 + x]? = _
  rw [show 3 + x = x + 1 + 1 + 1 by omega, List.getElem?_cons_succ, List.getElem?_cons_succ, List.getElem?_cons_succ, ints_get]
theorem has_sp {Q : Bool → H → Prop} (key : Int) {es : List (Value × DV)} {b : Bool} {op : Option Addr} {ol oc : Nat} (hs : Sat h0 A h) (cr : At A i (blk r [.map (some m)])) (cm : At A j (mapE m es)) (hl : mlook (.int .i64 key) (.one (.slice none 0 0)) es = some (.one (.slice op ol oc), b))
  (q : Q b h) : F_keys_Ring_Has ⟨r, 0, none⟩ key Q h := by
 unfold F_keys_Ring_Has G_keys_Ring_Has
 exact ⟨_, hs.ld cr rfl, _, _, _, hs.mapAt cm, hl, _, _, _, rfl, q⟩
theorem keys1_sp {Q : Option Addr → Int → Int → H → Prop} {key : Int} {bs : List Int} {p : Addr} {bp : Option Addr} {bl bc : Nat} (hs : Sat h0 A h) (hk : 0 ≤ key ∧ key < 64) (hb : 1 ≤ bl ∧ bl ≤ 256)
  (r0 : ∀ h', Sat h0 A h' → hc h' p = some (.int .i64 key)) (r1 : ∀ h', Sat h0 A h' → hc h' (p.add 1) = some (.slice bp bl bc)) (rd : ∀ h', Sat h0 A h' → hsv h' bp 1 bl (ints .u8 bs))
  (k : ∀ r m p' c' h', bl ≤ c' → Sat h0 (slE p' bl c' 1 (ints .u8 bs) :: blk r [.map (some m)] :: mapE m [(.int .i64 key, .one (.slice p' bl c'))] :: A) h' → Q (some ⟨r, 0, none⟩) 0 0 h') : F_keys_New (some p) 1 1 Q h := by
 unfold F_keys_New G_keys_New
 try simp only [add_mk, Nat.zero_add]
 rw [ltI_eq, if_neg (by decide)]
 intro m _ hn; replace hs := hs.mapNew hn; clear hn
 intro r _ hn; replace hs := Sat.new hs hn; clear hn
 intro J hJ
 apply hJ
 rw [ltI_eq, if_pos (by decide)]
 refine ⟨p, rfl, by decide, by decide, ?_⟩
 simp only [Int.toNat_zero, Nat.zero_mul, add_zero]
 refine ⟨_, r0 _ hs.drop.drop, _, _, _, r1 _ hs.drop.drop, ?_⟩
 intro b _ hn; replace hs := Sat.new hs hn; clear hn
 refine ⟨Sat.can hs (i := 0) .z (by simp), ?_⟩
 intro h2 e
 replace hs := Sat.wra hs (i := 0) .z e rfl
 clear e
 simp only [put_zero] at hs
 intro J26 hJ26
 have way : J26 [.dv (.one (.bool false))] h2 := by
  apply hJ26
  rw [if_neg (by decide)]
  refine ⟨_, _, _, hs.ld (i := 0) .z rfl, ?_⟩
  rw [ltI_eq, if_neg (by simp; omega)]
  refine ⟨_, _, _, hs.ld (i := 0) .z rfl, ?_⟩
  rw [ltI_eq, if_neg (by simp; omega)]
  refine ⟨_, hs.ld (i := 0) .z rfl, ?_⟩
  refine has_sp key hs (i := 1) (j := 2) (.s .z) (.s (.s .z)) rfl ?_
  rw [if_neg (by decide)]
  refine ⟨_, hs.ld (i := 1) (.s .z) rfl, _, hs.ld (i := 0) .z rfl, _, _, _, hs.ld (i := 0) .z rfl, ?_⟩
  refine clone1_sp (vs := ints .u8 bs) hs (by omega) (fun h' hs' => rd _ hs'.drop.drop.drop) ?_
  intro p' c' h3 _ hs
  refine ⟨hcs_one (hs.ld (i := 1) (.s .z) rfl), hcs_one (hs.ld (i := 2) (.s (.s .z)) rfl), _, _, _, rfl, hs.mapAt (i := 3) (.s (.s (.s .z))), rfl, ?_⟩
  intro h4 e
  replace hs := hs.mapSet (i := 3) (.s (.s (.s .z))) e
  clear e
  simp only [put_succ, put_zero] at hs
  apply hJ
  rw [ltI_eq, if_neg (by decide)]
  exact k r m p' c' _ (capS hs (i := 0) .z) (hs.sub (by (repeat (first | exact List.Sublist.refl _ | apply List.Sublist.cons_cons | apply List.Sublist.cons))))
 refine ⟨_, hs.ld (i := 0) .z rfl, ?_⟩
 rw [ltI_eq, if_neg (by simp; omega)]
 refine ⟨_, hs.ld (i := 0) .z rfl, ?_⟩
 rw [leI_eq, decide_eq_false (by omega)]
 exact way
theorem sign_sp {Q : List Int → Int → H → Prop} {key : Int} {es : List (Value × DV)} {sp bp : Option Addr} {sl sc bl bc : Nat} {secret b : List Int} (hs : Sat h0 A h) (cr : At A i (blk r [.map (some m)])) (cm : At A j (mapE m es)) (hl : mlook (.int .i64 key) (.one (.slice none 0 0)) es = some (.one (.slice sp sl sc), true))
  (hsc : sl ≤ sc) (hsl : sl < 2 ^ 40) (hbc : bl ≤ bc) (hbl : bl < 2 ^ 40) (rs : ∀ h', Sat h0 A h' → hsv h' sp 1 sl (ints .u8 secret)) (rb : ∀ h', Sat h0 A h' → hsv h' bp 1 bl (ints .u8 b)) (k : ∀ h', Sat h0 A h' → Q (macM secret b) 0 h') : F_keys_Ring_Sign ⟨r, 0, none⟩ key bp bl bc Q h := by
 unfold F_keys_Ring_Sign G_keys_Ring_Sign
 simp only [List.append_nil]
 intro ob _ hn; replace hs := Sat.new hs hn; clear hn
 refine ⟨_, hs.ld cr.s rfl, _, _, _, hs.mapAt cm.s, hl, _, _, _, rfl, ?_⟩
 rw [if_neg (by decide)]
 refine MacOf_sp (key := secret) (b := b) hs hsc (by omega) hbc (by omega) (fun h' hs' => rs _ hs'.drop) (fun h' hs' => rb _ hs'.drop) ?_
 intro h2 hs
 refine ⟨Sat.can hs (i := 0) .z (by simp [zeros]), ?_⟩
 intro h3 e
 replace hs := Sat.wra hs (i := 0) .z e (by simp [zeros, macM_len])
 clear e
 simp only [put_zero] at hs
 exact ⟨_, macM_len _ _, hs.row0 .z, k _ hs.drop⟩
theorem issue_sp {Q : Int → Option Addr → Nat → Nat → Option Addr → Nat → Nat → List Int → Int → H → Prop} {key : Int} {es : List (Value × DV)} {sp ip : Option Addr} {sl sc il ic : Nat} {secret id : List Int} (hs : Sat h0 A h) (cr : At A i (blk r [.map (some m)])) (cm : At A j (mapE m es)) (hl : mlook (.int .i64 key) (.one (.slice none 0 0)) es = some (.one (.slice sp sl sc), true))
  (hsc : sl ≤ sc) (hsl : sl < 2 ^ 40) (hi : 1 ≤ il ∧ il ≤ 64) (rs : ∀ h', Sat h0 A h' → hsv h' sp 1 sl (ints .u8 secret)) (ri : ∀ h', Sat h0 A h' → hsv h' ip 1 il (ints .u8 id))
  (k : ∀ p' c' h', il ≤ c' → Sat h0 (slE p' il c' 1 (ints .u8 id) :: A) h' → Q key p' il c' none 0 0 (macM secret (msgM id)) 0 h') : F_token_Issue ⟨r, 0, none⟩ key ip il ic Q h := by
 unfold F_token_Issue G_token_Issue
 try simp only [add_mk, Nat.zero_add, List.append_nil]
 intro tb _ hn; replace hs := Sat.new hs hn; clear hn
 intro J hJ
 refine has_sp key hs cr.s cm.s hl ?_
 rw [if_neg (by decide), ltI_eq, if_neg (by simp; omega), ltI_eq, if_neg (by simp; omega)]
 apply hJ
 clear hJ J
 refine message_sp (id := id) hs (by omega) (fun h' hs' => ri _ hs'.drop) ?_
 intro p1 c1 h1 hc1 hs
 have hil : id.length = il := by have := (ri _ hs.drop.drop).1; simpa using this
 refine sign_sp (b := msgM id) hs cr.s.s cm.s.s hl hsc hsl hc1 (by omega) (fun h' hs' => rs _ hs'.drop.drop) (fun h' hs' => hs'.sv (i := 0) .z) ?_
 intro h2 hs
 intro gb _ hn; replace hs := Sat.new hs hn; clear hn
 refine ⟨Sat.can hs (i := 0) .z (by simp [zeros]), ?_⟩
 intro h3 e
 replace hs := Sat.wra hs (i := 0) .z e (by simp [zeros, macM_len])
 clear e
 simp only [put_zero] at hs
 rw [if_neg (by decide)]
 refine ⟨_, macM_len _ _, hs.row0 .z, ?_⟩
 refine clone1_sp (vs := ints .u8 id) hs (by omega) (fun h' hs' => ri _ hs'.drop.drop.drop) ?_
 intro p2 c2 h4 _ hs
 refine ⟨Sat.cs hs (i := 1) (.s .z) (by rw [List.drop_zero, List.take_of_length_le (Nat.le_refl _)]), ?_⟩
 refine ⟨Sat.can hs (i := 3) (.s (.s (.s .z))) (by simp [zeros]), ?_⟩
 intro h5 e
 replace hs := Sat.wra hs (i := 3) (.s (.s (.s .z))) e (by simp [zeros, macM_len])
 clear e
 simp only [put_succ, put_zero] at hs
 replace hs : Sat h0 (slE p2 il c2 1 (ints .u8 id) :: blk gb (ints .u8 (macM secret (msgM id))) :: slE p1 (18 + il) c1 1 (ints .u8 (msgM id)) :: blk tb (tokL key p2 il c2 none 0 0 (macM secret (msgM id))) :: A) h5 := hs
 have t3 := At.s (x := slE p2 il c2 1 (ints .u8 id)) (At.s (x := blk gb (ints .u8 (macM secret (msgM id)))) (At.s (x := slE p1 (18 + il) c1 1 (ints .u8 (msgM id))) (At.z (A := A) (e := blk tb (tokL key p2 il c2 none 0 0 (macM secret (msgM id)))))))
 refine ⟨_, hs.ld t3 rfl, _, _, _, hs.ld t3 rfl, _, _, _, hs.ld t3 rfl, _, macM_len _ _, tok_row hs t3, ?_⟩
 exact k p2 c2 h5 (capS hs (i := 0) .z) (hs.sub (by (repeat (first | exact List.Sublist.refl _ | apply List.Sublist.cons_cons | apply List.Sublist.cons))))
def cbsM : List CvM → List Int
 | [] => []
 | c :: r => cbM c ++ cbsM r
theorem cbsM_app (a : List CvM) (c : CvM) : cbsM (a ++ [c]) = cbsM a ++ cbM c := by
 induction a with
 | nil => simp [cbsM]
 | cons x r ih => simp [cbsM, ih]
def headM24 (key : Int) (id : List Int) (cs : List CvM) : List Int := [80, 67, 84, 75, 1] ++ [IntKind.u8.wrap key, IntKind.u8.wrap (id.length : Int), IntKind.u8.wrap (cs.length : Int)] ++ id
def putM24 (key : Int) (id : List Int) (cs : List CvM) (tag : List Int) : List Int := headM24 key id cs ++ cbsM cs ++ tag
theorem cbsM_len (cs : List CvM) : (cbsM cs).length = cs.length * 26 := by
 induction cs with
 | nil => rfl
 | cons x r ih => simp [cbsM, ih, cbM_len]; omega
theorem headM24_len (key : Int) (id : List Int) (cs : List CvM) : (headM24 key id cs).length = 8 + id.length := by simp [headM24]; omega
theorem put24_sp {Q : Option Addr → Nat → Nat → Int → H → Prop} {key : Int} {id tag : List Int} {cs : List CvM} {ip cp : Option Addr} {il ic cl cc : Nat} (hs : Sat h0 A h) (ht : tag.length = 32) (hl : cl < 2 ^ 40)
  (ri : ∀ h', Sat h0 A h' → hsv h' ip 1 il (ints .u8 id)) (rc : ∀ h', Sat h0 A h' → hsv h' cp 5 cl (cvsV cs))
  (k1 : ¬ TokMay key id cs → ∀ h', Sat h0 A h' → Q none 0 0 5 h')
  (k2 : TokMay key id cs → ∀ p c h', (putM24 key id cs tag).length ≤ c → Sat h0 (slE p (putM24 key id cs tag).length c 1 (ints .u8 (putM24 key id cs tag)) :: A) h' → Q p (putM24 key id cs tag).length c 0 h') :
  F_token_Put key ip il ic cp cl cc tag Q h := by
 unfold F_token_Put G_token_Put
 try simp only [add_mk, Nat.zero_add, List.append_nil]
 have hil : id.length = il := by have := (ri _ hs).1; simpa using this
 have hcl : cs.length = cl := by have := (rc _ hs).1; rw [cvsV_len] at this; omega
 intro tb _ hn; replace hs := Sat.new hs hn; clear hn
 replace hs : Sat h0 (blk tb (tokL key ip il ic cp cl cc tag) :: A) _ := hs
 refine ⟨_, hs.ld (i := 0) .z rfl, _, _, _, hs.ld (i := 0) .z rfl, _, _, _, hs.ld (i := 0) .z rfl, tag, ht, tok_row hs (i := 0) .z, ?_⟩
 refine tmay_sp (id := id) (cs := cs) hs hil hl hcl (fun h' hs' => rc _ hs'.drop) ?_
 intro h1 hs
 by_cases g : TokMay key id cs
 case neg =>
  rw [if_pos (by simp [g])]
  exact k1 g _ hs.drop
 rw [if_neg (by simp [g])]
 have K2 := k2 g
 clear k1 k2
 obtain ⟨_, ⟨i1, i2⟩, c32, _⟩ := g
 intro b1 _ hn; replace hs := Sat.new hs hn; clear hn
 refine ⟨_, rfl, ?_⟩
 intro h2 e
 replace hs := hs.mark (i := 0) .z e
 clear e
 refine ⟨_, hs.ld (i := 1) (.s .z) rfl, _, _, _, hs.ld (i := 1) (.s .z) rfl, _, _, _, hs.ld (i := 1) (.s .z) rfl, ?_⟩
 intro b2 _ hn; replace hs := Sat.new hs hn; clear hn
 refine ⟨_, hs.bv (i := 0) (l := 3) .z rfl (ints_one .u8 [IntKind.u8.wrap key, IntKind.u8.wrap (il : Int), IntKind.u8.wrap (cl : Int)]), ?_⟩
 replace hs := hs.as_sl (i := 1) (l := 5) (sz := 1) (.s .z) rfl (ints_one .u8 [80, 67, 84, 75, 1])
 simp only [put_succ, put_zero] at hs
 refine Sat.app hs (i := 1) (vs := ints .u8 [IntKind.u8.wrap key, IntKind.u8.wrap (il : Int), IntKind.u8.wrap (cl : Int)]) (.s .z) rfl rfl (ints_one _ _) (by decide) ?_
 intro p1 c1 h3 hs
 simp only [put_succ, put_zero] at hs
 replace hs := hs.drop
 refine ⟨_, _, _, hs.ld (i := 1) (.s .z) rfl, _, ri _ hs.drop.drop, ?_⟩
 refine Sat.app hs (i := 0) (vs := ints .u8 id) .z (by simp [hil]) rfl (ints_one _ _) (by omega) ?_
 intro p2 c2 h4 hs
 simp only [put_zero] at hs
 refine ⟨_, _, _, hs.ld (i := 1) (.s .z) rfl, ?_⟩
 have e0 : ints .u8 [80, 67, 84, 75, 1] ++ ints .u8 [IntKind.u8.wrap key, IntKind.u8.wrap (il : Int), IntKind.u8.wrap (cl : Int)] ++ ints .u8 id = ints .u8 (headM24 key id cs ++ cbsM (cs.take 0)) := by
  unfold headM24
  rw [List.take_zero, hil, hcl]
  show _ = ints .u8 (_ ++ [])
  rw [List.append_nil, ints_app, ints_app]
 replace hs : Sat h0 (slE p2 (8 + il) c2 1 (ints .u8 (headM24 key id cs ++ cbsM (cs.take 0))) :: blk tb (tokL key ip il ic cp cl cc tag) :: A) h4 := by
  rw [← e0]; exact hs
 intro J57 hJ57
 refine loopS cl (fun t (s : Option Addr × Nat) => [.dv (.one (.slice s.1 (8 + il + t * 26) s.2)), si t]) (fun t s h => Sat h0 (slE s.1 (8 + il + t * 26) s.2 1 (ints .u8 (headM24 key id cs ++ cbsM (cs.take t))) :: blk tb (tokL key ip il ic cp cl cc tag) :: A) h) ?_ ?_ 0 (p2, c2) _ (by omega) (by simpa using hs)
 ·rintro t ⟨p3, c3⟩ h5 htl hs hk
  dsimp only at hs ⊢
  apply hJ57
  rw [ltI_eq, if_pos (by simp; omega)]
  obtain ⟨q, hl2, hq, g0, g1, g2, g3, g4⟩ := cv_rd (rc _ hs.drop.drop) (i := t) htl
  refine ⟨q, hq, by omega, by omega, ?_⟩
  simp only [Int.toNat_natCast]
  refine ⟨_, g0, _, g1, _, g2, _, g3, _, g4, ?_⟩
  intro b3 _ hn; replace hs := Sat.new hs hn; clear hn
  refine ⟨Sat.can hs (i := 0) .z (by simp), ?_⟩
  intro h6 e
  replace hs := Sat.wra hs (i := 0) .z e rfl
  clear e
  simp only [put_zero] at hs
  refine ⟨_, hs.ld (i := 0) .z rfl, _, hs.ld (i := 0) .z rfl, _, hs.ld (i := 0) .z rfl, _, hs.ld (i := 0) .z rfl, _, hs.ld (i := 0) .z rfl, ?_⟩
  refine cbytes_sp cs[t] hs ?_
  intro p4 c4 h7 hs
  refine ⟨_, hs.sv (i := 0) .z, ?_⟩
  refine Sat.app hs (i := 2) (vs := ints .u8 (cbM cs[t])) (.s (.s .z)) (by simp [cbM_len]) rfl (ints_one _ _) (by omega) ?_
  intro p5 c5 h8 hs
  simp only [put_succ, put_zero] at hs
  rw [wrap_succ (by omega)]
  have := hk (p5, c5) h8
  dsimp only at this
  rw [show 8 + il + (t + 1) * 26 = 8 + il + t * 26 + 26 by omega] at this
  refine this ?_
  have e1 : cs.take (t + 1) = cs.take t ++ [cs[t]] := by rw [List.take_succ, List.getElem?_eq_getElem hl2]; rfl
  rw [e1, cbsM_app, ← List.append_assoc, ints_app .u8 _ (cbM cs[t])]
  exact hs.drop.drop
 ·rintro ⟨p3, c3⟩ h5 hs
  dsimp only at hs ⊢
  apply hJ57
  rw [ltI_eq, if_neg (by simp)]
  rw [List.take_of_length_le (by omega)] at hs
  have sub0 : subAddr (some ⟨tb, 3, none⟩) 0 32 1 = some ⟨tb, 3, none⟩ := by unfold subAddr; simp
  rw [sub0]
  have R : hsv h5 (some ⟨tb, 3, none⟩) 1 32 (ints .u8 tag) := by
   refine ⟨by simp [ht], ints_one _ _, Or.inr ⟨_, rfl, ?_⟩⟩
   exact tok_row hs (i := 1) (.s .z)
  refine ⟨_, R, ?_⟩
  refine Sat.app hs (i := 0) (vs := ints .u8 tag) .z (by simp [ht]) rfl (ints_one _ _) (by omega) ?_
  intro p4 c4 h6 hs
  simp only [put_zero] at hs
  have hlen : (putM24 key id cs tag).length = 8 + il + cl * 26 + 32 := by
   unfold putM24
   rw [List.length_append, List.length_append, headM24_len, cbsM_len, hil, hcl, ht]
  rw [← ints_app] at hs
  have K := K2 p4 c4 h6
  rw [hlen] at K
  refine K (capS hs (i := 0) .z) ?_
  exact hs.sub (by (repeat (first | exact List.Sublist.refl _ | apply List.Sublist.cons_cons | apply List.Sublist.cons)))
end
end Go.Proofs.YtaglicdidpgkpaaGreatDoor
end

/- Tokens: Narrow. Own work. -/
section
set_option maxRecDepth 100000
set_option linter.unusedVariables false
namespace Go.Proofs.YtaglicdidpgkpaaGreatDoor
open Go Go.Vc
section
variable {h0 h : H} {A : List Ent} {i j d : Nat}
theorem ckN {tb cb : Nat} {key : Int} {ip cp : Option Addr} {il ic cl cc : Nat} {tag : List Int} {c : CvM} (hs : Sat h0 A h) (tt : At A i (blk tb (tokL key ip il ic cp cl cc tag))) (tc : At A j (blk cb (cvV c))) :
  hcs h ⟨cb, 0, none⟩ (cvV c) ∧ hcs h ⟨tb, 3, none⟩ (ints .u8 tag) ∧ hcs h ⟨tb, 2, none⟩ [.slice cp cl cc] ∧ hcs h ⟨tb, 1, none⟩ [.slice ip il ic] ∧ hcs h ⟨tb, 0, none⟩ [.int .i64 key] :=
 ⟨Sat.cs hs tc rfl, tok_row hs tt, hcs_one (hs.ld tt rfl), hcs_one (hs.ld tt rfl), hcs_one (hs.ld tt rfl)⟩
theorem narrow_sp {Q : Int → Option Addr → Nat → Nat → Option Addr → Nat → Nat → List Int → Int → H → Prop} {key : Int} {id tag : List Int} {cs : List CvM} {ip cp : Option Addr} {il ic cl cc : Nat} (c : CvM) (hs : Sat h0 A h) (ht : tag.length = 32) (hl : cl < 2 ^ 40) (hi : il < 2 ^ 47)
  (ri : ∀ h', Sat h0 A h' → hsv h' ip 1 il (ints .u8 id)) (rc : ∀ h', Sat h0 A h' → hsv h' cp 5 cl (cvsV cs))
  (k1 : 32 ≤ cs.length → ∀ h', Sat h0 A h' → Q 0 none 0 0 none 0 0 (zeros 32) 3 h')
  (k2 : cs.length < 32 → ¬ c.may → ∀ h', Sat h0 A h' → Q 0 none 0 0 none 0 0 (zeros 32) 1 h')
  (k3 : cs.length < 32 → c.may → ∀ p1 c1 p2 c2 h', Sat h0 (slE p2 (cl + 1) c2 5 (cvsV (cs ++ [c])) :: slE p1 il c1 1 (ints .u8 id) :: A) h' → Q key p1 il c1 p2 (cl + 1) c2 (macM tag (cbM c)) 0 h') :
  F_token_Token_Narrow key ip il ic cp cl cc tag c.kind c.slot c.frm c.to c.set Q h := by
 unfold F_token_Token_Narrow G_token_Token_Narrow
 try simp only [add_mk, Nat.zero_add, List.append_nil]
 have hcl : cs.length = cl := by have := (rc _ hs).1; rw [cvsV_len] at this; omega
 intro tb _ hn; replace hs := Sat.new hs hn; clear hn
 intro cb _ hn; replace hs := Sat.new hs hn; clear hn
 intro zb _ hn; replace hs := Sat.new hs hn; clear hn
 replace hs : Sat h0 (blk zb tok0 :: blk cb (cvV c) :: blk tb (tokL key ip il ic cp cl cc tag) :: A) _ := hs
 have bad : ∀ (e : Int) h', Sat h0 (blk zb tok0 :: blk cb (cvV c) :: blk tb (tokL key ip il ic cp cl cc tag) :: A) h' → (∀ h', Sat h0 A h' → Q 0 none 0 0 none 0 0 (zeros 32) e h') →
   hcan h' ⟨zb, 0, none⟩ 35 ∧ ∀ h31 : H, h31 = hwr h' ⟨zb, 0, none⟩ tok0 → ∃ i33 : Int, hc h31 ⟨zb, 0, none⟩ = some (.int .i64 i33) ∧ ∃ (o34 : Option Addr) (n35 n36 : Nat), hc h31 ⟨zb, 1, none⟩ = some (.slice o34 n35 n36) ∧ ∃ (o37 : Option Addr) (n38 n39 : Nat), hc h31 ⟨zb, 2, none⟩ = some (.slice o37 n38 n39) ∧
    ∃ l40 : List Int, l40.length = 32 ∧ hrow h31 ⟨zb, 3, none⟩ .u8 l40 ∧ Q i33 o34 n35 n36 o37 n38 n39 l40 e h31 := by
  intro e h2 hs kk
  refine ⟨Sat.can hs (i := 0) .z (by simp [zeros]), ?_⟩
  intro h3 e3
  replace hs := Sat.wra hs (i := 0) .z e3 rfl
  clear e3
  rw [put_zero] at hs
  exact ⟨_, hs.ld (i := 0) .z rfl, _, _, _, hs.ld (i := 0) .z rfl, _, _, _, hs.ld (i := 0) .z rfl, _, zeros_len 32, tok_row hs (i := 0) .z, kk _ hs.drop.drop.drop⟩
 refine ⟨_, _, _, hs.ld (i := 2) (.s (.s .z)) rfl, ?_⟩
 rw [leI_eq]
 by_cases g : 32 ≤ cl
 ·rw [if_pos (by simp; omega)]
  exact bad 3 _ hs (k1 (by omega))
 rw [if_neg (by simp; omega)]
 refine ⟨_, hs.ld (i := 1) (.s .z) rfl, _, hs.ld (i := 1) (.s .z) rfl, _, hs.ld (i := 1) (.s .z) rfl, _, hs.ld (i := 1) (.s .z) rfl, _, hs.ld (i := 1) (.s .z) rfl, ?_⟩
 refine CMay_sp c hs ?_
 intro h1 hs
 by_cases gm : c.may
 case neg =>
  rw [if_pos (by simp [gm])]
  exact bad 1 _ hs (k2 (by omega) gm)
 rw [if_neg (by simp [gm])]
 have K := k3 (by omega) gm
 clear bad k1 k2 k3
 have fin : ∀ (p1 : Option Addr) (c1 : Nat) (p2 : Option Addr) (c2 : Nat) (h' : H), Sat h0 (slE p2 (cl + 1) c2 5 (cvsV (cs ++ [c])) :: slE p1 il c1 1 (ints .u8 id) :: blk zb tok0 :: blk cb (cvV c) :: blk tb (tokL key ip il ic cp cl cc tag) :: A) h' →
   hcs h' ⟨cb, 0, none⟩ (cvV c) ∧ hcs h' ⟨tb, 3, none⟩ (ints .u8 tag) ∧ hcs h' ⟨tb, 0, none⟩ [.int .i64 key] ∧ F_token_next tag c.kind c.slot c.frm c.to c.set (fun l92 h93 => hcs h93 ⟨tb, 0, none⟩ [.int .i64 key] ∧ hcan h93 ⟨zb, 0, none⟩ 35 ∧
    ∀ h94 : H, h94 = hwr h93 ⟨zb, 0, none⟩ (.int .i64 key :: .slice p1 il c1 :: .slice p2 (cl + 1) c2 :: ints .u8 l92) → ∃ i96 : Int, hc h94 ⟨zb, 0, none⟩ = some (.int .i64 i96) ∧ ∃ (o97 : Option Addr) (n98 n99 : Nat), hc h94 ⟨zb, 1, none⟩ = some (.slice o97 n98 n99) ∧
     ∃ (o100 : Option Addr) (n101 n102 : Nat), hc h94 ⟨zb, 2, none⟩ = some (.slice o100 n101 n102) ∧ ∃ l103 : List Int, l103.length = 32 ∧ hrow h94 ⟨zb, 3, none⟩ .u8 l103 ∧ Q i96 o97 n98 n99 o100 n101 n102 l103 0 h94) h' := by
  intro p1 c1 p2 c2 h2 hs
  obtain ⟨x1, x2, x3, x4, x5⟩ := ckN hs (i := 4) (j := 3) (.s (.s (.s (.s .z)))) (.s (.s (.s .z)))
  refine ⟨x1, x2, x5, ?_⟩
  refine next_sp24 c ht hs ?_
  intro h3 hs
  obtain ⟨x1, x2, x3, x4, x5⟩ := ckN hs (i := 4) (j := 3) (.s (.s (.s (.s .z)))) (.s (.s (.s .z)))
  refine ⟨x5, Sat.can hs (i := 2) (.s (.s .z)) (by simp [zeros]), ?_⟩
  intro h4 e
  replace hs := Sat.wra hs (i := 2) (.s (.s .z)) e (by simp [zeros, macM_len])
  clear e
  simp only [put_succ, put_zero] at hs
  replace hs : Sat h0 (slE p2 (cl + 1) c2 5 (cvsV (cs ++ [c])) :: slE p1 il c1 1 (ints .u8 id) :: blk zb (tokL key p1 il c1 p2 (cl + 1) c2 (macM tag (cbM c))) :: blk cb (cvV c) :: blk tb (tokL key ip il ic cp cl cc tag) :: A) h4 := hs
  refine ⟨_, hs.ld (i := 2) (.s (.s .z)) rfl, _, _, _, hs.ld (i := 2) (.s (.s .z)) rfl, _, _, _, hs.ld (i := 2) (.s (.s .z)) rfl, _, macM_len _ _, tok_row hs (i := 2) (.s (.s .z)), ?_⟩
  exact K _ _ _ _ _ (hs.sub (by (repeat (first | exact List.Sublist.refl _ | apply List.Sublist.cons_cons | apply List.Sublist.cons))))
 have ecs : cvsV (cs ++ [c]) = cvsV cs ++ cvV c := by rw [cvsV_app]; simp [cvsV]
 refine ⟨_, hs.ld (i := 2) (.s (.s .z)) rfl, _, _, _, hs.ld (i := 2) (.s (.s .z)) rfl, _, _, _, hs.ld (i := 2) (.s (.s .z)) rfl, ?_⟩
 refine ⟨_, hs.ld (i := 1) (.s .z) rfl, _, hs.ld (i := 1) (.s .z) rfl, _, hs.ld (i := 1) (.s .z) rfl, _, hs.ld (i := 1) (.s .z) rfl, _, hs.ld (i := 1) (.s .z) rfl, ?_⟩
 refine ⟨tag, ht, tok_row hs (i := 2) (.s (.s .z)), ?_⟩
 refine ⟨_, hs.ld (i := 1) (.s .z) rfl, _, hs.ld (i := 1) (.s .z) rfl, _, hs.ld (i := 1) (.s .z) rfl, _, hs.ld (i := 1) (.s .z) rfl, _, hs.ld (i := 1) (.s .z) rfl, ?_⟩
 have cv1 : ∀ v, v ∈ cvV c → v.oneCell' = true := by
  intro v hv
  simp only [List.mem_cons, List.not_mem_nil, or_false] at hv
  rcases hv with rfl | rfl | rfl | rfl | rfl <;> rfl
 refine ⟨?_, ?_⟩
 ·refine clone1_sp (vs := ints .u8 id) hs (by omega) (fun h' hs' => ri _ hs'.drop.drop.drop) ?_
  intro p1 c1 h2 _ hs
  obtain ⟨x1, x2, x3, x4, x5⟩ := ckN hs (i := 3) (j := 2) (.s (.s (.s .z))) (.s (.s .z))
  refine ⟨x1, x2, x1, x3, x5, ?_, ?_⟩
  ·refine clone5_sp (vs := cvsV cs) hs hl (fun h' hs' => rc _ hs'.drop.drop.drop.drop) ?_
   intro p2 c2 h3 hs
   obtain ⟨x1, x2, x3, x4, x5⟩ := ckN hs (i := 4) (j := 3) (.s (.s (.s (.s .z)))) (.s (.s (.s .z)))
   refine ⟨x1, x2, x1, x5, ?_⟩
   intro bb _ hn; replace hs := Sat.new hs hn; clear hn
   obtain ⟨x1, x2, x3, x4, x5⟩ := ckN hs (i := 5) (j := 4) (.s (.s (.s (.s (.s .z))))) (.s (.s (.s (.s .z))))
   refine ⟨x1, x2, x5, _, hs.bv (i := 0) (l := 1) (sz := 5) .z rfl cv1, ?_⟩
   refine Sat.app hs (i := 1) (vs := cvV c) (.s .z) rfl rfl cv1 (by omega) ?_
   intro p3 c3 h4 hs
   simp only [put_succ, put_zero] at hs
   rw [← ecs] at hs
   exact fin _ _ _ _ _ hs.drop
  ·intro bb _ hn; replace hs := Sat.new hs hn; clear hn
   obtain ⟨x1, x2, x3, x4, x5⟩ := ckN hs (i := 4) (j := 3) (.s (.s (.s (.s .z)))) (.s (.s (.s .z)))
   refine ⟨x1, x2, x3, x5, ?_⟩
   refine clone5_sp (vs := cvsV cs) hs hl (fun h' hs' => rc _ hs'.drop.drop.drop.drop.drop) ?_
   intro p2 c2 h3 hs
   obtain ⟨x1, x2, x3, x4, x5⟩ := ckN hs (i := 5) (j := 4) (.s (.s (.s (.s (.s .z))))) (.s (.s (.s (.s .z))))
   refine ⟨x1, x2, x5, _, hs.bv (i := 1) (l := 1) (sz := 5) (.s .z) rfl cv1, ?_⟩
   refine Sat.app hs (i := 0) (vs := cvV c) .z rfl rfl cv1 (by omega) ?_
   intro p3 c3 h4 hs
   simp only [put_succ, put_zero] at hs
   rw [← ecs] at hs
   exact fin _ _ _ _ _ (hs.sub (by (repeat (first | exact List.Sublist.refl _ | apply List.Sublist.cons_cons | apply List.Sublist.cons))))
 ·intro bb _ hn; replace hs := Sat.new hs hn; clear hn
  obtain ⟨x1, x2, x3, x4, x5⟩ := ckN hs (i := 3) (j := 2) (.s (.s (.s .z))) (.s (.s .z))
  refine ⟨x1, x2, x3, x4, x5, ?_⟩
  refine clone1_sp (vs := ints .u8 id) hs (by omega) (fun h' hs' => ri _ hs'.drop.drop.drop.drop) ?_
  intro p1 c1 h2 _ hs
  obtain ⟨x1, x2, x3, x4, x5⟩ := ckN hs (i := 4) (j := 3) (.s (.s (.s (.s .z)))) (.s (.s (.s .z)))
  refine ⟨x1, x2, x3, x5, ?_⟩
  refine clone5_sp (vs := cvsV cs) hs hl (fun h' hs' => rc _ hs'.drop.drop.drop.drop.drop) ?_
  intro p2 c2 h3 hs
  obtain ⟨x1, x2, x3, x4, x5⟩ := ckN hs (i := 5) (j := 4) (.s (.s (.s (.s (.s .z))))) (.s (.s (.s (.s .z))))
  refine ⟨x1, x2, x5, _, hs.bv (i := 2) (l := 1) (sz := 5) (.s (.s .z)) rfl cv1, ?_⟩
  refine Sat.app hs (i := 0) (vs := cvV c) .z rfl rfl cv1 (by omega) ?_
  intro p3 c3 h4 hs
  simp only [put_succ, put_zero] at hs
  rw [← ecs] at hs
  exact fin _ _ _ _ _ (hs.sub (by (repeat (first | exact List.Sublist.refl _ | apply List.Sublist.cons_cons | apply List.Sublist.cons))))
end
end Go.Proofs.YtaglicdidpgkpaaGreatDoor
end

/- Tokens: Get. Own work. -/
section
set_option maxRecDepth 100000
set_option linter.unusedVariables false
namespace Go.Proofs.YtaglicdidpgkpaaGreatDoor
open Go Go.Vc

def nuM (b : List Int) : Nat → Int
 | 0 => 0
 | t + 1 => bits .or .u64 (nuM b t) (IntKind.u64.wrap (IntKind.u64.wrap (b.getD t 0) * 2 ^ min (8 * t) 64))
def standsM (at_ : Nat) (c : Int) : Bool := if at_ = 5 then decide (c < 64) else if at_ = 6 then decide (1 ≤ c ∧ c ≤ 64) else if at_ = 7 then decide (c ≤ 32) else c == ([80, 67, 84, 75, 1] : List Int).getD at_ 0
def gHead (bs : List Int) : Nat → Option (Int × Int)
 | 0 => none
 | k + 1 => if 8 - (k + 1) = bs.length then some (6, bs.length) else if standsM (8 - (k + 1)) (bs.getD (8 - (k + 1)) 0) = true then gHead bs k else some (5, ((8 - (k + 1) : Nat) : Int))
def cvAt (bs : List Int) (a : Nat) : CvM :=
 ⟨IntKind.i64.wrap (bs.getD a 0), IntKind.i64.wrap (bs.getD (a + 1) 0), IntKind.i64.wrap (nuM (bs.drop (a + 2)) 8), IntKind.i64.wrap (nuM (bs.drop (a + 10)) 8), nuM (bs.drop (a + 18)) 8⟩
def gCavs (bs : List Int) : Nat → Nat → List CvM → Except (Int × Int) (Nat × List CvM)
 | 0, a, cs => .ok (a, cs)
 | n + 1, a, cs => if bs.length < a + 26 then .error (6, bs.length) else if (cvAt bs a).may then gCavs bs n (a + 26) (cs ++ [cvAt bs a]) else .error (5, a)
structure TkM where
 key : Int
 id : List Int
 cs : List CvM
 tag : List Int
def gRest (bs : List Int) (a : Nat) (cs : List CvM) : Except (Int × Int) TkM :=
 if bs.length < a + 32 then .error (6, bs.length) else if a + 32 < bs.length then .error (7, ((a + 32 : Nat) : Int)) else .ok ⟨bs.getD 5 0, (bs.drop 8).take (bs.getD 6 0).toNat, cs, (bs.drop a).take 32⟩
def tgetM (bs : List Int) : Except (Int × Int) TkM :=
 match gHead bs 8 with
 | some e => .error e
 | none => if bs.length < 8 + (bs.getD 6 0).toNat then .error (6, bs.length) else
  match gCavs bs (bs.getD 7 0).toNat (8 + (bs.getD 6 0).toNat) [] with
  | .error e => .error e
  | .ok (a, cs) => gRest bs a cs
def isBytes (bs : List Int) : Prop := ∀ n, n ∈ bs → 0 ≤ n ∧ n < 256
theorem isB_get {bs : List Int} (hb : isBytes bs) (x : Nat) : 0 ≤ bs.getD x 0 ∧ bs.getD x 0 < 256 := by
 rw [List.getD_eq_getElem?_getD]
 cases e : bs[x]? with
 | none => exact ⟨by decide, by decide⟩
 | some v => exact hb v (List.mem_iff_getElem?.2 ⟨x, e⟩)
section
variable {h0 h : H} {A : List Ent} {i j d : Nat}
theorem number24_sp {Q : Int → H → Prop} {p : Option Addr} {l c : Nat} {bs : List Int} (rd : hsv h p 1 l (ints .u8 bs)) (hl : 8 ≤ l) (q : Q (nuM bs 8) h) : F_token_number p l c Q h := by
 unfold F_token_number G_token_number
 intro J hJ
 refine loopS 8 (fun t (x : Int) => [.dv (.one (.int .u64 x)), si t]) (fun t x h' => x = nuM bs t ∧ h' = h) ?_ ?_ 0 0 _ (by omega) ⟨rfl, rfl⟩
 ·rintro t x h1 ht ⟨hx, hh⟩ hk
  subst hx hh
  apply hJ
  rw [ltI_eq, if_pos (by simp; omega)]
  obtain ⟨q1, hq1, g⟩ := hsvI rd (x := t) (by omega)
  have e8 : IntKind.i64.wrap (8 * (t : Int)) = ((8 * t : Nat) : Int) := by rw [wrap_id (by omega)]; push_cast; rfl
  rw [e8]
  simp only [Int.toNat_natCast, Nat.mul_one]
  refine ⟨q1, hq1, by omega, by omega, _, g, by omega, ?_⟩
  rw [wrap_succ (by omega)]
  exact hk _ _ ⟨rfl, rfl⟩
 ·rintro x h1 ⟨hx, hh⟩
  subst hx hh
  apply hJ
  rw [ltI_eq, if_neg (by decide)]
  exact q
theorem stands_sp {Q : Bool → H → Prop} (t : Nat) (c : Int) (ht : t < 8) (q : Q (standsM t c) h) : F_token_stands (t : Int) c Q h := by
 unfold F_token_stands G_token_stands
 unfold standsM at q
 by_cases c5 : t = 5
 ·rw [if_pos c5] at q
  rw [if_pos (by simp [c5]), ltI_eq]
  exact q
 rw [if_neg c5] at q
 rw [if_neg (by simp; omega)]
 by_cases c6 : t = 6
 ·rw [if_pos c6] at q
  rw [if_pos (by simp [c6]), leI_eq]
  by_cases g : 1 ≤ c
  ·rw [if_pos (by simpa using g), leI_eq]
   simpa [g] using q
  ·rw [if_neg (by simpa using g)]
   simpa [g] using q
 rw [if_neg c6] at q
 rw [if_neg (by simp; omega)]
 by_cases c7 : t = 7
 ·rw [if_pos c7] at q
  rw [if_pos (by simp [c7]), leI_eq]
  exact q
 rw [if_neg c7] at q
 rw [if_neg (by simp; omega)]
 refine ⟨by omega, by omega, ?_⟩
 rw [Int.toNat_natCast]
 have : t = 0 ∨ t = 1 ∨ t = 2 ∨ t = 3 ∨ t = 4 := by omega
 rcases this with rfl | rfl | rfl | rfl | rfl <;> exact q
theorem gHead_at (bs : List Int) {t : Nat} (ht : t < 8) : gHead bs (8 - t) = if t = bs.length then some (6, (bs.length : Int)) else if standsM t (bs.getD t 0) = true then gHead bs (8 - (t + 1)) else some (5, (t : Int)) := by
 obtain ⟨k, hk⟩ : ∃ k, 8 - t = k + 1 := ⟨7 - t, by omega⟩
 rw [hk]
 show (if 8 - (k + 1) = bs.length then _ else _) = _
 rw [show 8 - (k + 1) = t by omega, show 8 - (t + 1) = k by omega]
theorem gCavs_at (bs : List Int) {n t a : Nat} (cs : List CvM) (ht : t < n) : gCavs bs (n - t) a cs = if bs.length < a + 26 then .error (6, (bs.length : Int)) else if (cvAt bs a).may then gCavs bs (n - (t + 1)) (a + 26) (cs ++ [cvAt bs a]) else .error (5, (a : Int)) := by
 obtain ⟨k, hk⟩ : ∃ k, n - t = k + 1 := ⟨n - t - 1, by omega⟩
 rw [hk]
 show (if bs.length < a + 26 then _ else _) = _
 rw [show n - (t + 1) = k by omega]
theorem nuM_congr {a b : List Int} : ∀ {t : Nat}, (∀ x, x < t → a.getD x 0 = b.getD x 0) → nuM a t = nuM b t
 | 0, _ => rfl
 | t + 1, h => by
  show bits .or .u64 (nuM a t) _ = bits .or .u64 (nuM b t) _
  rw [nuM_congr (t := t) fun x hx => h x (by omega), h t (by omega)]
theorem dropD (bs : List Int) (o n x : Nat) (hx : x < n) : ((bs.drop o).take n).getD x 0 = bs.getD (o + x) 0 := by
 rw [List.getD_eq_getElem?_getD, List.getD_eq_getElem?_getD, List.getElem?_take_of_lt hx, List.getElem?_drop]
theorem dropD' (bs : List Int) (o x : Nat) : (bs.drop o).getD x 0 = bs.getD (o + x) 0 := by
 rw [List.getD_eq_getElem?_getD, List.getD_eq_getElem?_getD, List.getElem?_drop]
theorem tok_tag {key : Int} {ip cp : Option Addr} {il ic cl cc : Nat} {tag : List Int} (ht : tag.length = 32) : splice (tokL key ip il ic cp cl cc (zeros 32)) 3 (ints .u8 tag) = tokL key ip il ic cp cl cc tag := by
 apply List.ext_getElem?
 intro x
 rw [splice_get, ints_length, ht]
 have e35 : (tokL key ip il ic cp cl cc (zeros 32)).length = 35 := by simp [zeros]
 have e35' : (tokL key ip il ic cp cl cc tag).length = 35 := by simp [ht]
 by_cases c : 3 ≤ x ∧ x < 3 + 32 ∧ x < (tokL key ip il ic cp cl cc (zeros 32)).length
 ·rw [if_pos c]
  obtain ⟨y, rfl⟩ : ∃ y, x = y + 1 + 1 + 1 := ⟨x - 3, by omega⟩
  show _ = (Value.int .i64 key :: .slice ip il ic :: .slice cp cl cc :: ints .u8 tag)[y + 1 + 1 + 1]?
  rw [List.getElem?_cons_succ, List.getElem?_cons_succ, List.getElem?_cons_succ]
  congr 1
 ·rw [if_neg c]
  match x with
  | 0 => rfl
  | 1 => rfl
  | 2 => rfl
  | x + 3 => rw [List.getElem?_eq_none (by omega), List.getElem?_eq_none (by omega)]
theorem tok_cs {key : Int} {ip cp cp' : Option Addr} {il ic cl cc cl' cc' : Nat} {tag : List Int} : splice (tokL key ip il ic cp cl cc tag) 2 [.slice cp' cl' cc'] = tokL key ip il ic cp' cl' cc' tag := rfl
abbrev wrongT : TypeId := 200
theorem get_sp {Q : Int → Option Addr → Nat → Nat → Option Addr → Nat → Nat → List Int → Value → H → Prop} {bs : List Int} {p : Option Addr} {l c : Nat} (hs : Sat h0 A h) (hb : isBytes bs) (hlc : l ≤ c) (hl : l < 2 ^ 47) (rd : ∀ h', Sat h0 A h' → hsv h' p 1 l (ints .u8 bs))
  (kE : ∀ e a, tgetM bs = .error (e, a) → ∀ w h', Sat h0 (blk w [.int .i64 e, .int .i64 a] :: A) h' → Q 0 none 0 0 none 0 0 (zeros 32) (.iface wrongT (.pointer (some ⟨w, 0, none⟩))) h')
  (kT : ∀ t, tgetM bs = .ok t → ∀ p1 c1 p2 l2 c2 h', t.cs.length = l2 → Sat h0 (slE p2 l2 c2 5 (cvsV t.cs) :: slE p1 t.id.length c1 1 (ints .u8 t.id) :: A) h' → t.tag.length = 32 → Q t.key p1 t.id.length c1 p2 l2 c2 t.tag .nilIface h') :
  F_token_Get p l c Q h := by
 unfold F_token_Get G_token_Get
 try simp only [add_mk, Nat.zero_add, List.append_nil]
 have hbl : bs.length = l := by have := (rd _ hs).1; simpa using this
 intro rb _ hn; replace hs := Sat.new hs hn; clear hn
 intro tb _ hn; replace hs := Sat.new hs hn; clear hn
 intro wb _ hn; replace hs := Sat.new hs hn; clear hn
 replace hs : Sat h0 (blk wb [.int .i64 6, .int .i64 (l : Int)] :: blk tb tok0 :: blk rb tok0 :: A) _ := hs
 intro J18 hJ18
 have bad : ∀ (w : Nat) (e a : Int) (h' : H), tgetM bs = .error (e, a) → (∃ x, Sat h0 (blk w [.int .i64 e, .int .i64 a] :: blk rb x :: A) h' ∧ x.length = 35) → J18 [.dv (.one (.pointer (some ⟨w, 0, none⟩)))] h' := by
  rintro w e a h2 he ⟨x, hs, hx⟩
  apply hJ18
  refine ⟨Sat.can hs (i := 1) (.s .z) (by omega), ?_⟩
  intro h3 e3
  replace hs := Sat.wra (xs := tok0) hs (i := 1) (.s .z) e3 (by rw [hx]; simp [zeros])
  clear e3
  simp only [put_succ, put_zero] at hs
  refine ⟨_, hs.ld (i := 1) (.s .z) rfl, _, _, _, hs.ld (i := 1) (.s .z) rfl, _, _, _, hs.ld (i := 1) (.s .z) rfl, _, zeros_len 32, tok_row hs (i := 1) (.s .z), ?_⟩
  exact kE e a he w h3 (hs.sub (by (repeat (first | exact List.Sublist.refl _ | apply List.Sublist.cons_cons | apply List.Sublist.cons))))
 clear kE hJ18
 have t35 : (tok0).length = 35 := by simp [zeros]
 intro J33 hJ33
 apply hJ33
 clear hJ33 J33
 intro J36 hJ36
 refine loopS 8 (fun t (_ : Unit) => [.dv (.one (.pointer (some ⟨wb, 0, none⟩))), si t]) (fun t _ h => gHead bs 8 = gHead bs (8 - t) ∧ t ≤ bs.length ∧ Sat h0 (blk wb [.int .i64 6, .int .i64 (l : Int)] :: blk tb tok0 :: blk rb tok0 :: A) h) ?_ ?_ 0 () _ (by omega) ⟨rfl, by omega, hs⟩
 ·rintro t _ h1 ht ⟨hg, htl, hs⟩ hk
  apply hJ36
  rw [ltI_eq, if_pos (by simp; omega)]
  rw [gHead_at bs ht] at hg
  by_cases ce : t = l
  ·rw [if_pos (by simp [ce])]
   rw [if_pos (by omega)] at hg
   refine bad wb 6 l h1 ?_ ⟨tok0, hs.sub (by (repeat (first | exact List.Sublist.refl _ | apply List.Sublist.cons_cons | apply List.Sublist.cons))), t35⟩
   unfold tgetM
   rw [hg, hbl]
  rw [if_neg (by simp; omega)]
  rw [if_neg (by omega)] at hg
  obtain ⟨q, hq, g⟩ := hsvI (rd _ hs.drop.drop.drop) (x := t) (by omega)
  refine ⟨q, hq, by omega, by omega, ?_⟩
  simp only [Int.toNat_natCast, Nat.mul_one]
  refine ⟨_, g, ?_⟩
  refine stands_sp t _ ht ?_
  by_cases cs : standsM t (bs.getD t 0) = true
  ·rw [if_pos cs] at hg
   rw [cs, if_neg (by decide), wrap_succ (by omega)]
   exact hk () _ ⟨hg, by omega, hs⟩
  ·rw [if_neg cs] at hg
   have cs' : standsM t (bs.getD t 0) = false := by simpa using cs
   rw [cs', if_pos (by decide)]
   intro nb _ hn; replace hs := Sat.new hs hn; clear hn
   refine bad nb 5 t _ ?_ ⟨tok0, hs.sub (by (repeat (first | exact List.Sublist.refl _ | apply List.Sublist.cons_cons | apply List.Sublist.cons))), t35⟩
   unfold tgetM
   rw [hg]
 rintro _ h1 ⟨hg, hl8, hs⟩
 apply hJ36
 rw [ltI_eq, if_neg (by decide)]
 clear hJ36 J36
 replace hg : gHead bs 8 = none := hg
 obtain ⟨q, hq, _⟩ := hsvI (rd _ hs.drop.drop.drop) (x := 0) (by omega)
 subst hq
 have rdx : ∀ h' x, Sat h0 A h' → x < l → hc h' (q.add x) = some (.int .u8 (bs.getD x 0)) := by
  intro h' x hs' hx
  obtain ⟨q', hq', g⟩ := hsvI (rd _ hs') (x := x) hx
  injection hq' with hq'
  subst hq'
  exact g
 obtain ⟨n6, hn6⟩ : ∃ n6, n6 = (bs.getD 6 0).toNat := ⟨_, rfl⟩
 obtain ⟨n7, hn7⟩ : ∃ n7, n7 = (bs.getD 7 0).toNat := ⟨_, rfl⟩
 have b5 := isB_get hb 5
 have b6 := isB_get hb 6
 have b7 := isB_get hb 7
 have tg : tgetM bs = if bs.length < 8 + n6 then .error (6, (bs.length : Int)) else match gCavs bs n7 (8 + n6) [] with | .error e => .error e | .ok (a, cs) => gRest bs a cs := by
  unfold tgetM
  rw [hg, hn6, hn7]
 have e86 : IntKind.i64.wrap (8 + IntKind.i64.wrap (bs.getD 6 0)) = ((8 + n6 : Nat) : Int) := by
  rw [wrap_id (n := bs.getD 6 0) (by omega), wrap_id (by omega)]; omega
 refine ⟨q, rfl, by decide, by omega, _, rdx _ 6 hs.drop.drop.drop (by omega), ?_⟩
 rw [e86, ltI_eq]
 by_cases c6 : l < 8 + n6
 ·rw [if_pos (by rw [decide_eq_true_iff]; omega)]
  refine bad wb 6 l h1 ?_ ⟨tok0, hs.sub (by (repeat (first | exact List.Sublist.refl _ | apply List.Sublist.cons_cons | apply List.Sublist.cons))), t35⟩
  rw [tg, if_pos (by omega), hbl]
 rw [if_neg (by rw [decide_eq_true_iff]; omega)]
 rw [if_neg (by omega)] at tg
 refine ⟨q, rfl, by decide, by omega, _, rdx _ 5 hs.drop.drop.drop (by omega), by decide, by omega, by omega, ?_⟩
 simp only [Int.toNat_natCast]
 rw [show 8 + n6 - 8 = n6 by omega]
 refine clone1_sp (vs := ints .u8 ((bs.drop 8).take n6)) hs (by omega) (fun h' hs' => subRd (o := 8) (n := n6) (m := c) (rd _ hs'.drop.drop.drop) (by omega) (by omega)) ?_
 intro p1 c1 h2 _ hs
 refine ⟨hcs_one (rdx _ 5 hs.drop.drop.drop.drop (by omega)), ?_⟩
 refine ⟨Sat.can hs (i := 2) (.s (.s .z)) (by simp [zeros]), ?_⟩
 intro h3 e
 replace hs := Sat.wra hs (i := 2) (.s (.s .z)) e (by simp [zeros])
 clear e
 rw [wrap_id (n := bs.getD 5 0) (by omega)] at hs
 simp only [put_succ, put_zero] at hs
 obtain ⟨id, hid⟩ : ∃ id, id = (bs.drop 8).take n6 := ⟨_, rfl⟩
 rw [← hid] at hs
 have hidl : id.length = n6 := by rw [hid]; simp; omega
 obtain ⟨key, hkey⟩ : ∃ key, key = bs.getD 5 0 := ⟨_, rfl⟩
 rw [← hkey] at hs
 replace hs : Sat h0 (slE p1 n6 c1 1 (ints .u8 id) :: blk wb [.int .i64 6, .int .i64 (l : Int)] :: blk tb (tokL key p1 n6 c1 none 0 0 (zeros 32)) :: blk rb tok0 :: A) h3 := hs
 refine ⟨q, rfl, by decide, by omega, _, rdx _ 7 hs.drop.drop.drop.drop (by omega), ?_⟩
 have e7 : IntKind.i64.wrap (bs.getD 7 0) = (n7 : Int) := by rw [wrap_id (by omega)]; omega
 rw [e7]
 intro J59 hJ59
 refine loopS n7 (fun t (_ : List CvM × Option Addr × Nat) => [.dv (.one (.pointer (some ⟨wb, 0, none⟩))), .dv (.one (.int .i64 ((8 + n6 + 26 * t : Nat) : Int))), si t])
  (fun t s h => s.1.length = t ∧ gCavs bs n7 (8 + n6) [] = gCavs bs (n7 - t) (8 + n6 + 26 * t) s.1 ∧ 8 + n6 + 26 * t ≤ l ∧ Sat h0 (slE s.2.1 t s.2.2 5 (cvsV s.1) :: slE p1 n6 c1 1 (ints .u8 id) :: blk wb [.int .i64 6, .int .i64 (l : Int)] :: blk tb (tokL key p1 n6 c1 s.2.1 t s.2.2 (zeros 32)) :: blk rb tok0 :: A) h) ?_ ?_ 0 ([], none, 0) _ (by omega)
  ⟨rfl, rfl, by omega, hs.sl_nil 5 none⟩
 ·rintro t ⟨cs, p2, c2⟩ h4 ht ⟨hcl, hgc, hal, hs⟩ hk
  dsimp only at hcl hgc hs hk ⊢
  apply hJ59
  rw [ltI_eq, if_pos (by simp; omega)]
  obtain ⟨a, ha⟩ : ∃ a, a = 8 + n6 + 26 * t := ⟨_, rfl⟩
  rw [← ha] at hgc hal ⊢
  rw [gCavs_at bs cs ht] at hgc
  have e26 : IntKind.i64.wrap ((a : Int) + 26) = ((a + 26 : Nat) : Int) := by rw [wrap_id (by omega)]; push_cast; rfl
  rw [e26, ltI_eq]
  by_cases cl : l < a + 26
  ·rw [if_pos (by rw [decide_eq_true_iff]; omega)]
   rw [if_pos (by omega)] at hgc
   refine bad wb 6 l h4 ?_ ⟨tok0, hs.sub (by (repeat (first | exact List.Sublist.refl _ | apply List.Sublist.cons_cons | apply List.Sublist.cons))), t35⟩
   rw [tg, hgc, hbl]
  rw [if_neg (by rw [decide_eq_true_iff]; omega)]
  rw [if_neg (by omega)] at hgc
  refine ⟨by omega, by omega, by omega, ?_⟩
  intro J64 hJ64
  obtain ⟨C, hC⟩ : ∃ C, C = cvAt bs a := ⟨_, rfl⟩
  rw [← hC] at hgc
  have wayC : ∀ (cb : Nat) h', Sat h0 (blk cb (cvV C) :: slE p2 t c2 5 (cvsV cs) :: slE p1 n6 c1 1 (ints .u8 id) :: blk wb [.int .i64 6, .int .i64 (l : Int)] :: blk tb (tokL key p1 n6 c1 p2 t c2 (zeros 32)) :: blk rb tok0 :: A) h' → J64 [.dv (.addr ⟨cb, 0, none⟩)] h' := by
   intro cb h5 hs
   apply hJ64
   clear hJ64 J64
   try simp only [add_mk, Nat.zero_add]
   refine ⟨_, hs.ld (i := 0) .z rfl, _, hs.ld (i := 0) .z rfl, _, hs.ld (i := 0) .z rfl, _, hs.ld (i := 0) .z rfl, _, hs.ld (i := 0) .z rfl, ?_⟩
   refine CMay_sp C hs ?_
   intro h6 hs
   by_cases gm : C.may
   case neg =>
    rw [if_pos (by simp [gm])]
    rw [if_neg gm] at hgc
    intro nb _ hn; replace hs := Sat.new hs hn; clear hn
    refine bad nb 5 a _ ?_ ⟨tok0, hs.sub (by (repeat (first | exact List.Sublist.refl _ | apply List.Sublist.cons_cons | apply List.Sublist.cons))), t35⟩
    rw [tg, hgc]
   rw [if_neg (by simp [gm])]
   rw [if_pos gm] at hgc
   refine ⟨_, _, _, hs.ld (i := 4) (.s (.s (.s (.s .z)))) rfl, ?_⟩
   refine ⟨_, hs.ld (i := 0) .z rfl, _, hs.ld (i := 0) .z rfl, _, hs.ld (i := 0) .z rfl, _, hs.ld (i := 0) .z rfl, _, hs.ld (i := 0) .z rfl, ?_⟩
   intro bb _ hn; replace hs := Sat.new hs hn; clear hn
   have cv1 : ∀ v, v ∈ cvV C → v.oneCell' = true := by
    intro v hv
    simp only [List.mem_cons, List.not_mem_nil, or_false] at hv
    rcases hv with rfl | rfl | rfl | rfl | rfl <;> rfl
   refine ⟨_, hs.bv (i := 0) (l := 1) (sz := 5) .z rfl cv1, ?_⟩
   refine Sat.app hs (i := 2) (vs := cvV C) (.s (.s .z)) rfl rfl cv1 (by omega) ?_
   intro p3 c3 h7 hs
   simp only [put_succ, put_zero] at hs
   replace hs := hs.drop.drop
   refine ⟨Sat.can hs (i := 3) (.s (.s (.s .z))) (by simp [zeros]), ?_⟩
   intro h8 e
   replace hs := Sat.wr hs (i := 3) (.s (.s (.s .z))) e
   clear e
   rw [tok_cs] at hs
   simp only [put_succ, put_zero] at hs
   rw [wrap_succ (by omega)]
   have K := hk (cs ++ [C], p3, c3) h8
   dsimp only at K
   rw [show 8 + n6 + 26 * (t + 1) = a + 26 by omega] at K
   refine K ⟨by simp [hcl], hgc, by omega, ?_⟩
   have ecs : cvsV (cs ++ [C]) = cvsV cs ++ cvV C := by rw [cvsV_app]; simp [cvsV]
   rw [ecs]
   exact hs
  clear hJ64 bad
  have base : ∀ h', Sat h0 A h' → hsv h' (subAddr (some q) a c 1) 1 26 (ints .u8 ((bs.drop a).take 26)) := fun h' hs' => subRd (o := a) (n := 26) (m := c) (rd _ hs') (by omega) (by omega)
  simp only [Int.toNat_natCast]
  rw [show a + 26 - a = 26 by omega]
  have nums : ∀ (o : Nat) h', o + 8 ≤ 26 → Sat h0 A h' → hsv h' (subAddr (subAddr (some q) a c 1) o (c - a) 1) 1 (26 - o) (ints .u8 ((((bs.drop a).take 26).drop o).take (26 - o))) := fun o h' ho hs' => subRd (o := o) (n := 26 - o) (m := c - a) (base _ hs') (by omega) (by omega)
  have numE : ∀ o, o + 8 ≤ 26 → nuM ((((bs.drop a).take 26).drop o).take (26 - o)) 8 = nuM (bs.drop (a + o)) 8 := by
   intro o ho
   refine nuM_congr fun x hx => ?_
   rw [dropD _ _ _ _ (by omega), dropD _ _ _ _ (by omega), dropD', Nat.add_assoc]
  have sa : subAddr (some q) a c 1 = some (q.add a) := by
   unfold subAddr
   rw [if_neg (by omega), Nat.mul_one]; rfl
  have rdA : ∀ h', Sat h0 A h' → hc h' (q.add a) = some (.int .u8 (bs.getD a 0)) := fun h' hs' => rdx _ a hs' (by omega)
  have rdB : ∀ h', Sat h0 A h' → hc h' ((q.add a).add 1) = some (.int .u8 (bs.getD (a + 1) 0)) := fun h' hs' => by rw [addAdd]; exact rdx _ (a + 1) hs' (by omega)
  have SA := hs.drop.drop.drop.drop.drop
  refine ⟨_, sa, by decide, by omega, _, rdA _ SA, _, sa, by decide, by omega, _, rdB _ SA, by decide, by omega, by decide, by omega, by decide, by omega, ?_⟩
  have fin : ∀ (cb : Nat) (x : List Value) h', x.length = 5 → Sat h0 (blk cb x :: slE p2 t c2 5 (cvsV cs) :: slE p1 n6 c1 1 (ints .u8 id) :: blk wb [.int .i64 6, .int .i64 (l : Int)] :: blk tb (tokL key p1 n6 c1 p2 t c2 (zeros 32)) :: blk rb tok0 :: A) h' →
    hcan h' ⟨cb, 0, none⟩ 5 ∧ ∀ h110 : H, h110 = hwr h' ⟨cb, 0, none⟩ [.int .i64 (IntKind.i64.wrap (bs.getD a 0)), .int .i64 (IntKind.i64.wrap (bs.getD (a + 1) 0)), .int .i64 (IntKind.i64.wrap (nuM ((((bs.drop a).take 26).drop 2).take (26 - 2)) 8)), .int .i64 (IntKind.i64.wrap (nuM ((((bs.drop a).take 26).drop 10).take (26 - 10)) 8)), .int .u64 (nuM ((((bs.drop a).take 26).drop 18).take (26 - 18)) 8)] → J64 [.dv (.addr ⟨cb, 0, none⟩)] h110 := by
   intro cb x h5 hx hs
   refine ⟨Sat.can hs (i := 0) .z (by omega), ?_⟩
   intro h6 e
   replace hs := Sat.wra hs (i := 0) .z e (by rw [hx]; rfl)
   clear e
   rw [put_zero, numE 2 (by decide), numE 10 (by decide), numE 18 (by decide)] at hs
   refine wayC cb h6 ?_
   rw [hC]
   exact hs
  refine ⟨?_, ?_⟩
  ·refine number24_sp (nums 2 _ (by decide) SA) (by decide) ?_
   refine ⟨hcs_one (rdB _ SA), hcs_one (rdA _ SA), ?_, ?_⟩
   ·refine number24_sp (nums 10 _ (by decide) SA) (by decide) ?_
    refine ⟨hcs_one (rdB _ SA), hcs_one (rdA _ SA), ?_, ?_⟩
    ·refine number24_sp (nums 18 _ (by decide) SA) (by decide) ?_
     refine ⟨hcs_one (rdB _ SA), hcs_one (rdA _ SA), ?_⟩
     intro cb _ hn; replace hs := Sat.new hs hn; clear hn
     have SB := hs.drop.drop.drop.drop.drop.drop
     refine ⟨hcs_one (rdB _ SB), hcs_one (rdA _ SB), ?_⟩
     exact fin cb _ _ rfl hs
    ·intro cb _ hn; replace hs := Sat.new hs hn; clear hn
     have SB := hs.drop.drop.drop.drop.drop.drop
     refine ⟨hcs_one (rdB _ SB), hcs_one (rdA _ SB), ?_⟩
     refine number24_sp (nums 18 _ (by decide) SB) (by decide) ?_
     refine ⟨hcs_one (rdB _ SB), hcs_one (rdA _ SB), ?_⟩
     exact fin cb _ _ rfl hs
   ·intro cb _ hn; replace hs := Sat.new hs hn; clear hn
    have SB := hs.drop.drop.drop.drop.drop.drop
    refine ⟨hcs_one (rdB _ SB), hcs_one (rdA _ SB), ?_⟩
    refine number24_sp (nums 10 _ (by decide) SB) (by decide) ?_
    refine ⟨hcs_one (rdB _ SB), hcs_one (rdA _ SB), ?_⟩
    refine number24_sp (nums 18 _ (by decide) SB) (by decide) ?_
    refine ⟨hcs_one (rdB _ SB), hcs_one (rdA _ SB), ?_⟩
    exact fin cb _ _ rfl hs
  ·intro cb _ hn; replace hs := Sat.new hs hn; clear hn
   have SB := hs.drop.drop.drop.drop.drop.drop
   refine ⟨hcs_one (rdB _ SB), hcs_one (rdA _ SB), ?_⟩
   refine number24_sp (nums 2 _ (by decide) SB) (by decide) ?_
   refine ⟨hcs_one (rdB _ SB), hcs_one (rdA _ SB), ?_⟩
   refine number24_sp (nums 10 _ (by decide) SB) (by decide) ?_
   refine ⟨hcs_one (rdB _ SB), hcs_one (rdA _ SB), ?_⟩
   refine number24_sp (nums 18 _ (by decide) SB) (by decide) ?_
   refine ⟨hcs_one (rdB _ SB), hcs_one (rdA _ SB), ?_⟩
   exact fin cb _ _ rfl hs
 ·rintro ⟨cs, p2, c2⟩ h4 ⟨hcl, hgc, hal, hs⟩
  dsimp only at hcl hgc hs ⊢
  apply hJ59
  rw [ltI_eq, if_neg (by simp)]
  clear hJ59 J59
  obtain ⟨a, ha⟩ : ∃ a, a = 8 + n6 + 26 * n7 := ⟨_, rfl⟩
  rw [← ha] at hgc hal ⊢
  rw [Nat.sub_self] at hgc
  replace hgc : gCavs bs n7 (8 + n6) [] = .ok (a, cs) := hgc
  have tg2 : tgetM bs = gRest bs a cs := by rw [tg, hgc]
  unfold gRest at tg2
  have e32 : IntKind.i64.wrap ((a : Int) + 32) = ((a + 32 : Nat) : Int) := by rw [wrap_id (by omega)]; push_cast; rfl
  rw [e32, ltI_eq]
  by_cases cl : l < a + 32
  ·rw [if_pos (by rw [decide_eq_true_iff]; omega)]
   rw [if_pos (by omega)] at tg2
   exact bad wb 6 l h4 (by rw [tg2, hbl]) ⟨tok0, hs.sub (by (repeat (first | exact List.Sublist.refl _ | apply List.Sublist.cons_cons | apply List.Sublist.cons))), t35⟩
  rw [if_neg (by rw [decide_eq_true_iff]; omega)]
  rw [if_neg (by omega)] at tg2
  simp only [Int.toNat_natCast]
  rw [show (l - a).min 32 = 32 from Nat.min_eq_right (by omega)]
  have tagR := subRd (o := a) (n := 32) (m := c) (rd _ hs.drop.drop.drop.drop.drop) (by omega) (by omega)
  obtain ⟨tag, htag⟩ : ∃ tag, tag = (bs.drop a).take 32 := ⟨_, rfl⟩
  rw [← htag] at tagR tg2
  have htl : tag.length = 32 := by rw [htag]; simp; omega
  refine ⟨by omega, by omega, _, tagR, Or.inr ⟨_, rfl, Sat.can hs (i := 3) (.s (.s (.s .z))) (by simp [zeros])⟩, ?_⟩
  intro h5 e
  replace hs := Sat.wr hs (i := 3) (.s (.s (.s .z))) e
  clear e
  rw [tok_tag htl] at hs
  simp only [put_succ, put_zero] at hs
  have e32' : IntKind.i64.wrap ((a : Int) + ((32 : Nat) : Int)) = ((a + 32 : Nat) : Int) := by rw [wrap_id (by omega)]; push_cast; rfl
  rw [e32', ltI_eq]
  by_cases cr : a + 32 < l
  ·rw [if_pos (by rw [decide_eq_true_iff]; omega)]
   rw [if_pos (by omega)] at tg2
   intro nb _ hn; replace hs := Sat.new hs hn; clear hn
   exact bad nb 7 _ _ tg2 ⟨tok0, hs.sub (by (repeat (first | exact List.Sublist.refl _ | apply List.Sublist.cons_cons | apply List.Sublist.cons))), t35⟩
  rw [if_neg (by rw [decide_eq_true_iff]; omega)]
  rw [if_neg (by omega)] at tg2
  have t3 := At.s (x := slE p2 n7 c2 5 (cvsV cs)) (At.s (x := slE p1 n6 c1 1 (ints .u8 id)) (At.s (x := blk wb [.int .i64 6, .int .i64 (l : Int)]) (At.z (A := blk rb tok0 :: A) (e := blk tb (tokL key p1 n6 c1 p2 n7 c2 tag)))))
  refine ⟨_, hs.ld t3 rfl, _, _, _, hs.ld t3 rfl, _, _, _, hs.ld t3 rfl, tag, htl, tok_row hs t3, ?_⟩
  refine ⟨Sat.can hs (i := 4) (.s (.s (.s (.s .z)))) (by simp [zeros]), ?_⟩
  intro h6 e
  replace hs := Sat.wra (xs := tokL key p1 n6 c1 p2 n7 c2 tag) hs (i := 4) (.s (.s (.s (.s .z)))) e (by simp [zeros, htl])
  clear e
  simp only [put_succ, put_zero] at hs
  have t4 := At.s (x := slE p2 n7 c2 5 (cvsV cs)) (At.s (x := slE p1 n6 c1 1 (ints .u8 id)) (At.s (x := blk wb [.int .i64 6, .int .i64 (l : Int)]) (At.s (x := blk tb (tokL key p1 n6 c1 p2 n7 c2 tag)) (At.z (A := A) (e := blk rb (tokL key p1 n6 c1 p2 n7 c2 tag))))))
  refine ⟨_, hs.ld t4 rfl, _, _, _, hs.ld t4 rfl, _, _, _, hs.ld t4 rfl, tag, htl, tok_row hs t4, ?_⟩
  rw [← hn6, ← hid, ← hkey] at tg2
  have K := kT _ tg2 p1 c1 p2 n7 c2 h6 hcl
  dsimp only at K
  rw [hidl] at K
  exact K (hs.sub (by (repeat (first | exact List.Sublist.refl _ | apply List.Sublist.cons_cons | apply List.Sublist.cons)))) htl
end
end Go.Proofs.YtaglicdidpgkpaaGreatDoor
end

/- Tokens: errors, and answers that the document fixes. Own work. -/
section
set_option maxRecDepth 1000000
set_option linter.unusedVariables false
namespace Go.Proofs.YtaglicdidpgkpaaGreatDoor
open Go Go.Vc

theorem nIF (t : TypeId) (v : Value) : ¬ isNilI (.iface t v) = true := Bool.false_ne_true
theorem oM_bytes (s : List Int) : ∀ t, isBytes (oM s t)
 | 0 => by
  intro n hn
  have hn : n ∈ zeros 32 := hn
  unfold zeros at hn
  rw [List.mem_replicate] at hn
  omega
 | t + 1 => by
  intro n hn
  have hn : n ∈ (oM s t).set t (outB s t) := hn
  rcases List.mem_or_eq_of_mem_set hn with h | h
  ·exact oM_bytes s t n h
  ·rw [h]
   unfold outB
   rw [IntKind.wrap_u8]
   omega
theorem shaM_bytes (ms : List Int) : isBytes (shaM ms) := oM_bytes _ _
theorem macM_bytes (key b : List Int) : isBytes (macM key b) := shaM_bytes _
theorem awake_put (tag : List Int) : putM24 1 [105, 100] [] tag = [80, 67, 84, 75, 1, 1, 2, 0, 105, 100] ++ tag := by
 unfold putM24 headM24 cbsM
 rw [List.append_nil]; rfl
theorem awake_get {tag : List Int} (ht : tag.length = 32) : tgetM (putM24 1 [105, 100] [] tag) = .ok ⟨1, [105, 100], [], tag⟩ := by
 rw [awake_put]
 obtain ⟨B, hB⟩ : ∃ B, B = ([80, 67, 84, 75, 1, 1, 2, 0, 105, 100] : List Int) ++ tag := ⟨_, rfl⟩
 have hl : B.length = 42 := by rw [hB, List.length_append, ht]; rfl
 have st : ∀ t, t < 8 → standsM t (B.getD t 0) = true := by
  intro t h
  have : t = 0 ∨ t = 1 ∨ t = 2 ∨ t = 3 ∨ t = 4 ∨ t = 5 ∨ t = 6 ∨ t = 7 := by omega
  rw [hB]
  rcases this with rfl | rfl | rfl | rfl | rfl | rfl | rfl | rfl <;> rfl
 have gh : ∀ k, k ≤ 8 → gHead B k = none := by
  intro k
  induction k with
  | zero => intro _; rfl
  | succ k ih =>
   intro h
   have := gHead_at B (t := 8 - (k + 1)) (by omega)
   rw [show 8 - (8 - (k + 1)) = k + 1 by omega, if_neg (by omega), if_pos (st _ (by omega)), show 8 - (8 - (k + 1) + 1) = k by omega, ih (by omega)] at this
   exact this
 have b6 : B.getD 6 0 = 2 := by rw [hB]; rfl
 have b7 : B.getD 7 0 = 0 := by rw [hB]; rfl
 have b5 : B.getD 5 0 = 1 := by rw [hB]; rfl
 have e1 : (B.drop 8).take 2 = [105, 100] := by rw [hB]; rfl
 have e2 : (B.drop 10).take 32 = tag := by
  rw [hB]
  show tag.take 32 = tag
  exact List.take_of_length_le (by omega)
 rw [← hB]
 unfold tgetM
 rw [gh 8 (by omega), b6, b7]
 dsimp only
 rw [if_neg (by rw [hl]; decide)]
 show (match gCavs B 0 10 [] with | .error e => Except.error e | .ok (a, cs) => gRest B a cs) = _
 unfold gCavs
 dsimp only
 unfold gRest
 rw [if_neg (by omega), if_neg (by omega), b5, b6, e2]
 show Except.ok (TkM.mk 1 ((B.drop 8).take 2) [] tag) = _
 rw [e1]
section
variable {h0 h : H} {A : List Ent} {i j d : Nat}
theorem told24_sp {Q : Int → Int → Bool → H → Prop} {w : Nat} {e a : Int} (hg : hc h0 ⟨0, 0, none⟩ = some errTypeV) (hs : Sat h0 A h) (m : At A i (blk w [.int .i64 e, .int .i64 a])) (he : e ≠ 0) (k : ∀ h', Sat h0 A h' → Q e a true h') :
  F_portcullislaw24_told (.iface 200 (.pointer (some ⟨w, 0, none⟩))) Q h := by
 unfold F_portcullislaw24_told G_portcullislaw24_told
 try simp only [add_mk, Nat.zero_add]
 intro rb _ hn; replace hs := Sat.new hs hn; clear hn
 refine ⟨rfl, ?_⟩
 rw [if_neg (nIF _ _)]
 intro pb _ hn; replace hs := Sat.new hs hn; clear hn
 intro J hJ
 unfold F_errors_As
 refine Or.inr ⟨⟨w, 0, none⟩, pb, 0, .pointer none, rfl, rfl, hc_ext hs.ex hg (fun y => y), hs.ld (i := 0) .z rfl, ?_, ?_⟩
 ·have := (Sat.can hs (i := 0) (o := 0) (n := 1) .z (by simp)) 0 (by decide)
  rw [add_zero] at this
  exact this.2
 intro b1 _ hn; replace hs := Sat.new hs hn; clear hn
 intro b2 _ hn; replace hs := Sat.new hs hn; clear hn
 intro b3 _ hn; replace hs := Sat.new hs hn; clear hn
 intro b4 _ hn; replace hs := Sat.new hs hn; clear hn
 intro h5 e5
 replace hs := Sat.wr hs (i := 4) (.s (.s (.s (.s .z)))) e5
 clear e5
 simp only [put_succ, put_zero] at hs
 replace hs := hs.drop.drop.drop.drop
 replace hs : Sat h0 (blk pb [.pointer (some ⟨w, 0, none⟩)] :: blk rb [.int .i64 0, .int .i64 0] :: A) h5 := hs
 rw [if_neg (by decide)]
 refine ⟨_, hs.ld (i := 0) .z rfl, ?_⟩
 rw [if_neg (by simp)]
 refine ⟨_, hs.ld (i := 0) .z rfl, _, rfl, _, hs.ld m.s.s rfl, ?_⟩
 rw [if_neg (by simpa using he)]
 apply hJ
 refine ⟨_, hs.ld (i := 0) .z rfl, _, rfl, _, hs.ld m.s.s rfl, _, hs.ld (i := 0) .z rfl, _, rfl, a, ?_, ?_⟩
 ·have := hs.ld m.s.s (o := 1) rfl
  simpa using this
 refine ⟨Sat.can hs (i := 1) (.s .z) (by simp), ?_⟩
 intro h6 e6
 replace hs := Sat.wra hs (i := 1) (.s .z) e6 rfl
 clear e6
 simp only [put_succ, put_zero] at hs
 exact ⟨_, hs.ld (i := 1) (.s .z) rfl, _, hs.ld (i := 1) (.s .z) rfl, k _ hs.drop.drop⟩
end
end Go.Proofs.YtaglicdidpgkpaaGreatDoor
end

/- Tokens: the document's: caveats, numbers, whether they may be. Own work. -/
section
set_option maxRecDepth 100000
set_option linter.unusedVariables false
namespace Go.Proofs.YtaglicdidpgkpaaGreatDoor
open Go Go.Vc
section
variable {h0 h : H} {A : List Ent} {i j d : Nat}
theorem within_sp {Q : Bool → H → Prop} (n m : Int) (q : Q (decide (0 ≤ n ∧ n ≤ m)) h) : F_portcullisref24_within n m Q h := by
 unfold F_portcullisref24_within G_portcullisref24_within
 by_cases c : 0 ≤ n
 ·rw [leI_eq, if_pos (by simpa using c), leI_eq]
  simpa [c] using q
 ·rw [leI_eq, if_neg (by simpa using c)]
  simpa [c] using q
theorem only_sp {Q : Bool → H → Prop} (c : CvM) (a1 a2 a3 a4 : Bool) (hs : Sat h0 A h) (k : ∀ h', Sat h0 A h' → Q ((a1 || c.slot == 0) && ((a2 || c.frm == 0) && ((a3 || c.to == 0) && (a4 || c.set == 0)))) h') :
  F_portcullisref24_Caveat_only c.kind c.slot c.frm c.to c.set a1 a2 a3 a4 Q h := by
 unfold F_portcullisref24_Caveat_only G_portcullisref24_Caveat_only
 try simp only [add_mk, Nat.zero_add]
 intro b _ hn; replace hs := Sat.new hs hn; clear hn
 have K := k _ hs.drop
 have l1 := hs.ld (i := 0) .z (o := 1) rfl
 have l2 := hs.ld (i := 0) .z (o := 2) rfl
 have l3 := hs.ld (i := 0) .z (o := 3) rfl
 have l4 := hs.ld (i := 0) .z (o := 4) rfl
 clear k hs
 generalize h1 : (c.slot == 0) = b1 at K
 generalize h2 : (c.frm == 0) = b2 at K
 generalize h3 : (c.to == 0) = b3 at K
 generalize h4 : (c.set == 0) = b4 at K
 cases a1 <;> cases a2 <;> cases a3 <;> cases a4 <;> cases b1 <;> cases b2 <;> cases b3 <;> cases b4 <;>
  (repeat first | exact K | rw [if_pos rfl] | rw [if_neg Bool.false_ne_true] | (refine ⟨_, l1, ?_⟩; rw [h1]) | (refine ⟨_, l2, ?_⟩; rw [h2]) | (refine ⟨_, l3, ?_⟩; rw [h3]) | (refine ⟨_, l4, ?_⟩; rw [h4]))
theorem rcmay_sp {Q : Bool → H → Prop} (c : CvM) (hs : Sat h0 A h) (k : ∀ h', Sat h0 A h' → Q (decide c.may) h') : F_portcullisref24_Caveat_May c.kind c.slot c.frm c.to c.set Q h := by
 unfold F_portcullisref24_Caveat_May G_portcullisref24_Caveat_May
 try simp only [add_mk, Nat.zero_add]
 intro b _ hn; replace hs := Sat.new hs hn; clear hn
 replace hs : Sat h0 (blk b (cvV c) :: A) _ := hs
 have fin : ∀ (x : Bool) h', (x = true ↔ c.may) → Sat h0 (blk b (cvV c) :: A) h' → Q x h' := by
  intro x h' hx hs
  have := k _ hs.drop
  rwa [show decide c.may = x by rw [Bool.eq_iff_iff, decide_eq_true_iff]; exact hx.symm] at this
 clear k
 refine ⟨_, hs.ld (i := 0) .z rfl, ?_⟩
 by_cases c1 : c.kind = 1
 ·rw [if_pos (by simpa using c1)]
  refine ⟨_, hs.ld (i := 0) .z rfl, _, hs.ld (i := 0) .z rfl, _, hs.ld (i := 0) .z rfl, _, hs.ld (i := 0) .z rfl, _, hs.ld (i := 0) .z rfl, ?_⟩
  refine only_sp c _ _ _ _ hs ?_
  intro h1 hs
  have fin := fun x => fin x h1
  unfold CvM.may at fin
  generalize bits .andNot .u64 c.set 16382 = z at *
  split
  ·rename_i g
   simp at g
   refine ⟨_, hs.ld (i := 0) .z rfl, ?_⟩
   refine within_sp _ _ (fin _ ?_ hs)
   rw [decide_eq_true_iff]; omega
  ·rename_i g
   simp at g
   exact fin _ (by simp; omega) hs
 rw [if_neg (by simpa using c1)]
 by_cases c2 : c.kind = 2
 ·rw [if_pos (by simpa using c2)]
  refine ⟨_, hs.ld (i := 0) .z rfl, _, hs.ld (i := 0) .z rfl, _, hs.ld (i := 0) .z rfl, _, hs.ld (i := 0) .z rfl, _, hs.ld (i := 0) .z rfl, ?_⟩
  refine only_sp c _ _ _ _ hs ?_
  intro h1 hs
  have fin := fun x => fin x h1
  unfold CvM.may at fin
  generalize bits .andNot .u64 c.set 16382 = z at *
  split
  ·rename_i g
   simp at g
   refine ⟨_, hs.ld (i := 0) .z rfl, ?_⟩
   refine within_sp _ _ ?_
   split
   ·rename_i g2
    simp at g2
    refine ⟨_, hs.ld (i := 0) .z rfl, ?_⟩
    refine within_sp _ _ ?_
    split
    ·rename_i g3
     simp at g3
     refine ⟨_, hs.ld (i := 0) .z rfl, _, hs.ld (i := 0) .z rfl, ?_⟩
     rw [leI_eq]
     exact fin _ (by rw [decide_eq_true_iff]; omega) hs
    ·rename_i g3
     simp at g3
     exact fin _ (by simp; omega) hs
   ·rename_i g2
    simp at g2
    exact fin _ (by simp; omega) hs
  ·rename_i g
   simp at g
   exact fin _ (by simp; omega) hs
 rw [if_neg (by simpa using c2)]
 by_cases c3 : c.kind = 3
 ·rw [if_pos (by simpa using c3)]
  refine ⟨_, hs.ld (i := 0) .z rfl, _, hs.ld (i := 0) .z rfl, _, hs.ld (i := 0) .z rfl, _, hs.ld (i := 0) .z rfl, _, hs.ld (i := 0) .z rfl, ?_⟩
  refine only_sp c _ _ _ _ hs ?_
  intro h1 hs
  have fin := fun x => fin x h1
  unfold CvM.may at fin
  split
  ·rename_i g
   simp at g
   refine ⟨_, hs.ld (i := 0) .z rfl, ?_⟩
   split
   ·rename_i g2
    simp at g2
    refine ⟨_, hs.ld (i := 0) .z rfl, ?_⟩
    refine fin _ ?_ hs
    generalize bits .andNot .u64 c.set 16382 = z at *
    rw [beq_iff_eq]
    omega
   ·rename_i g2
    simp at g2
    generalize bits .andNot .u64 c.set 16382 = z at *
    exact fin _ (by simp; omega) hs
  ·rename_i g
   simp at g
   generalize bits .andNot .u64 c.set 16382 = z at *
   exact fin _ (by simp; omega) hs
 rw [if_neg (by simpa using c3)]
 by_cases c4 : c.kind = 4
 ·rw [if_pos (by simpa using c4)]
  refine ⟨_, hs.ld (i := 0) .z rfl, _, hs.ld (i := 0) .z rfl, _, hs.ld (i := 0) .z rfl, _, hs.ld (i := 0) .z rfl, _, hs.ld (i := 0) .z rfl, ?_⟩
  refine only_sp c _ _ _ _ hs ?_
  intro h1 hs
  have fin := fun x => fin x h1
  unfold CvM.may at fin
  generalize bits .andNot .u64 c.set 16382 = z at *
  split
  ·rename_i g
   simp at g
   refine ⟨_, hs.ld (i := 0) .z rfl, ?_⟩
   refine within_sp _ _ ?_
   split
   ·rename_i g2
    simp at g2
    refine ⟨_, hs.ld (i := 0) .z rfl, ?_⟩
    first
     | (refine within_sp _ _ (fin _ ?_ hs); rw [decide_eq_true_iff]; omega)
     | (intro v hv; subst hv; refine within_sp _ _ (fin _ ?_ hs); rw [decide_eq_true_iff]; omega)
   ·rename_i g2
    simp at g2
    exact fin _ (by simp; omega) hs
  ·rename_i g
   simp at g
   exact fin _ (by simp; omega) hs
 rw [if_neg (by simpa using c4)]
 by_cases c5 : c.kind = 5
 ·rw [if_pos (by simpa using c5)]
  refine ⟨_, hs.ld (i := 0) .z rfl, _, hs.ld (i := 0) .z rfl, _, hs.ld (i := 0) .z rfl, _, hs.ld (i := 0) .z rfl, _, hs.ld (i := 0) .z rfl, ?_⟩
  refine only_sp c _ _ _ _ hs ?_
  intro h1 hs
  have fin := fun x => fin x h1
  unfold CvM.may at fin
  generalize bits .andNot .u64 c.set 16382 = z at *
  split
  ·rename_i g
   simp at g
   refine ⟨_, hs.ld (i := 0) .z rfl, ?_⟩
   refine within_sp _ _ ?_
   split
   ·rename_i g2
    simp at g2
    refine ⟨_, hs.ld (i := 0) .z rfl, ?_⟩
    first
     | (refine within_sp _ _ (fin _ ?_ hs); rw [decide_eq_true_iff]; omega)
     | (intro v hv; subst hv; refine within_sp _ _ (fin _ ?_ hs); rw [decide_eq_true_iff]; omega)
   ·rename_i g2
    simp at g2
    exact fin _ (by simp; omega) hs
  ·rename_i g
   simp at g
   exact fin _ (by simp; omega) hs
 rw [if_neg (by simpa using c5)]
 refine fin _ _ ?_ hs
 unfold CvM.may
 generalize bits .andNot .u64 c.set 16382 = z at *
 simp; omega
theorem reight24_sp {Q : Option Addr → Nat → Nat → H → Prop} {p : Option Addr} {l c : Nat} {bs : List Int} (n : Int) (hs : Sat h0 A h) (m : At A i (slE p l c 1 (ints .u8 bs))) (hb : l + 8 ≤ 2 ^ 40)
  (k : ∀ p' c' h', Sat h0 (put A i (slE p' (l + 8) c' 1 (ints .u8 (bs ++ eightM n 8)))) h' → Q p' (l + 8) c' h') : F_portcullisref24_eight p l c n Q h := by
 unfold F_portcullisref24_eight G_portcullisref24_eight
 intro J hJ
 refine loopS 8 (fun t (s : Option Addr × Nat) => [.dv (.one (.slice s.1 (l + t) s.2)), si t]) (fun t s h => Sat h0 (put A i (slE s.1 (l + t) s.2 1 (ints .u8 (bs ++ eightM n t)))) h) ?_ ?_ 0 (p, c) _ (by omega) (by
  have : put A i (slE p (l + 0) c 1 (ints .u8 (bs ++ eightM n 0))) = A := by simpa [eightM] using m.put_self
  rw [this]; exact hs)
 ·rintro t ⟨p1, c1⟩ h1 ht hs hk
  dsimp only at hs ⊢
  apply hJ
  rw [ltI_eq, if_pos (by simp; omega)]
  have e8 : IntKind.i64.wrap (8 * (t : Int)) = ((8 * t : Nat) : Int) := by rw [wrap_id (by omega)]; push_cast; rfl
  rw [e8, Int.toNat_natCast]
  refine ⟨by omega, ?_⟩
  intro b _ hn; replace hs := Sat.new hs hn; clear hn
  refine ⟨_, hs.bv (i := 0) (l := 1) .z rfl (ints_one .u8 [IntKind.u8.wrap (n.fdiv (2 ^ min (8 * t) 64))]), ?_⟩
  refine Sat.app hs (i := i + 1) (vs := ints .u8 [IntKind.u8.wrap (n.fdiv (2 ^ min (8 * t) 64))]) (.s (m.put _)) rfl rfl (ints_one _ _) (by omega) ?_
  intro p' c' h2 hs
  simp only [put_succ, put_put] at hs
  rw [wrap_succ (by omega)]
  have := hk (p', c') h2
  dsimp only at this
  refine this ?_
  have e : eightM n (t + 1) = eightM n t ++ [IntKind.u8.wrap (n.fdiv (2 ^ min (8 * t) 64))] := by unfold eightM; rw [List.range_succ, List.map_append]; rfl
  rw [e, ← List.append_assoc]
  have e2 : ints .u8 (bs ++ eightM n t ++ [IntKind.u8.wrap (n.fdiv (2 ^ min (8 * t) 64))]) = ints .u8 (bs ++ eightM n t) ++ ints .u8 [IntKind.u8.wrap (n.fdiv (2 ^ min (8 * t) 64))] := by unfold ints; rw [List.map_append]
  rw [e2]
  exact hs.drop
 ·rintro ⟨p1, c1⟩ h1 hs
  apply hJ
  rw [ltI_eq, if_neg (by decide)]
  exact k _ _ _ hs
theorem rcbytes_sp {Q : Option Addr → Nat → Nat → H → Prop} (c : CvM) (hs : Sat h0 A h) (k : ∀ p' c' h', Sat h0 (slE p' 26 c' 1 (ints .u8 (cbM c)) :: A) h' → Q p' 26 c' h') : F_portcullisref24_Caveat_Bytes c.kind c.slot c.frm c.to c.set Q h := by
 unfold F_portcullisref24_Caveat_Bytes G_portcullisref24_Caveat_Bytes
 try simp only [add_mk, Nat.zero_add]
 intro b _ hn; replace hs := Sat.new hs hn; clear hn
 refine ⟨_, hs.ld (i := 0) .z rfl, _, hs.ld (i := 0) .z rfl, ?_⟩
 intro b2 _ hn; replace hs := Sat.new hs hn; clear hn
 refine ⟨_, hs.ld (i := 1) (.s .z) rfl, ?_⟩
 replace hs := hs.as_sl (i := 0) (l := 2) (sz := 1) .z rfl (ints_one .u8 [IntKind.u8.wrap c.kind, IntKind.u8.wrap c.slot])
 rw [put_zero] at hs
 refine reight24_sp (bs := [IntKind.u8.wrap c.kind, IntKind.u8.wrap c.slot]) _ hs (i := 0) .z (by decide) ?_
 intro p1 c1 h1 hs
 rw [put_zero] at hs
 refine ⟨_, hs.ld (i := 1) (.s .z) rfl, ?_⟩
 refine reight24_sp _ hs (i := 0) .z (by decide) ?_
 intro p2 c2 h2 hs
 rw [put_zero] at hs
 refine ⟨_, hs.ld (i := 1) (.s .z) rfl, ?_⟩
 refine reight24_sp _ hs (i := 0) .z (by decide) ?_
 intro p3 c3 h3 hs
 rw [put_zero] at hs
 refine k p3 c3 h3 ?_
 exact hs.sub (by (repeat (first | exact List.Sublist.refl _ | apply List.Sublist.cons_cons | apply List.Sublist.cons)))
theorem rmay24_sp {Q : Bool → H → Prop} {key : Int} {id tag : List Int} {cs : List CvM} {ip cp : Option Addr} {il ic cl cc : Nat} (hs : Sat h0 A h) (hil : id.length = il) (hl : cl < 2 ^ 40) (hcl : cs.length = cl) (rc : ∀ h', Sat h0 A h' → hsv h' cp 5 cl (cvsV cs))
  (k : ∀ h', Sat h0 A h' → Q (decide (TokMay key id cs)) h') : F_portcullisref24_Token_May key ip il ic cp cl cc tag Q h := by
 unfold F_portcullisref24_Token_May G_portcullisref24_Token_May
 try simp only [add_mk, Nat.zero_add, List.append_nil]
 intro b _ hn; replace hs := Sat.new hs hn; clear hn
 replace hs : Sat h0 (blk b (tokL key ip il ic cp cl cc tag) :: A) _ := hs
 have fin : ∀ (x : Bool) h', (x = true ↔ TokMay key id cs) → Sat h0 (blk b (tokL key ip il ic cp cl cc tag) :: A) h' → Q x h' := by
  intro x h' hx hs
  have := k _ hs.drop
  rwa [show decide (TokMay key id cs) = x by rw [Bool.eq_iff_iff, decide_eq_true_iff]; exact hx.symm] at this
 clear k
 intro J14 hJ14
 refine ⟨_, hs.ld (i := 0) .z rfl, ?_⟩
 rw [ltI_eq]
 by_cases c1 : key < 0
 ·rw [if_pos (by simpa using c1)]
  exact fin _ _ (by simp only [Bool.false_eq_true, false_iff]; intro y; have := y.1; omega) hs
 rw [if_neg (by simpa using c1)]
 refine ⟨_, hs.ld (i := 0) .z rfl, ?_⟩
 rw [ltI_eq]
 by_cases c2 : 63 < key
 ·rw [if_pos (by simpa using c2)]
  exact fin _ _ (by simp only [Bool.false_eq_true, false_iff]; intro y; have := y.1; omega) hs
 rw [if_neg (by simpa using c2)]
 refine ⟨_, _, _, hs.ld (i := 0) .z rfl, ?_⟩
 rw [ltI_eq]
 by_cases c3 : il < 1
 ·rw [if_pos (by simp; omega)]
  exact fin _ _ (by simp only [Bool.false_eq_true, false_iff]; intro y; have := y.2.1; omega) hs
 rw [if_neg (by simp; omega)]
 refine ⟨_, _, _, hs.ld (i := 0) .z rfl, ?_⟩
 rw [ltI_eq]
 by_cases c4 : 64 < il
 ·rw [if_pos (by simp; omega)]
  exact fin _ _ (by simp only [Bool.false_eq_true, false_iff]; intro y; have := y.2.1; omega) hs
 rw [if_neg (by simp; omega)]
 refine ⟨_, _, _, hs.ld (i := 0) .z rfl, ?_⟩
 rw [ltI_eq]
 by_cases c5 : 32 < cl
 ·rw [if_pos (by simp; omega)]
  exact fin _ _ (by simp only [Bool.false_eq_true, false_iff]; intro y; have := y.2.2.1; omega) hs
 rw [if_neg (by simp; omega)]
 apply hJ14
 clear hJ14 J14
 intro J hJ
 refine loop_up cl (fun t h => (∀ j (hj : j < cs.length), j < t → cs[j].may) ∧ Sat h0 (blk b (tokL key ip il ic cp cl cc tag) :: A) h) ?_ ?_ 0 _ (by omega) ⟨fun j _ y => by omega, hs⟩
 ·rintro t h1 ht ⟨hm, hs⟩ hk
  apply hJ
  refine ⟨_, _, _, hs.ld (i := 0) .z rfl, ?_⟩
  rw [ltI_eq, if_pos (by simp; omega)]
  obtain ⟨q, hl2, hq, g0, g1, g2, g3, g4⟩ := cv_rd (rc _ hs.drop) (i := t) ht
  refine ⟨_, _, _, hs.ld (i := 0) .z rfl, q, hq, by omega, by omega, ?_⟩
  simp only [Int.toNat_natCast]
  refine ⟨_, g0, _, g1, _, g2, _, g3, _, g4, ?_⟩
  refine rcmay_sp cs[t] hs ?_
  intro h2 hs
  by_cases g : cs[t].may
  ·rw [if_neg (by simp [g]), wrap_succ (by omega)]
   refine hk _ ⟨fun j hj hjt => ?_, hs⟩
   by_cases e : j = t
   ·subst e; exact g
   ·exact hm j hj (by omega)
  ·rw [if_pos (by simp [g])]
   exact fin _ _ (by simp only [Bool.false_eq_true, false_iff]; intro y; exact g (y.2.2.2 _ (List.getElem_mem hl2))) hs
 ·rintro h1 ⟨hm, hs⟩
  apply hJ
  refine ⟨_, _, _, hs.ld (i := 0) .z rfl, ?_⟩
  rw [ltI_eq, if_neg (by simp)]
  refine fin _ _ ?_ hs
  simp only [true_iff]
  refine ⟨by omega, by omega, by omega, fun c hc => ?_⟩
  obtain ⟨j, hj, rfl⟩ := List.getElem_of_mem hc
  exact hm j hj (by omega)
theorem rfew_sp {Q : Bool → H → Prop} {key : Int} {tag : List Int} {ip cp : Option Addr} {il ic cl cc : Nat} (hs : Sat h0 A h) (k : ∀ h', Sat h0 A h' → Q (decide (cl ≤ 65536)) h') : F_portcullisref24_Few key ip il ic cp cl cc tag Q h := by
 unfold F_portcullisref24_Few G_portcullisref24_Few
 try simp only [add_mk, Nat.zero_add, List.append_nil]
 intro b _ hn; replace hs := Sat.new hs hn; clear hn
 replace hs : Sat h0 (blk b (tokL key ip il ic cp cl cc tag) :: A) _ := hs
 refine ⟨_, _, _, hs.ld (i := 0) .z rfl, ?_⟩
 have := k _ hs.drop
 rw [leI_eq]
 rwa [show decide ((cl : Int) ≤ 65536) = decide (cl ≤ 65536) by rw [Bool.eq_iff_iff, decide_eq_true_iff, decide_eq_true_iff]; omega]
end
end Go.Proofs.YtaglicdidpgkpaaGreatDoor
end

/- Tokens: the document's Put; whether two are the same; copies. Own work. -/
section
set_option maxRecDepth 100000
set_option linter.unusedVariables false
namespace Go.Proofs.YtaglicdidpgkpaaGreatDoor
open Go Go.Vc
theorem cv1 (c : CvM) : ∀ v, v ∈ cvV c → v.oneCell' = true := by
 intro v hv
 simp only [List.mem_cons, List.not_mem_nil, or_false] at hv
 rcases hv with rfl | rfl | rfl | rfl | rfl <;> rfl
theorem cvsV_snoc (cs : List CvM) (c : CvM) : cvsV (cs ++ [c]) = cvsV cs ++ cvV c := by rw [cvsV_app]; simp [cvsV]
theorem take_snoc {α : Type} (l : List α) {t : Nat} (h : t < l.length) : l.take (t + 1) = l.take t ++ [l[t]] := by rw [List.take_succ, List.getElem?_eq_getElem h]; rfl
section
variable {h0 h : H} {A : List Ent} {i j d : Nat}
end
end Go.Proofs.YtaglicdidpgkpaaGreatDoor
end

/- Tokens: as the program has them, and back. Own work. -/
section
set_option maxRecDepth 100000
set_option linter.unusedVariables false
namespace Go.Proofs.YtaglicdidpgkpaaGreatDoor
open Go Go.Vc
theorem flat_len (n : Nat) (X : List Value) : (List.replicate n X).flatten.length = n * X.length := by
 induction n with
 | zero => simp
 | succ n ih => rw [List.replicate_succ, List.flatten_cons, List.length_append, ih, Nat.succ_mul]; omega
section
variable {h0 h : H} {A : List Ent} {i j d : Nat}
theorem as_sl0 (hs : Sat h0 A h) {i b c sz : Nat} {vs : List Value} (m : At A i (blk b vs)) (hl : vs.length = c * sz) : Sat h0 (put A i (slE (some ⟨b, 0, none⟩) 0 c sz [])) h := by
 refine hs.as m fun f hp => ?_
 obtain ⟨k, hf⟩ := blk_P.1 hp
 refine slE_P.2 ⟨[b], ⟨by simp, by omega, by intro v hv; simp at hv, Or.inr ⟨b, vs, rfl, rfl, by simpa using k, by rw [hl]; simp⟩⟩, fun x => ?_⟩
 rw [hf]; simp
theorem caveat_sp {Q : Int → Int → Int → Int → Int → H → Prop} (c : CvM) (hs : Sat h0 A h) (k : ∀ h', Sat h0 A h' → Q c.kind c.slot c.frm c.to c.set h') : F_portcullislaw24_caveat c.kind c.slot c.frm c.to c.set Q h := by
 unfold F_portcullislaw24_caveat G_portcullislaw24_caveat
 try simp only [add_mk, Nat.zero_add]
 intro b _ hn; replace hs := Sat.new hs hn; clear hn
 intro b2 _ hn; replace hs := Sat.new hs hn; clear hn
 refine ⟨_, hs.ld (i := 1) (.s .z) rfl, _, hs.ld (i := 1) (.s .z) rfl, _, hs.ld (i := 1) (.s .z) rfl, _, hs.ld (i := 1) (.s .z) rfl, _, hs.ld (i := 1) (.s .z) rfl, ?_⟩
 refine ⟨Sat.can hs (i := 0) .z (by simp), ?_⟩
 intro h2 e
 replace hs := Sat.wra hs (i := 0) .z e rfl
 clear e
 simp only [put_zero] at hs
 refine ⟨_, hs.ld (i := 0) .z rfl, _, hs.ld (i := 0) .z rfl, _, hs.ld (i := 0) .z rfl, _, hs.ld (i := 0) .z rfl, _, hs.ld (i := 0) .z rfl, ?_⟩
 exact k _ hs.drop.drop
theorem lawof_sp {Q : Int → Option Addr → Nat → Nat → Option Addr → Nat → Nat → List Int → H → Prop} {key : Int} {id tag : List Int} {cs : List CvM} {ip cp : Option Addr} {il ic cl cc : Nat} (hs : Sat h0 A h) (ht : tag.length = 32) (hi : il + 4096 ≤ 2 ^ 47) (hl : cl ≤ 65536)
  (ri : ∀ h', Sat h0 A h' → hsv h' ip 1 il (ints .u8 id)) (rc : ∀ h', Sat h0 A h' → hsv h' cp 5 cl (cvsV cs))
  (k : ∀ p1 c1 p2 c2 h', il + 3 ≤ c1 → Sat h0 (slE p2 cl c2 5 (cvsV cs) :: slE p1 (il + 3) c1 1 (ints .u8 (id ++ [161, 162, 163])) :: A) h' → Q key (subAddr p1 0 c1 1) il c1 p2 cl c2 tag h') :
  F_portcullislaw24_of key ip il ic cp cl cc tag Q h := by
 unfold F_portcullislaw24_of G_portcullislaw24_of
 try simp only [add_mk, Nat.zero_add, List.append_nil]
 have hcl : cs.length = cl := by have := (rc _ hs).1; rw [cvsV_len] at this; omega
 have hil : id.length = il := by have := (ri _ hs).1; simpa using this
 intro tb _ hn; replace hs := Sat.new hs hn; clear hn
 intro ob _ hn; replace hs := Sat.new hs hn; clear hn
 replace hs : Sat h0 (blk ob tok0 :: blk tb (tokL key ip il ic cp cl cc tag) :: A) _ := hs
 refine ⟨_, _, _, hs.ld (i := 1) (.s .z) rfl, _, _, _, hs.ld (i := 1) (.s .z) rfl, ?_⟩
 have e3 : IntKind.i64.wrap ((il : Int) + 3) = ((il + 3 : Nat) : Int) := by rw [wrap_id (by omega)]; push_cast; rfl
 rw [e3]
 refine ⟨by decide, by omega, by omega, by omega, ?_⟩
 simp only [Int.toNat_natCast]
 intro ib _ hn; replace hs := Sat.new hs hn; clear hn
 refine ⟨hcs_one (hs.ld (i := 2) (.s (.s .z)) rfl), _, ri _ hs.drop.drop.drop, ?_⟩
 replace hs := as_sl0 hs (i := 0) (c := il + 3) (sz := 1) .z (by rw [flat_len]; simp)
 rw [put_zero] at hs
 refine Sat.app hs (i := 0) (vs := ints .u8 id) .z (by simp [hil]) rfl (ints_one _ _) (by omega) ?_
 intro p1 c1 h2 hs
 simp only [put_zero, Nat.zero_add, List.nil_append] at hs ⊢
 refine ⟨_, _, _, hs.ld (i := 2) (.s (.s .z)) rfl, ?_⟩
 have e2 : IntKind.i64.wrap ((cl : Int) + 2) = ((cl + 2 : Nat) : Int) := by rw [wrap_id (by omega)]; push_cast; rfl
 rw [e2]
 refine ⟨by decide, by omega, by omega, by omega, ?_⟩
 simp only [Int.toNat_natCast]
 intro cb _ hn; replace hs := Sat.new hs hn; clear hn
 replace hs := as_sl0 hs (i := 0) (c := cl + 2) (sz := 5) .z (by rw [flat_len]; rfl)
 rw [put_zero] at hs
 refine ⟨_, _, _, hs.ld (i := 3) (.s (.s (.s .z))) rfl, ?_⟩
 intro J40 hJ40
 refine loopS cl (fun t (s : Option Addr × Nat) => [.dv (.one (.slice s.1 t s.2)), si t]) (fun t s h => Sat h0 (slE s.1 t s.2 5 (cvsV (cs.take t)) :: slE p1 il c1 1 (ints .u8 id) :: blk ob tok0 :: blk tb (tokL key ip il ic cp cl cc tag) :: A) h) ?_ ?_ 0 (some ⟨cb, 0, none⟩, cl + 2) _ (by omega) (by simpa [cvsV] using hs)
 ·rintro t ⟨p3, c3⟩ h5 htl hs hk
  dsimp only at hs hk ⊢
  apply hJ40
  rw [ltI_eq, if_pos (by simp; omega)]
  obtain ⟨q, hl2, hq, g0, g1, g2, g3, g4⟩ := cv_rd (rc _ hs.drop.drop.drop.drop) (i := t) htl
  refine ⟨q, hq, by omega, by omega, ?_⟩
  simp only [Int.toNat_natCast]
  refine ⟨_, g0, _, g1, _, g2, _, g3, _, g4, ?_⟩
  intro b3 _ hn; replace hs := Sat.new hs hn; clear hn
  refine ⟨Sat.can hs (i := 0) .z (by simp), ?_⟩
  intro h6 e
  replace hs := Sat.wra hs (i := 0) .z e rfl
  clear e
  simp only [put_zero] at hs
  refine ⟨_, hs.ld (i := 0) .z rfl, _, hs.ld (i := 0) .z rfl, _, hs.ld (i := 0) .z rfl, _, hs.ld (i := 0) .z rfl, _, hs.ld (i := 0) .z rfl, ?_⟩
  refine caveat_sp cs[t] hs ?_
  intro h7 hs
  intro b4 _ hn; replace hs := Sat.new hs hn; clear hn
  refine ⟨_, hs.bv (i := 0) (l := 1) (sz := 5) .z rfl (cv1 cs[t]), ?_⟩
  refine Sat.app hs (i := 2) (vs := cvV cs[t]) (.s (.s .z)) rfl rfl (cv1 _) (by omega) ?_
  intro p5 c5 h8 hs
  simp only [put_succ, put_zero] at hs
  rw [wrap_succ (by omega)]
  refine hk (p5, c5) h8 ?_
  dsimp only
  rw [take_snoc _ hl2, cvsV_snoc]
  exact hs.drop.drop
 ·rintro ⟨p3, c3⟩ h5 hs
  dsimp only at hs ⊢
  apply hJ40
  clear hJ40
  rw [ltI_eq, if_neg (by simp)]
  rw [List.take_of_length_le (by omega)] at hs
  have t3 := At.s (x := slE p3 cl c3 5 (cvsV cs)) (At.s (x := slE p1 il c1 1 (ints .u8 id)) (At.s (x := blk ob tok0) (At.z (A := A) (e := blk tb (tokL key ip il ic cp cl cc tag)))))
  refine ⟨_, hs.ld t3 rfl, _, _, _, hs.ld t3 rfl, tag, ht, tok_row hs t3, ?_⟩
  intro mb _ hn; replace hs := Sat.new hs hn; clear hn
  have t4 := At.s (x := blk mb [Value.int .u8 161, .int .u8 162, .int .u8 163]) t3
  refine ⟨tok_row hs t4, hcs_one (hs.ld t4 rfl), hcs_one (hs.ld t4 rfl), _, hs.bv (i := 0) (l := 3) (sz := 1) .z rfl (ints_one .u8 [161, 162, 163]), ?_⟩
  refine Sat.app hs (i := 2) (vs := ints .u8 [161, 162, 163]) (.s (.s .z)) rfl rfl (ints_one _ _) (by omega) ?_
  intro p6 c6 h6 hs
  simp only [put_succ, put_zero] at hs
  rw [← ints_app] at hs
  have hc := capS hs (i := 2) (.s (.s .z))
  have t5 := At.s (x := blk mb [Value.int .u8 161, .int .u8 162, .int .u8 163]) (At.s (x := slE p3 cl c3 5 (cvsV cs)) (At.s (x := slE p6 (il + 3) c6 1 (ints .u8 (id ++ [161, 162, 163]))) (At.s (x := blk ob tok0) (At.z (A := A) (e := blk tb (tokL key ip il ic cp cl cc tag))))))
  refine ⟨tok_row hs t5, hcs_one (hs.ld t5 rfl), hcs_one (hs.ld t5 rfl), by omega, by omega, ?_⟩
  refine ⟨Sat.can hs (i := 3) (.s (.s (.s .z))) (by simp [zeros]), ?_⟩
  intro h7 e
  replace hs := Sat.wra (xs := tokL key (subAddr p6 0 c6 1) il c6 p3 cl c3 tag) hs (i := 3) (.s (.s (.s .z))) (by simpa using e) (by simp [zeros, ht])
  clear e
  simp only [put_succ, put_zero] at hs
  have t6 := At.s (x := blk mb [Value.int .u8 161, .int .u8 162, .int .u8 163]) (At.s (x := slE p3 cl c3 5 (cvsV cs)) (At.s (x := slE p6 (il + 3) c6 1 (ints .u8 (id ++ [161, 162, 163]))) (At.z (A := blk tb (tokL key ip il ic cp cl cc tag) :: A) (e := blk ob (tokL key (subAddr p6 0 c6 1) il c6 p3 cl c3 tag)))))
  refine ⟨_, hs.ld t6 rfl, _, _, _, hs.ld t6 rfl, _, _, _, hs.ld t6 rfl, tag, ht, tok_row hs t6, ?_⟩
  exact k p6 c6 p3 c3 h7 hc (hs.sub (by (repeat (first | exact List.Sublist.refl _ | apply List.Sublist.cons_cons | apply List.Sublist.cons))))
theorem ofId {p : Option Addr} {il c1 : Nat} {id m : List Int} (hil : id.length = il) (hc : il + 3 ≤ c1) (R : hsv h p 1 (il + 3) (ints .u8 (id ++ m))) : hsv h (subAddr p 0 c1 1) 1 il (ints .u8 id) := by
 have := subRd (o := 0) (n := il) (m := c1) R (by omega) (by omega)
 rw [List.drop_zero, List.take_append_of_le_length (by omega), List.take_of_length_le (by omega)] at this
 exact this
end
end Go.Proofs.YtaglicdidpgkpaaGreatDoor
end

/- Tokens: two tags part (reckoned). Own work. -/
section
set_option maxRecDepth 1000000
namespace Go.Proofs.YtaglicdidpgkpaaGreatDoor
open Go Go.Vc
theorem awake_tags : (macM (macM [107] (msgM [105, 100])) (cbM ⟨1, 1, 0, 0, 0⟩) == macM [107] (msgM [105, 100])) = false := by decide +kernel
end Go.Proofs.YtaglicdidpgkpaaGreatDoor
end

/- Tokens: awake; TokenNames. Own work. -/
section
set_option maxRecDepth 1000000
set_option linter.unusedVariables false
namespace Go.Proofs.YtaglicdidpgkpaaGreatDoor
open Go Go.Vc
theorem awake_may : TokMay 1 [105, 100] [] := by decide
theorem get_nil : tgetM [] = .error (6, 0) := rfl
section
variable {h0 h : H} {A : List Ent} {i j d : Nat}
theorem hsv_nil (h : H) (p : Option Addr) (sz : Nat) : hsv h p sz 0 [] := ⟨by simp, by intro v hv; simp at hv, Or.inl rfl⟩
theorem awake24_sp {Q : Bool → H → Prop} (hg : hc h0 ⟨0, 0, none⟩ = some errTypeV) (hs : Sat h0 A h) (k : ∀ h', Sat h0 A h' → Q true h') : F_portcullislaw24_awake Q h := by
 unfold F_portcullislaw24_awake G_portcullislaw24_awake
 try simp only [add_mk, Nat.zero_add, List.append_nil]
 intro kb _ hn; replace hs := Sat.new hs hn; clear hn
 refine ⟨_, rfl, ?_⟩
 intro h1 e
 replace hs := hs.mark (i := 0) .z e
 clear e
 intro sb _ hn; replace hs := Sat.new hs hn; clear hn
 refine keys1_sp (key := 1) (bs := [107]) hs (by decide) (by decide) (fun h' hs' => hs'.ld (i := 0) .z rfl) (fun h' hs' => by rw [add_mk]; exact hs'.ld (i := 0) .z rfl) (fun h' hs' => hs'.bv (i := 1) (l := 1) (.s .z) rfl (ints_one .u8 [107])) ?_
 intro r m kp kc h2 hkc hs
 intro J hJ
 rw [if_neg (by decide), if_neg (by simp)]
 apply hJ
 clear hJ J
 intro ib _ hn; replace hs := Sat.new hs hn; clear hn
 refine ⟨_, rfl, ?_⟩
 intro h3 e
 replace hs := hs.mark (i := 0) .z e
 clear e
 refine ⟨_, rfl, ?_⟩
 refine issue_sp (key := 1) (secret := [107]) (id := [105, 100]) hs (i := 2) (j := 3) (.s (.s .z)) (.s (.s (.s .z))) rfl hkc (by decide) (by decide) (fun h' hs' => hs'.sv (i := 1) (.s .z)) (fun h' hs' => hs'.bv (i := 0) (l := 2) .z rfl (ints_one .u8 [105, 100])) ?_
 intro p1 c1 h4 hc1 hs
 obtain ⟨tag, htag⟩ : ∃ tag, tag = macM [107] (msgM [105, 100]) := ⟨_, rfl⟩
 have htl : tag.length = 32 := by rw [htag]; exact macM_len _ _
 have htb : isBytes tag := by rw [htag]; exact macM_bytes _ _
 have hne := awake_tags
 rw [← htag] at hne ⊢
 clear htag
 intro tb _ hn; replace hs := Sat.new hs hn; clear hn
 refine ⟨Sat.can hs (i := 0) .z (by simp [zeros]), ?_⟩
 intro h5 e
 replace hs := Sat.wra (xs := tokL 1 p1 2 c1 none 0 0 tag) hs (i := 0) .z e (by simp [zeros, htl])
 clear e
 simp only [put_zero] at hs
 refine ⟨_, hs.ld (i := 0) .z rfl, _, _, _, hs.ld (i := 0) .z rfl, _, _, _, hs.ld (i := 0) .z rfl, tag, htl, tok_row hs (i := 0) .z, ?_⟩
 refine narrow_sp (⟨1, 1, 0, 0, 0⟩ : CvM) (id := [105, 100]) (cs := []) hs htl (by decide) (by decide) (fun h' hs' => hs'.sv (i := 1) (.s .z)) (fun h' hs' => hsv_nil _ _ _) (fun y => absurd y (by decide)) (fun _ y => absurd (by decide) y) ?_
 intro _ _ p2 c2 p3 c3 h6 hs
 obtain ⟨tag2, htag2⟩ : ∃ tag2, tag2 = macM tag (cbM ⟨1, 1, 0, 0, 0⟩) := ⟨_, rfl⟩
 have htl2 : tag2.length = 32 := by rw [htag2]; exact macM_len _ _
 rw [← htag2] at hne ⊢
 clear htag2
 intro ub _ hn; replace hs := Sat.new hs hn; clear hn
 refine ⟨Sat.can hs (i := 0) .z (by simp [zeros]), ?_⟩
 intro h7 e
 replace hs := Sat.wra (xs := tokL 1 p2 2 c2 p3 1 c3 tag2) hs (i := 0) .z e (by simp [zeros, htl2])
 clear e
 simp only [put_zero] at hs
 refine ⟨_, hs.ld (i := 3) (.s (.s (.s .z))) rfl, _, _, _, hs.ld (i := 3) (.s (.s (.s .z))) rfl, _, _, _, hs.ld (i := 3) (.s (.s (.s .z))) rfl, tag, htl, tok_row hs (i := 3) (.s (.s (.s .z))), ?_⟩
 refine narrow_sp (⟨0, 0, 0, 0, 0⟩ : CvM) (id := [105, 100]) (cs := []) hs htl (by decide) (by decide) (fun h' hs' => hs'.sv (i := 4) (.s (.s (.s (.s .z))))) (fun h' hs' => hsv_nil _ _ _) (fun y => absurd y (by decide)) ?_ (fun _ y => absurd y (by decide))
 intro _ _ h8 hs
 intro nb _ hn; replace hs := Sat.new hs hn; clear hn
 refine ⟨Sat.can hs (i := 0) .z (by simp [zeros]), ?_⟩
 intro h9 e
 replace hs := Sat.wra (xs := tok0) hs (i := 0) .z e (by simp [zeros])
 clear e
 simp only [put_zero] at hs
 refine ⟨_, hs.ld (i := 4) (.s (.s (.s (.s .z)))) rfl, _, _, _, hs.ld (i := 4) (.s (.s (.s (.s .z)))) rfl, _, _, _, hs.ld (i := 4) (.s (.s (.s (.s .z)))) rfl, tag, htl, tok_row hs (i := 4) (.s (.s (.s (.s .z)))), ?_⟩
 refine put24_sp (id := [105, 100]) (cs := []) hs htl (by decide) (fun h' hs' => hs'.sv (i := 5) (.s (.s (.s (.s (.s .z)))))) (fun h' hs' => hsv_nil _ _ _) (fun y => absurd awake_may y) ?_
 intro _ p4 c4 h10 hc4 hs
 have hpl : (putM24 1 [105, 100] [] tag).length = 42 := by rw [awake_put, List.length_append, htl]; rfl
 have hpb : isBytes (putM24 1 [105, 100] [] tag) := by
  rw [awake_put]
  intro n hn
  rcases List.mem_append.1 hn with hn | hn
  ·simp only [List.mem_cons, List.not_mem_nil, or_false] at hn
   omega
  ·exact htb n hn
 have hget := awake_get htl
 generalize putM24 1 [105, 100] [] tag = B at *
 rw [hpl] at hs hc4 ⊢
 refine get_sp (bs := B) hs hpb hc4 (by decide) (fun h' hs' => hs'.sv (i := 0) .z) (fun e a he => by rw [hget] at he; cases he) ?_
 intro t ht p5 c5 p6 l6 c6 h11 hl6 hs htt
 rw [hget] at ht
 injection ht with ht
 subst ht
 dsimp only at hs htt hl6 ⊢
 intro xb _ hn; replace hs := Sat.new hs hn; clear hn
 refine ⟨Sat.can hs (i := 0) .z (by simp [zeros]), ?_⟩
 intro h12 e
 replace hs := Sat.wra (xs := tokL 1 p5 2 c5 p6 l6 c6 tag) hs (i := 0) .z e (by simp [zeros, htl])
 clear e
 simp only [put_zero] at hs
 refine get_sp (bs := []) hs (by intro n hn; simp at hn) (by decide) (by decide) (fun h' hs' => hsv_nil _ _ _) ?_ (fun t ht => by rw [get_nil] at ht; cases ht)
 intro e a hea wb h13 hs
 rw [get_nil] at hea
 injection hea with hea
 injection hea with he ha
 subst he ha
 intro yb _ hn; replace hs := Sat.new hs hn; clear hn
 refine ⟨Sat.can hs (i := 0) .z (by simp [zeros]), ?_⟩
 intro h14 e
 replace hs := Sat.wra (xs := tok0) hs (i := 0) .z e (by simp [zeros])
 clear e
 simp only [put_zero] at hs
 refine told24_sp hg hs (i := 1) (.s .z) (by decide) ?_
 intro h15 hs
 intro zb _ hn; replace hs := Sat.new hs hn; clear hn
 refine ⟨Sat.can hs (i := 0) .z (by simp), ?_⟩
 intro h16 e
 replace hs := Sat.wra hs (i := 0) .z e rfl
 clear e
 simp only [put_zero] at hs
 rw [if_pos (by decide), if_pos (by decide)]
 have tU := At.s (x := blk zb [.int .i64 6, .int .i64 0]) (At.s (x := blk yb tok0) (At.s (x := blk wb [.int .i64 6, .int .i64 0]) (At.s (x := blk xb (tokL 1 p5 2 c5 p6 l6 c6 tag)) (At.s (x := slE p6 l6 c6 5 (cvsV [])) (At.s (x := slE p5 2 c5 1 (ints .u8 [105, 100])) (At.s (x := slE p4 42 c4 1 (ints .u8 B)) (At.s (x := blk nb tok0) (At.z (e := blk ub (tokL 1 p2 2 c2 p3 1 c3 tag2)) (A := slE p3 1 c3 5 (cvsV [⟨1, 1, 0, 0, 0⟩]) :: slE p2 2 c2 1 (ints .u8 [105, 100]) :: blk tb (tokL 1 p1 2 c1 none 0 0 tag) :: slE p1 2 c1 1 (ints .u8 [105, 100]) :: blk ib (ints .u8 [105, 100]) :: slE kp 1 kc 1 (ints .u8 [107]) :: blk r [.map (some m)] :: mapE m [(.int .i64 1, .one (.slice kp 1 kc))] :: blk sb [.int .i64 1, .slice (some ⟨kb, 0, none⟩) 1 1] :: blk kb (ints .u8 [107]) :: A)))))))))
 refine ⟨_, _, _, hs.ld tU rfl, ?_⟩
 rw [if_pos (by decide)]
 have tT : At _ 11 (blk tb (tokL 1 p1 2 c1 none 0 0 tag)) := At.s (x := blk zb [.int .i64 6, .int .i64 0]) (At.s (x := blk yb tok0) (At.s (x := blk wb [.int .i64 6, .int .i64 0]) (At.s (x := blk xb (tokL 1 p5 2 c5 p6 l6 c6 tag)) (At.s (x := slE p6 l6 c6 5 (cvsV [])) (At.s (x := slE p5 2 c5 1 (ints .u8 [105, 100])) (At.s (x := slE p4 42 c4 1 (ints .u8 B)) (At.s (x := blk nb tok0) (At.s (x := blk ub (tokL 1 p2 2 c2 p3 1 c3 tag2)) (At.s (x := slE p3 1 c3 5 (cvsV [⟨1, 1, 0, 0, 0⟩])) (At.s (x := slE p2 2 c2 1 (ints .u8 [105, 100])) (At.z (A := slE p1 2 c1 1 (ints .u8 [105, 100]) :: blk ib (ints .u8 [105, 100]) :: slE kp 1 kc 1 (ints .u8 [107]) :: blk r [.map (some m)] :: mapE m [(.int .i64 1, .one (.slice kp 1 kc))] :: blk sb [.int .i64 1, .slice (some ⟨kb, 0, none⟩) 1 1] :: blk kb (ints .u8 [107]) :: A))))))))))))
 refine ⟨tag2, htl2, tok_row hs tU, tag, htl, tok_row hs tT, ?_⟩
 rw [if_pos (show (!tag2 == tag) = true by rw [hne]; rfl), if_pos (by decide), if_pos (by decide), if_pos (by decide)]
 refine ⟨rfl, ?_⟩
 rw [if_pos (by decide)]
 refine ⟨_, hs.ld (i := 3) (.s (.s (.s .z))) rfl, ?_⟩
 rw [if_pos (by decide)]
 refine ⟨_, _, _, hs.ld (i := 3) (.s (.s (.s .z))) rfl, [105, 100], hs.sv (i := 5) (.s (.s (.s (.s (.s .z))))), ?_⟩
 rw [if_pos (by decide +kernel), if_pos rfl]
 refine ⟨_, hs.ld (i := 0) .z rfl, _, hs.ld (i := 0) .z rfl, ?_⟩
 exact k _ (hs.sub (by (repeat (first | exact List.Sublist.refl _ | apply List.Sublist.cons_cons | apply List.Sublist.cons))))
end
end Go.Proofs.YtaglicdidpgkpaaGreatDoor
end

/- Tokens, plain: there and back. Own work. -/
section
set_option maxRecDepth 100000
set_option linter.unusedVariables false
namespace Go.Proofs.YtaglicdidpgkpaaGreatDoor
open Go Go.Vc

def CvM.typed (c : CvM) : Prop := has .i64 c.kind ∧ has .i64 c.slot ∧ has .i64 c.frm ∧ has .i64 c.to ∧ has .u64 c.set
end Go.Proofs.YtaglicdidpgkpaaGreatDoor
end

/- What arguments of the statements are: tokens, bytes. Own work. -/
section
set_option maxRecDepth 100000
set_option linter.unusedVariables false
namespace Go.Proofs.YtaglicdidpgkpaaGreatDoor
open Go Go.Vc Go.ChangeShapes Go.WideShapes Go.ChangeAt Go.RowKit

theorem xByte24 : xsh PP 8 5 = some [.int .u8] := by kernel_rfl
theorem xCav24 : xsh PP 8 40 = some [.int .i64, .int .i64, .int .i64, .int .i64, .int .u64] := by kernel_rfl
theorem xTok24 : xsh PP 8 37 = some [.int .i64, .slc 5, .slc 40, .row .u8 32] := by kernel_rfl
section
variable {D : Type} {enc : TypeId × Value → D} {W : World}
theorem bytes24_of {p : Option Addr} {l c : Nat} (h : Sli enc PP W 5 p l c) : ∃ ns : List Int, hsv W.heap p 1 l (ints .u8 ns) ∧ isBytes ns ∧ l ≤ c ∧ l + 4096 ≤ 2 ^ 47 := by
 have hb : Tryz.prog.bytesOf 5 = 1 := by kernel_rfl
 have hc : Tryz.prog.cellsOf 5 = 1 := by kernel_rfl
 obtain ⟨ess, h1, h2, h3, _⟩ := h.els xByte24
 have hlc := h.1
 have hr := h.2.1
 rw [hb] at hr
 rw [hc] at h3
 have key : ∀ ess : List (List Value), (∀ es, es ∈ ess → es.length = Tryz.prog.cellsOf 5 ∧ XM enc PP W [XSh.int .u8] es) → ∃ ns : List Int, ess.flatten = ints .u8 ns ∧ isBytes ns := by
  intro ess
  induction ess with
  | nil => intro _; exact ⟨[], rfl, by intro n hn; simp at hn⟩
  | cons x r ih =>
   intro h
   obtain ⟨ns, e, hn⟩ := ih fun es hes => h es (by simp [hes])
   obtain ⟨n, rest, rfl, hh, hr⟩ := (h x (by simp)).2
   simp only [XM] at hr
   subst hr
   refine ⟨n :: ns, by simp [e], ?_⟩
   intro m hm
   rcases List.mem_cons.1 hm with rfl | hm
   ·exact has_u8 hh
   ·exact hn m hm
 obtain ⟨ns, e, hn⟩ := key ess h2
 rw [e] at h3
 refine ⟨ns, h3, hn, hlc, ?_⟩
 unfold reachBytes at hr
 omega
theorem cavs_of {p : Option Addr} {l c : Nat} (h : Sli enc PP W 40 p l c) : ∃ cs : List CvM, hsv W.heap p 5 l (cvsV cs) ∧ (∀ c, c ∈ cs → c.typed) ∧ l ≤ c ∧ l * 40 + 4096 ≤ 2 ^ 47 := by
 have hb : Tryz.prog.bytesOf 40 = 40 := by kernel_rfl
 have hc : Tryz.prog.cellsOf 40 = 5 := by kernel_rfl
 obtain ⟨ess, h1, h2, h3, _⟩ := h.els xCav24
 have hlc := h.1
 have hr := h.2.1
 rw [hb] at hr
 rw [hc] at h3
 have key : ∀ ess : List (List Value), (∀ es, es ∈ ess → es.length = Tryz.prog.cellsOf 40 ∧ XM enc PP W [XSh.int .i64, .int .i64, .int .i64, .int .i64, .int .u64] es) → ∃ cs : List CvM, ess.flatten = cvsV cs ∧ ∀ c, c ∈ cs → c.typed := by
  intro ess
  induction ess with
  | nil => intro _; exact ⟨[], rfl, by intro n hn; simp at hn⟩
  | cons x r ih =>
   intro h
   obtain ⟨cs, e, hn⟩ := ih fun es hes => h es (by simp [hes])
   obtain ⟨a, _, rfl, ha, b, _, rfl, hb, c, _, rfl, hc, d, _, rfl, hd, f, _, rfl, hf, hr⟩ := (h x (by simp)).2
   simp only [XM] at hr
   subst hr
   refine ⟨⟨a, b, c, d, f⟩ :: cs, by simp [e, cvsV], ?_⟩
   intro m hm
   rcases List.mem_cons.1 hm with rfl | hm
   ·exact ⟨ha, hb, hc, hd, hf⟩
   ·exact hn m hm
 obtain ⟨cs, e, hn⟩ := key ess h2
 rw [e] at h3
 refine ⟨cs, h3, hn, hlc, ?_⟩
 unfold reachBytes at hr
 omega
theorem slice24_of {t e : TypeId} {v : Value} {base : Nat} (u : Tryz.prog.underlying t = some (.slice e)) (h : Rdt enc PP W t v.cells.toList) (ho : Value.okWide PP W .any base t v) : ∃ p l c, v = .slice p l c ∧ Sli enc PP W e p l c := by
 obtain ⟨p, l, c, e1, hs⟩ := Rdt.slice u h
 exact ⟨p, l, c, okw_one (by rw [u]) ho e1, hs⟩
structure TokIn (h : H) (key : Int) (id tag : List Int) (cs : List CvM) (ip : Option Addr) (il : Nat) (cp : Option Addr) (cl : Nat) : Prop where
 key : has .i64 key
 ri : hsv h ip 1 il (ints .u8 id)
 rb : isBytes id
 ii : il + 4096 ≤ 2 ^ 47
 rc : hsv h cp 5 cl (cvsV cs)
 ct : ∀ c, c ∈ cs → c.typed
 cc : cl * 40 + 4096 ≤ 2 ^ 47
 tl : tag.length = 32
 tb : isBytes tag
end
end Go.Proofs.YtaglicdidpgkpaaGreatDoor
end
