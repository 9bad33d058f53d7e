/- StreamDoes and its parts, laid together by a program of ours: Tk1 Tk2 Tk3 Tk4 Tk6 Tk7 Tr2 Tr6 At Rs1 Rs2 Rm1 Tm2 Au Tm3 Tm4 To1 Tq1 Ch8 Rf3 -/
import Derived.Test.YteedolonhdbieaaGreatDoorRows
import Derived.Test.YteedolonhdbieaaGreatDoorK10
set_option autoImplicit false
set_option linter.all false
section
namespace Go.Proofs.YteedolonhdbieaaGreatDoor
open Go Go.Vc
set_option maxRecDepth 100000
structure CvM where
 kind : Int
 slot : Int
 frm : Int
 to : Int
 set : Int
abbrev cvV (c : CvM) : List Value := [.int .i64 c.kind, .int .i64 c.slot, .int .i64 c.frm, .int .i64 c.to, .int .u64 c.set]
def CvM.may (c : CvM) : Prop :=
 (c.kind = 1 /\ (0 ≤ c.slot /\ c.slot < 8) /\ c.frm = 0 /\ c.to = 0 /\ c.set = 0) ∨
 (c.kind = 2 /\ (0 ≤ c.frm /\ c.frm ≤ c.to /\ c.to < 4294967296) /\ c.slot = 0 /\ c.set = 0) ∨
 (c.kind = 3 /\ (c.set ≠ 0 /\ bits .andNot .u64 c.set 16382 = 0) /\ c.slot = 0 /\ c.frm = 0 /\ c.to = 0) ∨
 (c.kind = 4 /\ (0 ≤ c.slot /\ c.slot < 8) /\ (0 ≤ c.frm /\ c.frm ≤ 4611686018427387904) /\ c.to = 0 /\ c.set = 0) ∨
 (c.kind = 5 /\ (0 ≤ c.slot /\ c.slot < 8) /\ (0 ≤ c.to /\ c.to ≤ 4611686018427387904) /\ c.frm = 0 /\ c.set = 0)
instance instDecCv (c : CvM) : Decidable c.may := by unfold CvM.may; infer_instance
section
variable {h0 h : H} {A : List Ent} {i d : Nat}
end
def cvsV : List CvM -> List Value
 | [] => []
 | c :: r => cvV c ++ cvsV r
section
variable {h0 h : H} {A : List Ent} {i d : Nat}
end
theorem loopS {J : List SV -> H -> Prop} {σ : Type} (N : Nat) (S : Nat -> σ -> List SV) (Inv : Nat -> σ -> H -> Prop) (step : ∀ i s h, i < N -> Inv i s h -> (∀ s' h', Inv (i + 1) s' h' -> J (S (i + 1) s') h') -> J (S i s) h)
  (exit : ∀ s h, Inv N s h -> J (S N s) h) (i : Nat) (s : σ) (h : H) (hi : i ≤ N) (inv : Inv i s h) : J (S i s) h := by
 generalize e : N - i = n
 induction n generalizing i s h with
 | zero =>
  have : i = N := by omega
  subst this; exact exit s h inv
 | succ n ih => exact step i s h (by omega) inv fun s' h' inv' => ih (i + 1) s' h' (by omega) inv' (by omega)
theorem capS {h0 h : H} {A : List Ent} (hs : Sat h0 A h) {i : Nat} {p : Option Addr} {l c sz : Nat} {vs : List Value} (m : At A i (slE p l c sz vs)) : l ≤ c := by
 obtain ⟨f, hp, _⟩ := hs.take m
 obtain ⟨bs, o, _⟩ := slE_P.1 hp
 exact o.2.1
section
variable {h0 h : H} {A : List Ent} {i d : Nat}
theorem clone1_sp {Q : Option Addr -> Nat -> Nat -> H -> Prop} {p : Option Addr} {l c : Nat} {vs : List Value} (hs : Sat h0 A h) (hl : l < 2 ^ 47) (rd : ∀ h', Sat h0 A h' -> hsv h' p 1 l vs)
  (k : ∀ p' c' h', (p.isNone = true -> p' = none /\ l = 0) -> Sat h0 (slE p' l c' 1 vs :: A) h' -> Q p' l c' h') : F_slices_Clone_byte_byte p l c Q h := by
 unfold F_slices_Clone_byte_byte G_slices_Clone_byte_byte
 have R := rd _ hs
 by_cases g : p.isNone = true
 ·rw [if_pos g]
  have hp : p = none := by simpa using g
  subst hp
  have e := hsv_none R
  subst e
  have hl0 : l = 0 := by have := R.1; simp at this; omega
  subst hl0
  exact k none 0 h (fun _ => ⟨rfl, rfl⟩) (hs.sl_nil 1 none)
 ·rw [if_neg g]
  intro b _ hn; replace hs := Sat.new hs hn
  have R2 := rd _ hs.drop
  refine ⟨vs, R2, ?_⟩
  refine Sat.app_new hs R2.1 rfl R2.2.1 (by omega) ?_
  intro p' c' h1 hs
  exact k _ _ _ (fun y => absurd y g) (hs.sub (by (repeat (first | exact List.Sublist.refl _ | apply List.Sublist.cons_cons | apply List.Sublist.cons))))
def TokMay (key : Int) (id : List Int) (cs : List CvM) : Prop := (0 ≤ key /\ key < 64) /\ (1 ≤ id.length /\ id.length ≤ 64) /\ cs.length ≤ 32 /\ ∀ c ∈ cs, c.may
instance (key : Int) (id : List Int) (cs : List CvM) : Decidable (TokMay key id cs) := by unfold TokMay; infer_instance
theorem ints_app (k : IntKind) (a b : List Int) : ints k (a ++ b) = ints k a ++ ints k b := by unfold ints; rw [List.map_append]
end
theorem zeros_len (n : Nat) : (zeros n).length = n := by simp [zeros]
section
variable {h0 h : H} {A : List Ent} {i j d r m : Nat}
theorem has_sp {Q : Bool -> H -> Prop} (key : Int) {es : List (Value × DV)} {b : Bool} {op : Option Addr} {ol oc : Nat} (hs : Sat h0 A h) (cr : At A i (blk r [.map (some m)])) (cm : At A j (mapE m es)) (hl : mlook (.int .i64 key) (.one (.slice none 0 0)) es = some (.one (.slice op ol oc), b))
  (q : Q b h) : F_keys_Ring_Has ⟨r, 0, none⟩ key Q h := by
 unfold F_keys_Ring_Has G_keys_Ring_Has
 exact ⟨_, hs.ld cr rfl, _, _, _, hs.mapAt cm, hl, _, _, _, rfl, q⟩
theorem sign_sp {Q : List Int -> Int -> H -> Prop} {key : Int} {es : List (Value × DV)} {sp bp : Option Addr} {sl sc bl bc : Nat} {secret b : List Int} (hs : Sat h0 A h) (cr : At A i (blk r [.map (some m)])) (cm : At A j (mapE m es)) (hl : mlook (.int .i64 key) (.one (.slice none 0 0)) es = some (.one (.slice sp sl sc), true))
  (hsc : sl ≤ sc) (hsl : sl < 2 ^ 40) (hbc : bl ≤ bc) (hbl : bl < 2 ^ 40) (rs : ∀ h', Sat h0 A h' -> hsv h' sp 1 sl (ints .u8 secret)) (rb : ∀ h', Sat h0 A h' -> hsv h' bp 1 bl (ints .u8 b)) (k : ∀ h', Sat h0 A h' -> Q (macM secret b) 0 h') : F_keys_Ring_Sign ⟨r, 0, none⟩ key bp bl bc Q h := by
 unfold F_keys_Ring_Sign G_keys_Ring_Sign
 simp only [List.append_nil]
 intro ob _ hn; replace hs := Sat.new hs hn
 refine ⟨_, hs.ld cr.s rfl, _, _, _, hs.mapAt cm.s, hl, _, _, _, rfl, ?_⟩
 rw [if_neg (by decide)]
 refine MacOf_sp (key := secret) (b := b) hs hsc (by omega) hbc (by omega) (fun h' hs' => rs _ hs'.drop) (fun h' hs' => rb _ hs'.drop) ?_
 intro h2 hs
 refine ⟨Sat.can hs .z (by simp [zeros]), ?_⟩
 intro h3 e
 replace hs := Sat.wra hs .z e (by simp [zeros, macM_len])
 clear e
 simp only [put_zero] at hs
 exact ⟨_, macM_len _ _, hs.row0 .z, k _ hs.drop⟩
end
structure TkM where
 key : Int
 id : List Int
 cs : List CvM
 tag : List Int
def isBytes (bs : List Int) : Prop := ∀ n, n ∈ bs -> 0 ≤ n /\ n < 256
section
variable {h0 h : H} {A : List Ent} {i j d : Nat}
end
set_option maxRecDepth 1000000
theorem nIF (t : TypeId) (v : Value) : ¬ isNilI (.iface t v) = true := Bool.false_ne_true
section
variable {h0 h : H} {A : List Ent} {i j d : Nat}
end
theorem take_snoc {α : Type} (l : List α) {t : Nat} (h : t < l.length) : l.take (t + 1) = l.take t ++ [l[t]] := by rw [List.take_succ, List.getElem?_eq_getElem h]; rfl
section
variable {h0 h : H} {A : List Ent} {i j d : Nat}
end
def CvM.typed (c : CvM) : Prop := has .i64 c.kind /\ has .i64 c.slot /\ has .i64 c.frm /\ has .i64 c.to /\ has .u64 c.set
end Go.Proofs.YteedolonhdbieaaGreatDoor
end
section
namespace Go.Proofs.YteedolonhdbieaaGreatDoor
open Go Go.Vc Go.ChangeShapes Go.WideShapes Go.ChangeAt Go.RowKit
set_option maxRecDepth 100000
theorem xByte24 : xsh PP 8 5 = some [.int .u8] := by kernel_rfl
section
variable {D : Type} {enc : TypeId × Value -> D} {W : World}
theorem bytes24_of {p : Option Addr} {l c : Nat} (h : Sli enc PP W 5 p l c) : ∃ ns : List Int, hsv W.heap p 1 l (ints .u8 ns) /\ isBytes ns /\ l ≤ c /\ l + 4096 ≤ 2 ^ 47 := by
 have hb : Tryz.prog.bytesOf 5 = 1 := by kernel_rfl
 have hc : Tryz.prog.cellsOf 5 = 1 := by kernel_rfl
 obtain ⟨ess, h1, h2, h3, _⟩ := h.els xByte24
 have hlc := h.1
 have hr := h.2.1
 rw [hb] at hr
 rw [hc] at h3
 have key : ∀ ess : List (List Value), (∀ es, es ∈ ess -> es.length = Tryz.prog.cellsOf 5 /\ XM enc PP W [XSh.int .u8] es) -> ∃ ns : List Int, ess.flatten = ints .u8 ns /\ isBytes ns := by
  intro ess
  induction ess with
  | nil => intro _; exact ⟨[], rfl, by intro n hn; simp at hn⟩
  | cons x r ih =>
   intro h
   obtain ⟨ns, e, hn⟩ := ih fun es hes => h es (by simp [hes])
   obtain ⟨n, rest, rfl, hh, hr⟩ := (h x (by simp)).2
   simp only [XM] at hr
   subst hr
   refine ⟨n :: ns, by simp [e], ?_⟩
   intro m hm
   rcases List.mem_cons.1 hm with rfl | hm
   ·exact has_u8 hh
   ·exact hn m hm
 obtain ⟨ns, e, hn⟩ := key ess h2
 rw [e] at h3
 refine ⟨ns, h3, hn, hlc, ?_⟩
 unfold reachBytes at hr
 omega
theorem slice24_of {t e : TypeId} {v : Value} {base : Nat} (u : Tryz.prog.underlying t = some (.slice e)) (h : Rdt enc PP W t v.cells.toList) (ho : Value.okWide PP W .any base t v) : ∃ p l c, v = .slice p l c /\ Sli enc PP W e p l c := by
 obtain ⟨p, l, c, e1, hs⟩ := Rdt.slice u h
 exact ⟨p, l, c, okw_one (by rw [u]) ho e1, hs⟩
structure TokIn (h : H) (key : Int) (id tag : List Int) (cs : List CvM) (ip : Option Addr) (il : Nat) (cp : Option Addr) (cl : Nat) : Prop where
 key : has .i64 key
 ri : hsv h ip 1 il (ints .u8 id)
 rb : isBytes id
 ii : il + 4096 ≤ 2 ^ 47
 rc : hsv h cp 5 cl (cvsV cs)
 ct : ∀ c, c ∈ cs -> c.typed
 cc : cl * 40 + 4096 ≤ 2 ^ 47
 tl : tag.length = 32
 tb : isBytes tag
end
end Go.Proofs.YteedolonhdbieaaGreatDoor
end
section
namespace Go.Proofs.YteedolonhdbieaaGreatDoor
open Go Go.Vc
set_option maxRecDepth 100000
def isBy (bs : List Int) : Prop := ∀ n, n ∈ bs -> 0 ≤ n /\ n < 256
theorem isBy_get {bs : List Int} (hb : isBy bs) (x : Nat) : 0 ≤ bs.getD x 0 /\ bs.getD x 0 < 256 := by
 rw [List.getD_eq_getElem?_getD]
 cases e : bs[x]? with
 | none => exact ⟨by decide, by decide⟩
 | some v => exact hb v (List.mem_iff_getElem?.2 ⟨x, e⟩)
theorem or_comm32 (a b : Int) : bits .or .u32 a b = bits .or .u32 b a := by
 have e : ∀ x y : Int, bits .or .u32 x y = IntKind.u32.wrap ((BitVec.ofInt 32 x ||| BitVec.ofInt 32 y).toNat : Int) := fun _ _ => rfl
 rw [e, e, BitVec.or_comm]
theorem wrapU32 (n : Int) : IntKind.u32.wrap n = n % 4294967296 := by simp [IntKind.wrap, IntKind.signed, IntKind.bits]
theorem or_nat32 {x y : Nat} (hx : x < 2 ^ 32) (hy : y < 2 ^ 32) : bits .or .u32 (x : Int) (y : Int) = ((x ||| y : Nat) : Int) := by
 have : bits .or .u32 (x : Int) (y : Int) = IntKind.u32.wrap ((BitVec.ofInt 32 (x : Int) ||| BitVec.ofInt 32 (y : Int)).toNat : Int) := rfl
 rw [this, BitVec.ofInt_natCast, BitVec.ofInt_natCast, BitVec.toNat_or, BitVec.toNat_ofNat, BitVec.toNat_ofNat, Nat.mod_eq_of_lt hx, Nat.mod_eq_of_lt hy, wrapU32]
 have h3 : x ||| y < 2 ^ 32 := Nat.or_lt_two_pow hx hy
 omega
theorem or_hi {a b k : Nat} (hb : b < 2 ^ k) (h : 2 ^ k * a + b < 2 ^ 32) : bits .or .u32 ((2 ^ k * a : Nat) : Int) (b : Int) = ((2 ^ k * a + b : Nat) : Int) := by
 rw [or_nat32 (by omega) (by omega), ← Nat.two_pow_add_eq_or_of_lt hb]
theorem word4 {a b c d : Int} (ha : 0 ≤ a /\ a < 256) (hb : 0 ≤ b /\ b < 256) (hc : 0 ≤ c /\ c < 256) (hd : 0 ≤ d /\ d < 256) :
  bits .or .u32 (bits .or .u32 (bits .or .u32 (IntKind.u32.wrap (IntKind.u32.wrap a * 2 ^ 24)) (IntKind.u32.wrap (IntKind.u32.wrap b * 2 ^ 16))) (IntKind.u32.wrap (IntKind.u32.wrap c * 2 ^ 8))) (IntKind.u32.wrap d) = accM [a, b, c, d] 4 := by
 obtain ⟨a, rfl⟩ := Int.eq_ofNat_of_zero_le ha.1
 obtain ⟨b, rfl⟩ := Int.eq_ofNat_of_zero_le hb.1
 obtain ⟨c, rfl⟩ := Int.eq_ofNat_of_zero_le hc.1
 obtain ⟨d, rfl⟩ := Int.eq_ofNat_of_zero_le hd.1
 have wa : IntKind.u32.wrap (a : Int) = (a : Int) := by rw [wrapU32]; omega
 have wb : IntKind.u32.wrap (b : Int) = (b : Int) := by rw [wrapU32]; omega
 have wc : IntKind.u32.wrap (c : Int) = (c : Int) := by rw [wrapU32]; omega
 have wd : IntKind.u32.wrap (d : Int) = (d : Int) := by rw [wrapU32]; omega
 have x24 : IntKind.u32.wrap ((a : Int) * 2 ^ 24) = ((2 ^ 24 * a : Nat) : Int) := by rw [wrapU32]; omega
 have x16 : IntKind.u32.wrap ((b : Int) * 2 ^ 16) = ((2 ^ 16 * b : Nat) : Int) := by rw [wrapU32]; omega
 have x8 : IntKind.u32.wrap ((c : Int) * 2 ^ 8) = ((2 ^ 8 * c : Nat) : Int) := by rw [wrapU32]; omega
 rw [wa, wb, wc, wd, x24, x16, x8]
 rw [or_hi (by omega) (by omega)]
 have e1 : (2 ^ 24 * a + 2 ^ 16 * b : Nat) = 2 ^ 16 * (2 ^ 8 * a + b) := by omega
 rw [e1, or_hi (by omega) (by omega)]
 have e2 : (2 ^ 16 * (2 ^ 8 * a + b) + 2 ^ 8 * c : Nat) = 2 ^ 8 * (2 ^ 16 * a + 2 ^ 8 * b + c) := by omega
 rw [e2, or_hi (by omega) (by omega)]
 have s0 : accM [(a : Int), b, c, d] 1 = ((2 ^ 0 * 0 + a : Nat) : Int) := by
  show bits .or .u32 (IntKind.u32.wrap (0 * 2 ^ 8)) (IntKind.u32.wrap (a : Int)) = _
  rw [wa]
  exact or_hi (k := 8) (a := 0) (b := a) (by omega) (by omega)
 have s1 : accM [(a : Int), b, c, d] 2 = ((2 ^ 8 * a + b : Nat) : Int) := by
  show bits .or .u32 (IntKind.u32.wrap (accM [(a : Int), b, c, d] 1 * 2 ^ 8)) (IntKind.u32.wrap (b : Int)) = _
  rw [s0, wb, show IntKind.u32.wrap (((2 ^ 0 * 0 + a : Nat) : Int) * 2 ^ 8) = ((2 ^ 8 * a : Nat) : Int) by rw [wrapU32]; omega]
  exact or_hi (by omega) (by omega)
 have s2 : accM [(a : Int), b, c, d] 3 = ((2 ^ 8 * (2 ^ 8 * a + b) + c : Nat) : Int) := by
  show bits .or .u32 (IntKind.u32.wrap (accM [(a : Int), b, c, d] 2 * 2 ^ 8)) (IntKind.u32.wrap (c : Int)) = _
  rw [s1, wc, show IntKind.u32.wrap (((2 ^ 8 * a + b : Nat) : Int) * 2 ^ 8) = ((2 ^ 8 * (2 ^ 8 * a + b) : Nat) : Int) by rw [wrapU32]; omega]
  exact or_hi (by omega) (by omega)
 have s3 : accM [(a : Int), b, c, d] 4 = ((2 ^ 8 * (2 ^ 8 * (2 ^ 8 * a + b) + c) + d : Nat) : Int) := by
  show bits .or .u32 (IntKind.u32.wrap (accM [(a : Int), b, c, d] 3 * 2 ^ 8)) (IntKind.u32.wrap (d : Int)) = _
  rw [s2, wd, show IntKind.u32.wrap (((2 ^ 8 * (2 ^ 8 * a + b) + c : Nat) : Int) * 2 ^ 8) = ((2 ^ 8 * (2 ^ 8 * (2 ^ 8 * a + b) + c) : Nat) : Int) by rw [wrapU32]; omega]
  exact or_hi (by omega) (by omega)
 rw [s3]
 congr 1
 omega
theorem take4 {bs : List Int} {o : Nat} (h : o + 4 ≤ bs.length) : (bs.drop o).take 4 = [bs.getD o 0, bs.getD (o + 1) 0, bs.getD (o + 2) 0, bs.getD (o + 3) 0] := by
 apply List.ext_getElem (by simp; omega)
 intro i h1 h2
 simp only [List.length_cons, List.length_nil, Nat.zero_add] at h2
 rw [List.getElem_take, List.getElem_drop]
 have g : ∀ x (hx : x < bs.length), bs.getD x 0 = bs[x] := fun x hx => by rw [List.getD_eq_getElem?_getD, List.getElem?_eq_getElem hx]; rfl
 have : i = 0 ∨ i = 1 ∨ i = 2 ∨ i = 3 := by omega
 rcases this with rfl | rfl | rfl | rfl
 ·exact (g o (by omega)).symm
 ·exact (g (o + 1) (by omega)).symm
 ·exact (g (o + 2) (by omega)).symm
 ·exact (g (o + 3) (by omega)).symm
section
variable {h0 h : H} {A : List Ent} {i d : Nat}
theorem turned_sp {Q : Int -> H -> Prop} (x : Int) (m : Nat) {mi : Int} (e : mi = (m : Int)) (h1 : 1 ≤ m) (h2 : m < 32) (q : Q (rotM x m) h) : F_portcullisref02_turned x mi Q h := by
 subst e
 unfold F_portcullisref02_turned G_portcullisref02_turned
 have e : IntKind.i64.wrap (32 - (m : Int)) = ((32 - m : Nat) : Int) := by rw [wrap_id (by omega)]; omega
 rw [e]
 refine ⟨by omega, by omega, ?_⟩
 rw [Int.toNat_natCast, Int.toNat_natCast, Nat.min_eq_left (by omega), Nat.min_eq_left (by omega), or_comm32]
 exact q
theorem words_sp {Q : List Int -> H -> Prop} {bs : List Int} {p : Option Addr} {l c : Nat} (hs : Sat h0 A h) (hb : isBy bs) (hl : 64 ≤ l) (rd : ∀ h', Sat h0 A h' -> hsv h' p 1 l (ints .u8 bs)) (k : ∀ h', Sat h0 A h' -> Q (wM bs 64) h') : F_portcullisref02_words p l c Q h := by
 unfold F_portcullisref02_words G_portcullisref02_words
 try simp only [add_mk, Nat.zero_add, List.append_nil]
 have hbl : bs.length = l := by have := (rd _ hs).1; simpa using this
 intro rb _ hn; replace hs := Sat.new hs hn
 intro wn _ hn; replace hs := Sat.new hs hn
 refine ⟨Sat.can hs .z (by simp [zeros]), ?_⟩
 intro h2 e
 replace hs := Sat.wra hs .z e rfl
 clear e
 simp only [put_zero] at hs
 obtain ⟨q, hq, _⟩ := hsvI (rd _ hs.drop.drop) (x := 0) (by omega)
 subst hq
 intro J14 hJ14
 refine loop_up 16 (fun t h => Sat h0 (blk wn (ints .u32 (wM bs t)) :: blk rb (ints .u32 (zeros 64)) :: A) h) ?_ ?_ 0 _ (by omega) hs
 ·intro t h1 ht hs hk
  apply hJ14
  rw [ltI_eq, if_pos (by simp; omega)]
  have e0 : IntKind.i64.wrap (4 * (t : Int)) = ((4 * t : Nat) : Int) := by rw [wrap_id (by omega)]; push_cast; rfl
  have e1 : IntKind.i64.wrap (((4 * t : Nat) : Int) + 1) = ((4 * t + 1 : Nat) : Int) := by rw [wrap_id (by omega)]; push_cast; rfl
  have e2 : IntKind.i64.wrap (((4 * t : Nat) : Int) + 2) = ((4 * t + 2 : Nat) : Int) := by rw [wrap_id (by omega)]; push_cast; rfl
  have e3 : IntKind.i64.wrap (((4 * t : Nat) : Int) + 3) = ((4 * t + 3 : Nat) : Int) := by rw [wrap_id (by omega)]; push_cast; rfl
  rw [e0, e1, e2, e3]
  simp only [Int.toNat_natCast, Nat.mul_one]
  have g : ∀ x, x < l -> hc h1 (q.add x) = some (.int .u8 (bs.getD x 0)) := by
   intro x hx
   obtain ⟨q', hq', g⟩ := hsvI (rd _ hs.drop.drop) (x := x) hx
   injection hq' with hq'
   subst hq'
   exact g
  refine ⟨q, rfl, by omega, by omega, _, g _ (by omega), by decide, q, rfl, by omega, by omega, _, g _ (by omega), by decide, q, rfl, by omega, by omega, _, g _ (by omega), by decide, q, rfl, by omega, by omega, _, g _ (by omega), by omega, by omega, ?_⟩
  have hlen := wM_len bs t
  refine ⟨Sat.can hs .z (by simp [hlen]; omega), ?_⟩
  intro h3 e
  replace hs := Sat.wr hs .z e
  clear e
  rw [intsP] at hs
  simp only [put_zero] at hs
  rw [wrap_succ (by omega)]
  refine hk _ ?_
  show Sat h0 (blk wn (ints .u32 ((wM bs t).set t _)) :: blk rb (ints .u32 (zeros 64)) :: A) h3
  rw [if_pos ht, take4 (by omega), ← word4 (isBy_get hb _) (isBy_get hb _) (isBy_get hb _) (isBy_get hb _)]
  exact hs
 ·intro h1 hs
  apply hJ14
  rw [ltI_eq, if_neg (by decide)]
  clear hJ14 J14
  intro J27 hJ27
  refine loop_up 64 (fun t h => 16 ≤ t /\ Sat h0 (blk wn (ints .u32 (wM bs t)) :: blk rb (ints .u32 (zeros 64)) :: A) h) ?_ ?_ 16 _ (by omega) ⟨by omega, hs⟩
  ·rintro t h2 ht ⟨ht2, hs⟩ hk
   apply hJ27
   rw [ltI_eq, if_pos (by simp; omega)]
   have hlen := wM_len bs t
   have e15 : IntKind.i64.wrap ((t : Int) - 15) = ((t - 15 : Nat) : Int) := by rw [wrap_id (by omega)]; omega
   have e2 : IntKind.i64.wrap ((t : Int) - 2) = ((t - 2 : Nat) : Int) := by rw [wrap_id (by omega)]; omega
   have e16 : IntKind.i64.wrap ((t : Int) - 16) = ((t - 16 : Nat) : Int) := by rw [wrap_id (by omega)]; omega
   have e7 : IntKind.i64.wrap ((t : Int) - 7) = ((t - 7 : Nat) : Int) := by rw [wrap_id (by omega)]; omega
   rw [e15, e2, e16, e7]
   simp only [Int.toNat_natCast, Nat.mul_one]
   have g := fun (x : Nat) (hx : x < 64) => hs.ld (i := 0) (b := wn) .z (intsG (k := .u32) (l := wM bs t) (i := x) (by omega))
   refine ⟨by omega, by omega, _, g _ (by omega), by omega, by omega, _, g _ (by omega), ?_⟩
   refine turned_sp _ 7 rfl (by decide) (by decide) ?_
   refine turned_sp _ 18 rfl (by decide) (by decide) ?_
   refine ⟨by decide, ?_⟩
   refine turned_sp _ 17 rfl (by decide) (by decide) ?_
   refine turned_sp _ 19 rfl (by decide) (by decide) ?_
   refine ⟨by decide, by omega, by omega, _, g _ (by omega), by omega, by omega, _, g _ (by omega), by omega, by omega, ?_⟩
   refine ⟨Sat.can hs .z (by simp [hlen]; omega), ?_⟩
   intro h3 e
   replace hs := Sat.wr hs .z e
   clear e
   rw [intsP] at hs
   simp only [put_zero] at hs
   rw [wrap_succ (by omega)]
   refine hk _ ⟨by omega, ?_⟩
   show Sat h0 (blk wn (ints .u32 ((wM bs t).set t _)) :: blk rb (ints .u32 (zeros 64)) :: A) h3
   rw [if_neg (by omega)]
   exact hs
  ·rintro h2 ⟨_, hs⟩
   apply hJ27
   rw [ltI_eq, if_neg (by decide)]
   refine ⟨_, wM_len bs 64, hs.row0 .z, ?_⟩
   refine ⟨Sat.can hs zs1 (by simp [zeros]), ?_⟩
   intro h3 e
   replace hs := Sat.wra hs zs1 e (by simp [zeros, wM_len])
   clear e
   simp only [put_succ, put_zero] at hs
   exact ⟨_, wM_len bs 64, hs.row0 zs1, k _ hs.drop.drop⟩
theorem piece_sp {Q : List Int -> H -> Prop} {s bs : List Int} {p : Option Addr} {l c : Nat} (hs : Sat h0 A h) (l1 : s.length = 8) (hb : isBy bs) (hl : 64 ≤ l) (rd : ∀ h', Sat h0 A h' -> hsv h' p 1 l (ints .u8 bs)) (k : ∀ h', Sat h0 A h' -> Q (pieceM s bs) h') : F_portcullisref02_piece s p l c kM Q h := by
 unfold F_portcullisref02_piece G_portcullisref02_piece
 try simp only [add_mk, Nat.zero_add, List.append_nil]
 intro sb _ hn; replace hs := Sat.new hs hn
 intro kb _ hn; replace hs := Sat.new hs hn
 intro rb _ hn; replace hs := Sat.new hs hn
 refine words_sp hs hb hl (fun h' hs' => rd _ hs'.drop.drop.drop) ?_
 intro h1 hs
 obtain ⟨w, hw⟩ : ∃ w, w = wM bs 64 := ⟨_, rfl⟩
 have hwl : w.length = 64 := by rw [hw]; exact wM_len _ _
 rw [← hw]
 intro wn _ hn; replace hs := Sat.new hs hn
 refine ⟨Sat.can hs .z (by simp [zeros]), ?_⟩
 intro h2 e
 replace hs := Sat.wra hs .z e (by simp [zeros, hwl])
 clear e
 simp only [put_zero] at hs
 refine ⟨s, l1, hs.row0 zs3, ?_⟩
 intro sn _ hn; replace hs := Sat.new hs hn
 refine ⟨Sat.can hs .z (by simp [zeros]), ?_⟩
 intro h3 e
 replace hs := Sat.wra hs .z e (by simp [zeros, l1])
 clear e
 simp only [put_zero] at hs
 intro J31 hJ31
 refine loop_up 64 (fun t h => Sat h0 (blk sn (ints .u32 (rM w s t)) :: blk wn (ints .u32 w) :: blk rb (ints .u32 (zeros 8)) :: blk kb (ints .u32 kM) :: blk sb (ints .u32 s) :: A) h) ?_ ?_ 0 _ (by omega) hs
 ·intro t h4 ht hs hk
  apply hJ31
  rw [ltI_eq, if_pos (by simp; omega)]
  obtain ⟨a, b, c, dd, e, f, g, hh, hr⟩ := len8 (rM_len w s l1 t)
  rw [hr] at hs
  simp only [Int.toNat_natCast, Nat.mul_one]
  have gk : hc h4 ⟨kb, t, none⟩ = some (.int .u32 (kM.getD t 0)) := hs.ld zs3 (intsG (by rw [kM_len]; omega))
  have gw : hc h4 ⟨wn, t, none⟩ = some (.int .u32 (w.getD t 0)) := hs.ld zs1 (intsG (by omega))
  have g0 : hc h4 ⟨sn, 0, none⟩ = some (.int .u32 a) := hs.ld .z rfl
  have g1 : hc h4 ⟨sn, 1, none⟩ = some (.int .u32 b) := hs.ld .z rfl
  have g2 : hc h4 ⟨sn, 2, none⟩ = some (.int .u32 c) := hs.ld .z rfl
  have g3 : hc h4 ⟨sn, 3, none⟩ = some (.int .u32 dd) := hs.ld .z rfl
  have g4 : hc h4 ⟨sn, 4, none⟩ = some (.int .u32 e) := hs.ld .z rfl
  have g5 : hc h4 ⟨sn, 5, none⟩ = some (.int .u32 f) := hs.ld .z rfl
  have g6 : hc h4 ⟨sn, 6, none⟩ = some (.int .u32 g) := hs.ld .z rfl
  have g7 : hc h4 ⟨sn, 7, none⟩ = some (.int .u32 hh) := hs.ld .z rfl
  refine ⟨by decide, by decide, _, g0, by decide, by decide, _, g4, by decide, by decide, _, g7, by decide, by decide, _, g5, by decide, by decide, _, g6, by omega, by omega, _, gk, by omega, by omega, _, gw, ?_⟩
  refine turned_sp _ 6 rfl (by decide) (by decide) ?_
  refine ⟨hcs_one gw, hcs_one gk, hcs_one g6, hcs_one g5, hcs_one g7, ?_⟩
  refine turned_sp _ 11 rfl (by decide) (by decide) ?_
  refine ⟨hcs_one gw, hcs_one gk, hcs_one g6, hcs_one g5, hcs_one g7, ?_⟩
  refine turned_sp _ 25 rfl (by decide) (by decide) ?_
  refine ⟨hcs_one gw, hcs_one gk, hcs_one g6, hcs_one g5, hcs_one g7, ?_⟩
  refine ⟨by decide, by decide, _, g1, by decide, by decide, _, g2, by decide, by decide, _, g1, by decide, by decide, _, g2, ?_⟩
  refine turned_sp _ 2 rfl (by decide) (by decide) ?_
  refine ⟨hcs_one g2, hcs_one g1, hcs_one g2, hcs_one g1, ?_⟩
  refine turned_sp _ 13 rfl (by decide) (by decide) ?_
  refine ⟨hcs_one g2, hcs_one g1, hcs_one g2, hcs_one g1, ?_⟩
  refine turned_sp _ 22 rfl (by decide) (by decide) ?_
  refine ⟨hcs_one g2, hcs_one g1, hcs_one g2, hcs_one g1, ?_⟩
  refine ⟨by decide, by decide, _, g0, by decide, by decide, _, g1, by decide, by decide, _, g2, by decide, by decide, _, g3, by decide, by decide, _, g4, by decide, by decide, _, g5, by decide, by decide, _, g6, ?_⟩
  refine ⟨Sat.can hs .z (by simp), ?_⟩
  intro h5 e5
  replace hs := Sat.wra hs .z e5 (by simp)
  clear e5
  simp only [put_zero] at hs
  rw [wrap_succ (by omega)]
  refine hk _ ?_
  show Sat h0 (blk sn (ints .u32 (shStepM (rM w s t) (kM.getD t 0) (w.getD t 0))) :: blk wn (ints .u32 w) :: blk rb (ints .u32 (zeros 8)) :: blk kb (ints .u32 kM) :: blk sb (ints .u32 s) :: A) h5
  rw [hr]
  exact hs
 ·intro h4 hs
  apply hJ31
  rw [ltI_eq, if_neg (by decide)]
  clear hJ31 J31
  obtain ⟨r, hr⟩ : ∃ r, r = rM w s 64 := ⟨_, rfl⟩
  have hrl : r.length = 8 := by rw [hr]; exact rM_len _ _ l1 _
  rw [← hr] at hs
  intro J66 hJ66
  refine loop_up 8 (fun t h => Sat h0 (blk sn (ints .u32 r) :: blk wn (ints .u32 w) :: blk rb (ints .u32 (zeros 8)) :: blk kb (ints .u32 kM) :: blk sb (ints .u32 (aM s r t)) :: A) h) ?_ ?_ 0 _ (by omega) hs
  ·intro t h5 ht hs hk
   apply hJ66
   rw [ltI_eq, if_pos (by simp; omega)]
   have hal := aM_len s r l1 t
   simp only [Int.toNat_natCast, Nat.mul_one]
   refine ⟨by omega, by omega, _, hs.ld zs4 (intsG (by omega)), by omega, by omega, _, hs.ld .z (intsG (by omega)), by omega, by omega, ?_⟩
   refine ⟨Sat.can hs zs4 (by simp [hal]; omega), ?_⟩
   intro h6 e
   replace hs := Sat.wr hs zs4 e
   clear e
   rw [intsP] at hs
   simp only [put_succ, put_zero] at hs
   rw [wrap_succ (by omega)]
   exact hk _ hs
  ·intro h5 hs
   apply hJ66
   rw [ltI_eq, if_neg (by decide)]
   have hpl : (aM s r 8).length = 8 := aM_len s r l1 8
   refine ⟨_, hpl, hs.row0 zs4, ?_⟩
   refine ⟨Sat.can hs zs2 (by simp [zeros]), ?_⟩
   intro h6 e
   replace hs := Sat.wra hs zs2 e (by simp [zeros, hpl])
   clear e
   simp only [put_succ, put_zero] at hs
   refine ⟨_, hpl, hs.row0 zs2, ?_⟩
   have := k _ hs.drop.drop.drop.drop.drop
   unfold pieceM at this
   rw [← hw, ← hr] at this
   exact this
end
theorem ext_getD24 {a b : List Int} (hl : a.length = b.length) (h : ∀ x, x < a.length -> a.getD x 0 = b.getD x 0) : a = b := by
 apply List.ext_getElem hl
 intro i h1 h2
 have := h i h1
 rwa [List.getD_eq_getElem?_getD, List.getD_eq_getElem?_getD, List.getElem?_eq_getElem h1, List.getElem?_eq_getElem h2] at this
theorem zerosD (n x : Nat) : (zeros n).getD x 0 = 0 := by
 unfold zeros
 rw [List.getD_eq_getElem?_getD, List.getElem?_replicate]; split <;> rfl
theorem endM_get (n : Nat) : ∀ t x, t ≤ 8 -> x < 73 -> (endM n t).getD x 0 = if x = 0 then 128 else if 1 + zM n ≤ x /\ x < 1 + zM n + t then lenB n (x - 1 - zM n) else 0
 | 0, x, _, hx => by
  show ((zeros 73).set 0 128).getD x 0 = _
  rw [setD]
  by_cases c : x = 0
  ·subst c; rfl
  ·rw [if_neg (by omega), if_neg c, if_neg (by omega), zerosD]
 | t + 1, x, ht, hx => by
  have hz := zM_lt n
  have ih := endM_get n t x (by omega) hx
  show ((endM n t).set (1 + zM n + t) (lenB n t)).getD x 0 = _
  rw [setD, endM_len]
  by_cases c : 1 + zM n + t = x
  ·subst c
   rw [if_pos ⟨rfl, hx⟩, if_neg (by omega), if_pos (by omega), show 1 + zM n + t - 1 - zM n = t by omega]
  ·rw [if_neg (fun y => c y.1), ih]
   by_cases c0 : x = 0
   ·rw [if_pos c0, if_pos c0]
   ·rw [if_neg c0, if_neg c0]
    by_cases c1 : 1 + zM n ≤ x /\ x < 1 + zM n + t
    ·rw [if_pos c1, if_pos (by omega)]
    ·rw [if_neg c1, if_neg (by omega)]
def lensM (n : Nat) : List Int := (List.range 8).map (lenB n)
theorem lensM_len (n : Nat) : (lensM n).length = 8 := by simp [lensM]
theorem lensM_get (n : Nat) {t : Nat} (ht : t < 8) : (lensM n).getD t 0 = lenB n t := by
 unfold lensM
 rw [List.getD_eq_getElem?_getD, List.getElem?_map, List.getElem?_range ht]; rfl
theorem appD (a b : List Int) (x : Nat) : (a ++ b).getD x 0 = if x < a.length then a.getD x 0 else b.getD (x - a.length) 0 := by
 rw [List.getD_eq_getElem?_getD]
 split
 ·rename_i c; rw [List.getElem?_append_left c, List.getD_eq_getElem?_getD]
 ·rename_i c; rw [List.getElem?_append_right (by omega), List.getD_eq_getElem?_getD]
theorem tailM_eq (n : Nat) : tailM n = [128] ++ zeros (zM n) ++ lensM n := by
 have hz := zM_lt n
 have hzl : (zeros (zM n)).length = zM n := by simp [zeros]
 refine ext_getD24 ?_ ?_
 ·rw [tailM_len, List.length_append, List.length_append, hzl, lensM_len]; simp; omega
 ·intro x hx
  rw [tailM_len] at hx
  have e1 : (tailM n).getD x 0 = (endM n 8).getD x 0 := by
   unfold tailM
   rw [List.getD_eq_getElem?_getD, List.getElem?_take_of_lt hx, List.getD_eq_getElem?_getD]
  rw [e1, endM_get n 8 x (by omega) (by omega), appD, appD]
  simp only [List.length_append, List.length_cons, List.length_nil, hzl, Nat.zero_add]
  by_cases c0 : x = 0
  ·subst c0
   rw [if_pos rfl, if_pos (by omega), if_pos (by omega)]; rfl
  ·rw [if_neg c0]
   by_cases c1 : x < 1 + zM n
   ·rw [if_neg (by omega), if_pos c1, if_neg (by omega), zerosD]
   ·rw [if_pos (by omega), if_neg c1, lensM_get n (by omega), show x - 1 - zM n = x - (1 + zM n) by omega]
theorem fullM_len (ms : List Int) : (fullM ms).length = ms.length + 9 + zM ms.length := by
 unfold fullM; rw [List.length_append, tailM_len]; omega
theorem fullM_64 (ms : List Int) : (fullM ms).length = 64 * ((fullM ms).length / 64) := by
 rw [fullM_len]; unfold zM; omega
theorem isBy_app {a b : List Int} (ha : isBy a) (hb : isBy b) : isBy (a ++ b) := fun v hv => (List.mem_append.1 hv).elim (ha v) (hb v)
theorem isBy_zeros (n : Nat) : isBy (zeros n) := by
 intro v hv
 unfold zeros at hv
 rw [List.mem_replicate] at hv
 omega
theorem isBy_tail (n : Nat) : isBy (tailM n) := by
 rw [tailM_eq]
 refine isBy_app (isBy_app ?_ (isBy_zeros _)) ?_
 ·intro v hv
  simp only [List.mem_cons, List.not_mem_nil, or_false] at hv
  omega
 ·intro v hv
  unfold lensM at hv
  obtain ⟨i, _, rfl⟩ := List.mem_map.1 hv
  unfold lenB
  rw [IntKind.wrap_u8]; omega
theorem isBy_blk {ms : List Int} (hb : isBy ms) (i : Nat) : isBy (blkM ms i) := fun v hv => hb v (List.mem_of_mem_drop (List.mem_of_mem_take hv))
theorem takeS (l : List Int) {t : Nat} (h : t < l.length) : l.take (t + 1) = l.take t ++ [l.getD t 0] := by
 rw [List.take_succ, List.getElem?_eq_getElem h, List.getD_eq_getElem?_getD, List.getElem?_eq_getElem h]; rfl
theorem intsApp (k : IntKind) (a b : List Int) : ints k (a ++ b) = ints k a ++ ints k b := by unfold ints; rw [List.map_append]
theorem loopN {J : List SV -> H -> Prop} {σ : Type} (N : Nat) (S : Nat -> σ -> List SV) (Inv : Nat -> σ -> H -> Prop) (step : ∀ i s h, i < N -> Inv i s h -> (∀ s' h', Inv (i + 1) s' h' -> J (S (i + 1) s') h') -> J (S i s) h)
  (exit : ∀ s h, Inv N s h -> J (S N s) h) (i : Nat) (s : σ) (h : H) (hi : i ≤ N) (inv : Inv i s h) : J (S i s) h := by
 generalize e : N - i = n
 induction n generalizing i s h with
 | zero =>
  have : i = N := by omega
  subst this; exact exit s h inv
 | succ n ih => exact step i s h (by omega) inv fun s' h' inv' => ih (i + 1) s' h' (by omega) inv' (by omega)
theorem capL {h0 h : H} {A : List Ent} (hs : Sat h0 A h) {i : Nat} {p : Option Addr} {l c sz : Nat} {vs : List Value} (m : At A i (slE p l c sz vs)) : l ≤ c := by
 obtain ⟨f, hp, _⟩ := hs.take m
 obtain ⟨bs, o, _⟩ := slE_P.1 hp
 exact o.2.1
section
variable {h0 h : H} {A : List Ent} {i d : Nat}
theorem padded_sp {Q : Option Addr -> Nat -> Nat -> H -> Prop} {ms : List Int} {p : Option Addr} {l c : Nat} (hs : Sat h0 A h) (hl : l < 2 ^ 46) (rd : ∀ h', Sat h0 A h' -> hsv h' p 1 l (ints .u8 ms))
  (k : ∀ p' c' h', (fullM ms).length ≤ c' -> Sat h0 (slE p' (fullM ms).length c' 1 (ints .u8 (fullM ms)) :: A) h' -> Q p' (fullM ms).length c' h') : F_portcullisref02_padded p l c Q h := by
 unfold F_portcullisref02_padded G_portcullisref02_padded
 have hml : ms.length = l := by have := (rd _ hs).1; simpa using this
 have hz := zM_lt l
 refine ⟨_, rd _ hs, ?_⟩
 refine Sat.app_new hs (by simp [hml]) rfl (ints_one _ _) (by omega) ?_
 intro p1 c1 h1 hs
 intro b _ hn; replace hs := Sat.new hs hn
 refine ⟨_, hs.bv (i := 0) (l := 1) .z rfl (ints_one .u8 [128]), ?_⟩
 refine Sat.app hs (i := 1) (vs := ints .u8 [128]) zs1 rfl rfl (ints_one _ _) (by omega) ?_
 intro p2 c2 h2 hs
 simp only [put_succ, put_zero] at hs
 rw [← intsApp] at hs
 replace hs := hs.drop
 intro J18 hJ18
 refine loopN (zM l) (fun t (s : Option Addr × Nat) => [.dv (.one (.slice s.1 (l + 1 + t) s.2))]) (fun t s h => Sat h0 (slE s.1 (l + 1 + t) s.2 1 (ints .u8 (ms ++ [128] ++ zeros t)) :: A) h) ?_ ?_ 0 (p2, c2) _ (by omega) (by simpa [zeros] using hs)
 ·rintro t ⟨p3, c3⟩ h3 ht hs hk
  dsimp only at hs hk ⊢
  apply hJ18
  refine ⟨by decide, ?_⟩
  have em : (((l + 1 + t : Nat) : Int)).tmod 64 = (((l + 1 + t) % 64 : Nat) : Int) := by rw [Int.tmod_eq_emod_of_nonneg (by omega)]; omega
  rw [em, if_pos (by
   rw [bne_iff_ne]
   intro y
   unfold zM at ht
   omega)]
  intro b _ hn; replace hs := Sat.new hs hn
  refine ⟨_, hs.bv (i := 0) (l := 1) .z rfl (ints_one .u8 [0]), ?_⟩
  refine Sat.app hs (i := 1) (vs := ints .u8 [0]) zs1 rfl rfl (ints_one _ _) (by omega) ?_
  intro p4 c4 h4 hs
  simp only [put_succ, put_zero] at hs
  rw [← intsApp] at hs
  refine hk (p4, c4) h4 ?_
  have ez : ms ++ [128] ++ zeros (t + 1) = ms ++ [128] ++ zeros t ++ [0] := by
   unfold zeros
   rw [List.replicate_succ', List.append_assoc, List.append_assoc, List.append_assoc]
  dsimp only
  rw [ez]
  exact hs.drop
 ·rintro ⟨p3, c3⟩ h3 hs
  dsimp only at hs ⊢
  apply hJ18
  clear hJ18
  refine ⟨by decide, ?_⟩
  have em : (((l + 1 + zM l : Nat) : Int)).tmod 64 = 56 := by
   rw [Int.tmod_eq_emod_of_nonneg (by omega)]
   unfold zM
   omega
  rw [em, if_neg (by decide)]
  have ew : IntKind.u64.wrap (8 * IntKind.u64.wrap (l : Int)) = IntKind.u64.wrap (8 * (l : Int)) := by rw [wrapU64 (l : Int), wrapU64, wrapU64]; omega
  rw [ew]
  intro J31 hJ31
  refine loopN 8 (fun t (s : Option Addr × Nat) => [.dv (.one (.slice s.1 (l + 1 + zM l + t) s.2)), .dv (.one (.int .i64 (7 - (t : Int))))]) (fun t s h => Sat h0 (slE s.1 (l + 1 + zM l + t) s.2 1 (ints .u8 (ms ++ [128] ++ zeros (zM l) ++ (lensM l).take t)) :: A) h) ?_ ?_ 0 (p3, c3) _ (by omega) (by simpa using hs)
  ·rintro t ⟨p4, c4⟩ h4 ht hs hk
   dsimp only at hs hk ⊢
   apply hJ31
   rw [leI_eq, if_pos (by rw [decide_eq_true_iff]; omega)]
   have e8 : IntKind.i64.wrap (8 * (7 - (t : Int))) = ((56 - 8 * t : Nat) : Int) := by rw [wrap_id (by omega)]; omega
   rw [e8]
   simp only [Int.toNat_natCast]
   refine ⟨by omega, ?_⟩
   intro b _ hn; replace hs := Sat.new hs hn
   refine ⟨_, hs.bv (i := 0) (l := 1) .z rfl (ints_one .u8 [lenB l t]), ?_⟩
   refine Sat.app hs (i := 1) (vs := ints .u8 [lenB l t]) zs1 rfl rfl (ints_one _ _) (by omega) ?_
   intro p5 c5 h5 hs
   simp only [put_succ, put_zero] at hs
   rw [← intsApp] at hs
   have e1 : IntKind.i64.wrap (7 - (t : Int) - 1) = 7 - ((t + 1 : Nat) : Int) := by rw [wrap_id (by omega)]; omega
   rw [e1]
   refine hk (p5, c5) h5 ?_
   dsimp only
   rw [takeS _ (by rw [lensM_len]; exact ht), lensM_get l ht, ← List.append_assoc]
   exact hs.drop
  ·rintro ⟨p4, c4⟩ h4 hs
   dsimp only at hs ⊢
   apply hJ31
   rw [leI_eq, if_neg (by decide)]
   rw [List.take_of_length_le (by rw [lensM_len]; exact Nat.le_refl _)] at hs
   have ef : ms ++ [128] ++ zeros (zM l) ++ lensM l = fullM ms := by
    unfold fullM
    rw [tailM_eq, hml, List.append_assoc, List.append_assoc, List.append_assoc]
   have efl : (fullM ms).length = l + 1 + zM l + 8 := by rw [fullM_len, hml]; omega
   rw [ef] at hs
   have K := k p4 c4 h4
   rw [efl] at K
   exact K (capL hs .z) hs
theorem rof_sp {Q : List Int -> H -> Prop} {ms : List Int} {p : Option Addr} {l c : Nat} (hs : Sat h0 A h) (hb : isBy ms) (hl : l < 2 ^ 46) (rd : ∀ h', Sat h0 A h' -> hsv h' p 1 l (ints .u8 ms)) (k : ∀ h', Sat h0 A h' -> Q (shaM ms) h') : F_portcullisref02_Of p l c Q h := by
 unfold F_portcullisref02_Of G_portcullisref02_Of
 try simp only [add_mk, Nat.zero_add, List.append_nil]
 have hml : ms.length = l := by have := (rd _ hs).1; simpa using this
 intro rb _ hn; replace hs := Sat.new hs hn
 refine padded_sp (ms := ms) hs hl (fun h' hs' => rd _ hs'.drop) ?_
 intro p1 c1 h1 hc1 hs
 obtain ⟨F, hF⟩ : ∃ F, F = fullM ms := ⟨_, rfl⟩
 have hbF : isBy F := by rw [hF]; unfold fullM; exact isBy_app hb (isBy_tail _)
 have hFl : F.length < 2 ^ 47 := by rw [hF, fullM_len, hml]; have := zM_lt l; omega
 obtain ⟨N, hN⟩ : ∃ N, N = F.length / 64 := ⟨_, rfl⟩
 have h64 : F.length = 64 * N := by rw [hN, hF]; exact fullM_64 ms
 rw [← hF] at hs hc1 ⊢
 rw [h64] at hs hc1 ⊢
 unfold F_portcullisref02_begins G_portcullisref02_begins
 try simp only [add_mk, Nat.zero_add, List.append_nil]
 intro bb _ hn; replace hs := Sat.new hs hn
 refine ⟨Sat.can hs .z (by simp [zeros]), ?_⟩
 intro h2 e
 replace hs := Sat.wra hs .z e (by simp [zeros])
 clear e
 simp only [put_zero] at hs
 refine ⟨sM, rfl, hs.row0 .z, ?_⟩
 replace hs := hs.drop
 intro sb _ hn; replace hs := Sat.new hs hn
 refine ⟨Sat.can hs .z (by simp [zeros, sM]), ?_⟩
 intro h3 e
 replace hs := Sat.wra hs .z e (by simp [zeros, sM])
 clear e
 simp only [put_zero] at hs
 unfold F_portcullisref02_rounds G_portcullisref02_rounds
 try simp only [add_mk, Nat.zero_add, List.append_nil]
 intro kb _ hn; replace hs := Sat.new hs hn
 refine ⟨Sat.can hs .z (by simp [zeros]), ?_⟩
 intro h4 e
 replace hs := Sat.wra hs .z e (by simp [zeros])
 clear e
 simp only [put_zero] at hs
 refine ⟨kM, rfl, hs.row0 .z, ?_⟩
 replace hs := hs.drop
 intro kc _ hn; replace hs := Sat.new hs hn
 refine ⟨Sat.can hs .z (by simp [zeros, kM_len]), ?_⟩
 intro h5 e
 replace hs := Sat.wra hs .z e (by simp [zeros, kM_len])
 clear e
 simp only [put_zero] at hs
 intro J30 hJ30
 refine loopN N (fun t (_ : Unit) => [.dv (.one (.int .i64 ((64 * t : Nat) : Int)))]) (fun t _ h => Sat h0 (blk kc (ints .u32 kM) :: blk sb (ints .u32 (stM F t)) :: slE p1 (64 * N) c1 1 (ints .u8 F) :: blk rb (ints .u8 (zeros 32)) :: A) h) ?_ ?_ 0 () _ (by omega) hs
 ·rintro t _ h6 ht hs hk
  apply hJ30
  rw [ltI_eq, if_pos (by rw [decide_eq_true_iff]; omega)]
  have e64 : IntKind.i64.wrap (((64 * t : Nat) : Int) + 64) = ((64 * (t + 1) : Nat) : Int) := by rw [wrap_id (by omega)]; push_cast; omega
  rw [e64]
  simp only [Int.toNat_natCast]
  have hsl := stM_len F t
  refine ⟨stM F t, hsl, hs.row0 zs1, by omega, by omega, by omega, kM, kM_len, hs.row0 .z, ?_⟩
  rw [show 64 * (t + 1) - 64 * t = 64 by omega]
  refine piece_sp (bs := blkM F t) hs hsl (isBy_blk hbF t) (Nat.le_refl _) (fun h' hs' => subRd (o := 64 * t) (n := 64) (m := c1) (hs'.sv zs2) (by omega) (by omega)) ?_
  intro h7 hs
  have hpl : (pieceM (stM F t) (blkM F t)).length = 8 := pieceM_len hsl
  refine ⟨Sat.can hs zs1 (by simp [hsl]), ?_⟩
  intro h8 e
  replace hs := Sat.wra hs zs1 e (by simp [hsl, hpl])
  clear e
  simp only [put_succ, put_zero] at hs
  exact hk () _ hs
 ·rintro _ h6 hs
  apply hJ30
  clear hJ30
  rw [ltI_eq, if_neg (by rw [decide_eq_true_iff]; omega)]
  obtain ⟨S, hS⟩ : ∃ S, S = stM F N := ⟨_, rfl⟩
  have hSl : S.length = 8 := by rw [hS]; exact stM_len F N
  have hsh : shaM ms = oM S 32 := by unfold shaM; rw [← hF, ← hN, hS]
  rw [← hS] at hs
  intro ob _ hn; replace hs := Sat.new hs hn
  refine ⟨Sat.can hs .z (by simp [zeros]), ?_⟩
  intro h7 e
  replace hs := Sat.wra hs .z e rfl
  clear e
  simp only [put_zero] at hs
  intro J44 hJ44
  refine loop_up 32 (fun t h => Sat h0 (blk ob (ints .u8 (oM S t)) :: blk kc (ints .u32 kM) :: blk sb (ints .u32 S) :: slE p1 (64 * N) c1 1 (ints .u8 F) :: blk rb (ints .u8 (zeros 32)) :: A) h) ?_ ?_ 0 _ (by omega) hs
  ·intro t h8 ht hs hk
   apply hJ44
   rw [ltI_eq, if_pos (by simp; omega)]
   have hol := oM_len S t
   have ed : IntKind.i64.wrap ((t : Int).tdiv 4) = ((t / 4 : Nat) : Int) := by
    rw [Int.tdiv_eq_ediv_of_nonneg (by omega), wrap_id (by omega)]; omega
   have em : IntKind.i64.wrap (24 - IntKind.i64.wrap (8 * (t : Int).tmod 4)) = ((24 - 8 * (t % 4) : Nat) : Int) := by
    rw [Int.tmod_eq_emod_of_nonneg (by omega), wrap_id (n := 8 * ((t : Int) % 4)) (by omega), wrap_id (by omega)]; omega
   rw [ed, em]
   simp only [Int.toNat_natCast, Nat.mul_one]
   refine ⟨by decide, by omega, by omega, _, hs.ld zs2 (intsG (by omega)), by decide, by omega, by omega, by omega, ?_⟩
   refine ⟨Sat.can hs .z (by simp [hol]; omega), ?_⟩
   intro h9 e
   replace hs := Sat.wr hs .z e
   clear e
   rw [intsP] at hs
   simp only [put_zero] at hs
   rw [wrap_succ (by omega)]
   exact hk _ hs
  ·intro h8 hs
   apply hJ44
   rw [ltI_eq, if_neg (by decide)]
   rw [← hsh] at hs
   refine ⟨_, shaM_len ms, hs.row0 .z, ?_⟩
   refine ⟨Sat.can hs zs4 (by simp [zeros]), ?_⟩
   intro h9 e
   replace hs := Sat.wra hs zs4 e (by simp [zeros, shaM_len])
   clear e
   simp only [put_succ, put_zero] at hs
   exact ⟨_, shaM_len ms, hs.row0 zs4, k _ hs.drop.drop.drop.drop.drop⟩
end
def ovM (x : Int) (bs : List Int) : List Int := bs.map fun b => bits .xor .u8 b x
theorem xor_by (a b : Int) : 0 ≤ bits .xor .u8 a b /\ bits .xor .u8 a b < 256 := by
 have : bits .xor .u8 a b = IntKind.u8.wrap ((BitVec.ofInt 8 a ^^^ BitVec.ofInt 8 b).toNat : Int) := rfl
 rw [this, IntKind.wrap_u8]; omega
theorem isBy_ov (x : Int) (bs : List Int) : isBy (ovM x bs) := by
 intro v hv
 unfold ovM at hv
 obtain ⟨b, _, rfl⟩ := List.mem_map.1 hv
 exact xor_by _ _
theorem xM_get (kb : List Int) (x : Int) : ∀ t j, t ≤ 64 -> j < 64 -> (xM kb x t).getD j 0 = if j < t then bits .xor .u8 (kb.getD j 0) x else 0
 | 0, j, _, hj => by
  show (zeros 64).getD j 0 = _
  rw [if_neg (by omega), zerosD]
 | t + 1, j, ht, hj => by
  have ih := xM_get kb x t j (by omega) hj
  show ((xM kb x t).set t _).getD j 0 = _
  rw [setD, xM_len, ih]
  by_cases c : t = j
  ·subst c
   rw [if_pos ⟨rfl, hj⟩, if_pos (by omega)]
  ·rw [if_neg (fun y => c y.1)]
   by_cases c1 : j < t
   ·rw [if_pos c1, if_pos (by omega)]
   ·rw [if_neg c1, if_neg (by omega)]
theorem xM_ov {kb : List Int} (x : Int) (h : kb.length = 64) : xM kb x 64 = ovM x kb := by
 refine ext_getD24 (by rw [xM_len]; simp [ovM, h]) ?_
 intro j hj
 rw [xM_len] at hj
 rw [xM_get kb x 64 j (by decide) hj, if_pos hj]
 unfold ovM
 rw [List.getD_eq_getElem?_getD, List.getD_eq_getElem?_getD, List.getElem?_map, List.getElem?_eq_getElem (by omega)]
 rfl
theorem isBy_sha (ms : List Int) : isBy (shaM ms) := by
 have : ∀ s t, isBy (oM s t) := by
  intro s t
  induction t with
  | zero => exact isBy_zeros 32
  | succ t ih =>
   intro v hv
   have hv : v ∈ (oM s t).set t (outB s t) := hv
   rcases List.mem_or_eq_of_mem_set hv with h | h
   ·exact ih v h
   ·rw [h]; unfold outB; rw [IntKind.wrap_u8]; omega
 exact this _ _
theorem isBy_mac (key b : List Int) : isBy (macM key b) := isBy_sha _
section
variable {h0 h : H} {A : List Ent} {i d : Nat}
theorem fill_sp {Q : Option Addr -> Nat -> Nat -> H -> Prop} {ms : List Int} {p : Option Addr} {l c : Nat} (hs : Sat h0 (slE p l c 1 (ints .u8 ms) :: A) h) (hl : l ≤ 64)
  (k : ∀ p' c' h', Sat h0 (slE p' 64 c' 1 (ints .u8 (ms ++ zeros (64 - l))) :: A) h' -> Q p' 64 c' h') :
  ∀ (J21 : List SV -> H -> Prop), (∀ (o22 : Option Addr) (n23 n24 : Nat) (h25 : H), (if ltI (n23 : Int) 64 = true then ∀ (n26 : Nat) (h27 : H), hnew h25 n26 [.int .u8 0] h27 -> ∃ l29 : List Value, hsv h27 (some ⟨n26, 0, none⟩) 1 1 l29 /\ pApp h27 1 [.int .u8 0] 1 o22 n23 n24 1 l29 fun o30 n31 n32 h33 => J21 [.dv (.one (.slice o30 n31 n32))] h33
   else Q o22 n23 n24 h25) -> J21 [.dv (.one (.slice o22 n23 n24))] h25) -> J21 [.dv (.one (.slice p l c))] h := by
 intro J hJ
 refine loopN (64 - l) (fun t (s : Option Addr × Nat) => [.dv (.one (.slice s.1 (l + t) s.2))]) (fun t s h => Sat h0 (slE s.1 (l + t) s.2 1 (ints .u8 (ms ++ zeros t)) :: A) h) ?_ ?_ 0 (p, c) _ (by omega) (by simpa [zeros] using hs)
 ·rintro t ⟨p3, c3⟩ h3 ht hs hk
  dsimp only at hs hk ⊢
  apply hJ
  rw [ltI_eq, if_pos (by rw [decide_eq_true_iff]; omega)]
  intro b _ hn; replace hs := Sat.new hs hn
  refine ⟨_, hs.bv (i := 0) (l := 1) .z rfl (ints_one .u8 [0]), ?_⟩
  refine Sat.app hs (i := 1) (vs := ints .u8 [0]) zs1 rfl rfl (ints_one _ _) (by omega) ?_
  intro p4 c4 h4 hs
  simp only [put_succ, put_zero] at hs
  rw [← intsApp] at hs
  refine hk (p4, c4) h4 ?_
  have ez : ms ++ zeros (t + 1) = ms ++ zeros t ++ [0] := by
   unfold zeros
   rw [List.replicate_succ', List.append_assoc]
  dsimp only
  rw [ez]
  exact hs.drop
 ·rintro ⟨p3, c3⟩ h3 hs
  dsimp only at hs ⊢
  apply hJ
  have e64 : l + (64 - l) = 64 := by omega
  rw [e64] at hs ⊢
  rw [ltI_eq, if_neg (by decide)]
  exact k _ _ _ hs
theorem block_sp {Q : Option Addr -> Nat -> Nat -> H -> Prop} {key : List Int} {p : Option Addr} {l c : Nat} (hs : Sat h0 A h) (hb : isBy key) (hl : l < 2 ^ 46) (rd : ∀ h', Sat h0 A h' -> hsv h' p 1 l (ints .u8 key))
  (k : ∀ p' c' h', Sat h0 (slE p' 64 c' 1 (ints .u8 (kbM key)) :: A) h' -> Q p' 64 c' h') : F_portcullisref03_block p l c Q h := by
 unfold F_portcullisref03_block G_portcullisref03_block
 try simp only [add_mk, Nat.zero_add, List.append_nil]
 have hkl : key.length = l := by have := (rd _ hs).1; simpa using this
 intro eb _ hn; replace hs := Sat.new hs hn
 rw [ltI_eq]
 by_cases g : 64 < l
 ·rw [if_pos (by rw [decide_eq_true_iff]; omega)]
  have ek : keyM key = shaM key := by unfold keyM; rw [if_pos (by omega)]
  have ekb : kbM key = shaM key ++ zeros (64 - 32) := by unfold kbM; rw [ek, shaM_len]
  refine rof_sp (ms := key) hs hb hl (fun h' hs' => rd _ hs'.drop) ?_
  intro h1 hs
  intro hb' _ hn; replace hs := Sat.new hs hn
  refine ⟨Sat.can hs .z (by simp [zeros]), ?_⟩
  intro h2 e
  replace hs := Sat.wra hs .z e (by simp [zeros, shaM_len])
  clear e
  simp only [put_zero] at hs
  have sub0 : subAddr (some ⟨hb', 0, none⟩) 0 32 1 = some ⟨hb', 0, none⟩ := by unfold subAddr; simp
  rw [sub0]
  refine ⟨_, hs.bv (i := 0) (l := 32) .z (by simp [shaM_len]) (ints_one _ _), ?_⟩
  refine Sat.app_new hs (by simp [shaM_len]) rfl (ints_one _ _) (by decide) ?_
  intro p3 c3 h3 hs
  refine fill_sp hs (by decide) ?_
  intro p4 c4 h4 hs
  rw [← ekb] at hs
  exact k _ _ _ (hs.sub (by (repeat (first | exact List.Sublist.refl _ | apply List.Sublist.cons_cons | apply List.Sublist.cons))))
 ·rw [if_neg (by rw [decide_eq_true_iff]; omega)]
  have ek : keyM key = key := by unfold keyM; rw [if_neg (by omega)]
  have ekb : kbM key = key ++ zeros (64 - l) := by unfold kbM; rw [ek, hkl]
  refine ⟨_, rd _ hs.drop, ?_⟩
  refine Sat.app_new hs (by simp [hkl]) rfl (ints_one _ _) (by omega) ?_
  intro p3 c3 h3 hs
  refine fill_sp hs (by omega) ?_
  intro p4 c4 h4 hs
  rw [← ekb] at hs
  exact k _ _ _ (hs.sub (by (repeat (first | exact List.Sublist.refl _ | apply List.Sublist.cons_cons | apply List.Sublist.cons))))
theorem over_sp {Q : Option Addr -> Nat -> Nat -> H -> Prop} {bs : List Int} {p : Option Addr} {l c : Nat} (x : Int) (hs : Sat h0 A h) (hl : l < 2 ^ 46) (rd : ∀ h', Sat h0 A h' -> hsv h' p 1 l (ints .u8 bs))
  (k : ∀ p' c' h', Sat h0 (slE p' l c' 1 (ints .u8 (ovM x bs)) :: A) h' -> Q p' l c' h') : F_portcullisref03_over p l c x Q h := by
 unfold F_portcullisref03_over G_portcullisref03_over
 have hbl : bs.length = l := by have := (rd _ hs).1; simpa using this
 intro eb _ hn; replace hs := Sat.new hs hn
 intro J hJ
 refine loopN l (fun t (s : Option Addr × Nat) => [.dv (.one (.slice s.1 t s.2)), si t]) (fun t s h => Sat h0 (slE s.1 t s.2 1 (ints .u8 (ovM x (bs.take t))) :: A) h) ?_ ?_ 0 (some ⟨eb, 0, none⟩, 0) _ (by omega) (by simpa [ovM] using hs.drop.sl_nil 1 _)
 ·rintro t ⟨p3, c3⟩ h3 ht hs hk
  dsimp only at hs hk ⊢
  apply hJ
  rw [ltI_eq, if_pos (by rw [decide_eq_true_iff]; omega)]
  obtain ⟨q, hq, g⟩ := hsvI (rd _ hs.drop) (x := t) ht
  refine ⟨q, hq, by omega, by omega, ?_⟩
  simp only [Int.toNat_natCast, Nat.mul_one]
  refine ⟨_, g, ?_⟩
  intro b _ hn; replace hs := Sat.new hs hn
  refine ⟨_, hs.bv (i := 0) (l := 1) .z rfl (ints_one .u8 [bits .xor .u8 (bs.getD t 0) x]), ?_⟩
  refine Sat.app hs (i := 1) (vs := ints .u8 [bits .xor .u8 (bs.getD t 0) x]) zs1 rfl rfl (ints_one _ _) (by omega) ?_
  intro p4 c4 h4 hs
  simp only [put_succ, put_zero] at hs
  rw [← intsApp] at hs
  rw [wrap_succ (by omega)]
  refine hk (p4, c4) h4 ?_
  dsimp only
  rw [takeS bs (by omega)]
  have : ovM x (bs.take t ++ [bs.getD t 0]) = ovM x (bs.take t) ++ [bits .xor .u8 (bs.getD t 0) x] := by unfold ovM; rw [List.map_append]; rfl
  rw [this]
  exact hs.drop
 ·rintro ⟨p3, c3⟩ h3 hs
  dsimp only at hs ⊢
  apply hJ
  rw [ltI_eq, if_neg (by simp)]
  rw [List.take_of_length_le (by omega)] at hs
  exact k _ _ _ hs
theorem rmac_sp {Q : List Int -> H -> Prop} {key b : List Int} {kp bp : Option Addr} {kl kc bl bc : Nat} (hs : Sat h0 A h) (hkb : isBy key) (hbb : isBy b) (hk : kl < 2 ^ 45) (hb : bl < 2 ^ 45) (rk : ∀ h', Sat h0 A h' -> hsv h' kp 1 kl (ints .u8 key)) (rb : ∀ h', Sat h0 A h' -> hsv h' bp 1 bl (ints .u8 b))
  (k : ∀ h', Sat h0 A h' -> Q (macM key b) h') : F_portcullisref03_Of kp kl kc bp bl bc Q h := by
 unfold F_portcullisref03_Of G_portcullisref03_Of
 try simp only [add_mk, Nat.zero_add, List.append_nil]
 have hbl : b.length = bl := by have := (rb _ hs).1; simpa using this
 intro ob _ hn; replace hs := Sat.new hs hn
 refine block_sp (key := key) hs hkb (by omega) (fun h' hs' => rk _ hs'.drop) ?_
 intro p1 c1 h1 hs
 have hkl := kbM_len key
 refine over_sp 54 hs (by decide) (fun h' hs' => hs'.sv .z) ?_
 intro p2 c2 h2 hs
 rw [← xM_ov 54 hkl] at hs
 refine ⟨_, rb _ hs.drop.drop.drop, ?_⟩
 refine Sat.app hs (i := 0) (vs := ints .u8 b) .z (by simp [hbl]) rfl (ints_one _ _) (by omega) ?_
 intro p3 c3 h3 hs
 simp only [put_zero] at hs
 rw [← intsApp] at hs
 have bi : isBy (xM (kbM key) 54 64) := by rw [xM_ov 54 hkl]; exact isBy_ov _ _
 have bo : isBy (xM (kbM key) 92 64) := by rw [xM_ov 92 hkl]; exact isBy_ov _ _
 refine rof_sp (ms := innerM key ++ b) hs (isBy_app bi hbb) (by omega) (fun h' hs' => hs'.sv .z) ?_
 intro h4 hs
 obtain ⟨I, hI⟩ : ∃ I, I = shaM (innerM key ++ b) := ⟨_, rfl⟩
 have hIl : I.length = 32 := by rw [hI]; exact shaM_len _
 have hIb : isBy I := by rw [hI]; exact isBy_sha _
 rw [← hI]
 intro hb' _ hn; replace hs := Sat.new hs hn
 refine ⟨Sat.can hs .z (by simp [zeros]), ?_⟩
 intro h5 e
 replace hs := Sat.wra hs .z e (by simp [zeros, hIl])
 clear e
 simp only [put_zero] at hs
 refine over_sp 92 hs (by decide) (fun h' hs' => hs'.sv zs2) ?_
 intro p6 c6 h6 hs
 rw [← xM_ov 92 hkl] at hs
 refine ⟨_, hs.bv (i := 1) (l := 32) zs1 (by simp [hIl]) (ints_one _ _), ?_⟩
 refine Sat.app hs (i := 0) (vs := ints .u8 I) .z (by simp [hIl]) rfl (ints_one _ _) (by decide) ?_
 intro p7 c7 h7 hs
 simp only [put_zero] at hs
 rw [← intsApp] at hs
 refine rof_sp (ms := outerM key ++ I) hs (isBy_app bo hIb) (by decide) (fun h' hs' => hs'.sv .z) ?_
 intro h8 hs
 have em : shaM (outerM key ++ I) = macM key b := by unfold macM; rw [hI]
 rw [em]
 refine ⟨Sat.can hs zs4 (by simp [zeros]), ?_⟩
 intro h9 e
 replace hs := Sat.wra hs zs4 e (by simp [zeros, macM_len])
 clear e
 simp only [put_succ, put_zero] at hs
 exact ⟨_, macM_len _ _, hs.row0 zs4, k _ hs.drop.drop.drop.drop.drop⟩
end
abbrev Sec := Int × List Int
def badM (seen : List Sec) (s : Sec) : Int :=
 if s.1 < 0 then 2 else if 63 < s.1 then 2 else if s.2.length < 1 then 4 else if 256 < s.2.length then 4 else if (seen.find? (fun x => x.1 == s.1)).isSome = true then 18 else 0
def goM (L : List Sec) : Nat -> Option (Int × Int)
 | 0 => none
 | k + 1 => if badM (L.take (L.length - (k + 1))) (L.getD (L.length - (k + 1)) (0, [])) = 0 then goM L k else some (badM (L.take (L.length - (k + 1))) (L.getD (L.length - (k + 1)) (0, [])), ((L.length - (k + 1) : Nat) : Int))
def newM (L : List Sec) : Option (Int × Int) := if 64 < L.length then some (3, 64) else goM L L.length
theorem goM_at (L : List Sec) {t : Nat} (ht : t < L.length) : goM L (L.length - t) = if badM (L.take t) L[t] = 0 then goM L (L.length - (t + 1)) else some (badM (L.take t) L[t], (t : Int)) := by
 obtain ⟨k, hk⟩ : ∃ k, L.length - t = k + 1 := ⟨L.length - t - 1, by omega⟩
 rw [hk]
 show (if badM (L.take (L.length - (k + 1))) (L.getD (L.length - (k + 1)) (0, [])) = 0 then _ else _) = _
 rw [show L.length - (k + 1) = t by omega, show L.length - (t + 1) = k by omega]
 have : L.getD t (0, []) = L[t] := by rw [List.getD_eq_getElem?_getD, List.getElem?_eq_getElem ht]; rfl
 rw [this]
structure SR where
 key : Int
 bytes : List Int
 p : Option Addr
 c : Nat
abbrev SR.kv (x : SR) : Sec := (x.key, x.bytes)
abbrev SR.ent (x : SR) : Value × DV := (.int .i64 x.key, .one (.slice x.p x.bytes.length x.c))
abbrev SR.sl (x : SR) : Ent := slE x.p x.bytes.length x.c 1 (ints .u8 x.bytes)
def secV : List SR -> List Value
 | [] => []
 | x :: r => [.int .i64 x.key, .slice x.p x.bytes.length x.c] ++ secV r
theorem secV_app (a b : List SR) : secV (a ++ b) = secV a ++ secV b := by
 induction a with
 | nil => rfl
 | cons x r ih => show [_, _] ++ secV (r ++ b) = [_, _] ++ secV r ++ secV b; rw [ih]; rfl
theorem secV_get (R : List SR) (i : Nat) (hi : i < R.length) : (secV R)[i * 2]? = some (.int .i64 R[i].key) /\ (secV R)[i * 2 + 1]? = some (.slice R[i].p R[i].bytes.length R[i].c) := by
 induction R generalizing i with
 | nil => simp at hi
 | cons x r ih =>
  cases i with
  | zero => exact ⟨rfl, rfl⟩
  | succ i =>
   have := ih i (by simpa using hi)
   rw [show (i + 1) * 2 = i * 2 + 1 + 1 by omega]
   exact this
def SR.at_ (R : List SR) (key : Int) : Option SR := R.find? (fun x => x.key == key)
theorem at_kv (R : List SR) (key : Int) : (SR.at_ R key).map SR.kv = (R.map SR.kv).find? (fun x => x.1 == key) := by
 unfold SR.at_
 induction R with
 | nil => rfl
 | cons x r ih =>
  rw [List.map_cons, List.find?_cons, List.find?_cons]
  by_cases c : (x.key == key) = true
  ·rw [c]; simp only [c]; rfl
  ·have c' : (x.key == key) = false := by simpa using c
   rw [c']; simp only [c']; exact ih
theorem mlook_at (R : List SR) (key : Int) (z : DV) : mlook (.int .i64 key) z (R.map SR.ent) = match SR.at_ R key with | some x => some (.one (.slice x.p x.bytes.length x.c), true) | none => some (z, false) := by
 unfold SR.at_
 induction R with
 | nil => rfl
 | cons x r ih =>
  rw [List.map_cons, List.find?_cons]
  unfold mlook
  have e : keyEq (.int .i64 key) (SR.ent x).1 = some (key == x.key) := rfl
  rw [e]
  by_cases c : key = x.key
  ·have c1 : (key == x.key) = true := by simpa using c
   have c2 : (x.key == key) = true := by simpa using c.symm
   rw [c1, c2]
  ·have c1 : (key == x.key) = false := by simpa using c
   have c2 : (x.key == key) = false := by simpa using fun y => c y.symm
   rw [c1, c2]
   exact ih
theorem mins_at (R : List SR) (key : Int) (d : DV) (h : SR.at_ R key = none) : mins (.int .i64 key) d (R.map SR.ent) = some (R.map SR.ent ++ [(.int .i64 key, d)]) := by
 unfold SR.at_ at h
 induction R with
 | nil => rfl
 | cons x r ih =>
  rw [List.find?_cons] at h
  rw [List.map_cons]
  unfold mins
  have e : keyEq (.int .i64 key) (SR.ent x).1 = some (key == x.key) := rfl
  rw [e]
  by_cases c : key = x.key
  ·have c2 : (x.key == key) = true := by simpa using c.symm
   rw [c2] at h; cases h
  ·have c1 : (key == x.key) = false := by simpa using c
   have c2 : (x.key == key) = false := by simpa using fun y => c y.symm
   rw [c2] at h
   rw [c1]
   dsimp only
   rw [ih h]
   rfl
def SecsAt (h : H) (p : Option Addr) (l : Nat) (X : List SR) : Prop := l = X.length /\ ∀ i (hi : i < X.length), ∃ q, p = some q /\ hc h (q.add (i * 2)) = some (.int .i64 X[i].key) /\ hc h ((q.add (i * 2)).add 1) = some (.slice X[i].p X[i].bytes.length X[i].c) /\ hsv h X[i].p 1 X[i].bytes.length (ints .u8 X[i].bytes) /\ isBy X[i].bytes /\ X[i].bytes.length < 2 ^ 47
theorem SecsAt.ext {h0 h : H} {A : List Ent} (hs : Sat h0 A h) {p : Option Addr} {l : Nat} {X : List SR} (s : SecsAt h0 p l X) : SecsAt h p l X := by
 refine ⟨s.1, fun i hi => ?_⟩
 obtain ⟨q, h1, h2, h3, h4, h5, h6⟩ := s.2 i hi
 exact ⟨q, h1, hc_ext hs.ex h2 (fun y => y), hc_ext hs.ex h3 (fun y => y), hs.base h4, h5, h6⟩
theorem takeSec {L : List Sec} {t : Nat} (h : t < L.length) : L.take (t + 1) = L.take t ++ [L[t]] := by rw [List.take_succ, List.getElem?_eq_getElem h]; rfl
abbrev ringP (r m : Nat) (R : List SR) : List Ent := blk r [.map (some m)] :: mapE m (R.map SR.ent) :: R.map SR.sl
abbrev ringD (r : Nat) (lp : Option Addr) (lc : Nat) (R : List SR) : List Ent := blk r [.slice lp R.length lc] :: slE lp R.length lc 2 (secV R) :: R.map SR.sl
def SR.good (R : List SR) : Prop := ∀ x, x ∈ R -> x.bytes.length ≤ 256 /\ x.bytes.length ≤ x.c /\ isBy x.bytes
section
variable {h0 h : H} {A : List Ent} {i j d r m : Nat}
theorem hasN_sp {Q : Bool -> H -> Prop} (key : Int) {R : List SR} (hs : Sat h0 A h) (cr : At A i (blk r [.map (some m)])) (cm : At A j (mapE m (R.map SR.ent))) (q : Q (SR.at_ R key).isSome h) : F_keys_Ring_Has ⟨r, 0, none⟩ key Q h := by
 cases e : SR.at_ R key with
 | none => exact has_sp key hs cr cm (b := false) (op := none) (ol := 0) (oc := 0) (by rw [mlook_at, e]) (by rw [e] at q; exact q)
 | some x => exact has_sp key hs cr cm (b := true) (op := x.p) (ol := x.bytes.length) (oc := x.c) (by rw [mlook_at, e]) (by rw [e] at q; exact q)
theorem keysN_sp {Q : Option Addr -> Int -> Int -> H -> Prop} {X : List SR} {L : List Sec} {p : Option Addr} {l c : Nat} (hs : Sat h0 A h) (eL : X.map SR.kv = L) (rd : ∀ h', Sat h0 A h' -> SecsAt h' p l X) (hl : l < 2 ^ 47)
  (kE : ∀ e i h', newM L = some (e, i) -> Sat h0 A h' -> Q none e i h')
  (kT : newM L = none -> ∀ r m R h', R.map SR.kv = L -> SR.good R -> Sat h0 (ringP r m R ++ A) h' -> Q (some ⟨r, 0, none⟩) 0 0 h') : F_keys_New p l c Q h := by
 unfold F_keys_New G_keys_New
 try simp only [add_mk, Nat.zero_add]
 have hL : l = L.length := by rw [← eL, List.length_map]; exact (rd _ hs).1
 rw [ltI_eq]
 by_cases g : 64 < l
 ·rw [if_pos (by rw [decide_eq_true_iff]; omega)]
  exact kE _ _ _ (by unfold newM; rw [if_pos (by omega)]) hs
 rw [if_neg (by rw [decide_eq_true_iff]; omega)]
 have hn : newM L = goM L L.length := by unfold newM; rw [if_neg (by omega)]
 rw [hn] at kT
 replace kE : ∀ e i h', goM L L.length = some (e, i) -> Sat h0 A h' -> Q none e i h' := fun e i h' x => kE e i h' (hn.trans x)
 intro m _ hn; replace hs := hs.mapNew hn
 intro r _ hn; replace hs := Sat.new hs hn
 intro J13 hJ13
 refine loopN L.length (fun t (_ : List SR) => [si t]) (fun t R h => goM L L.length = goM L (L.length - t) /\ R.map SR.kv = L.take t /\ SR.good R /\ Sat h0 (ringP r m R ++ A) h) ?_ ?_ 0 [] _ (by omega) ⟨rfl, rfl, (show SR.good [] from fun x hx => by cases hx), hs⟩
 ·rintro t R h1 ht ⟨hg, hR, hgd, hs⟩ hk
  apply hJ13
  rw [ltI_eq, if_pos (by rw [decide_eq_true_iff]; omega)]
  have rd' : ∀ {B : List Ent} {h' : H}, Sat h0 (B ++ (ringP r m R ++ A)) h' -> Sat h0 A h' := fun {B h'} hs' => by
   refine hs'.sub ?_
   exact (List.sublist_append_right _ _).trans (List.sublist_append_right _ _)
  have htX : t < X.length := by rw [← eL, List.length_map] at ht; exact ht
  obtain ⟨q, hq, g0, g1, _, hby, hbl⟩ := (rd _ (rd' (B := []) hs)).2 t htX
  have rdb : ∀ {B : List Ent} {h' : H}, Sat h0 (B ++ (ringP r m R ++ A)) h' -> hsv h' X[t].p 1 X[t].bytes.length (ints .u8 X[t].bytes) := fun {B h'} hs' => by
   obtain ⟨_, _, _, _, y, _⟩ := (rd _ (rd' (B := B) hs')).2 t htX
   exact y
  rw [goM_at L ht] at hg
  have hkv : L[t] = (X[t].key, X[t].bytes) := by subst eL; simp
  obtain ⟨key, hkey⟩ : ∃ key, key = X[t].key := ⟨_, rfl⟩
  obtain ⟨bs, hbs⟩ : ∃ bs, bs = X[t].bytes := ⟨_, rfl⟩
  obtain ⟨bp, hbp⟩ : ∃ bp, bp = X[t].p := ⟨_, rfl⟩
  obtain ⟨bc, hbc⟩ : ∃ bc, bc = X[t].c := ⟨_, rfl⟩
  rw [← hkey, ← hbs] at hkv
  rw [← hkey] at g0
  rw [← hbp, ← hbs, ← hbc] at g1
  rw [← hbs] at hby hbl
  have rdb' : ∀ {B : List Ent} {h' : H}, Sat h0 (B ++ (ringP r m R ++ A)) h' -> hsv h' bp 1 bs.length (ints .u8 bs) := fun {B h'} hs' => by
   rw [hbp, hbs]; exact rdb (B := B) hs'
  obtain ⟨bl, hbsl⟩ : ∃ bl, bs.length = bl := ⟨_, rfl⟩
  rw [hbsl] at g1 hbl
  rw [hkv] at hg
  refine ⟨q, hq, by omega, by omega, ?_⟩
  simp only [Int.toNat_natCast]
  refine ⟨_, g0, _, _, _, g1, ?_⟩
  intro b _ hn; replace hs := Sat.new hs hn
  refine ⟨Sat.can hs .z (by simp), ?_⟩
  intro h2 e
  replace hs := Sat.wra hs .z e rfl
  clear e
  simp only [put_zero] at hs
  have bad : ∀ e, e ≠ 0 -> badM (L.take t) (key, bs) = e -> ∀ h', Sat h0 A h' -> Q none e t h' := by
   intro e he hb h' hs'
   rw [hb, if_neg he] at hg
   exact kE e t h' hg hs'
  intro J26 hJ26
  have no : badM (L.take t) (key, bs) = 2 -> J26 [.dv (.one (.bool true))] h2 := by
   intro hb
   apply hJ26
   rw [if_pos rfl]
   exact bad 2 (by decide) hb _ (rd' (B := [_]) hs)
  have way : 0 ≤ key -> key < 64 -> J26 [.dv (.one (.bool false))] h2 := by
   intro k0 k1
   apply hJ26
   clear hJ26 no
   rw [if_neg (by decide)]
   have bm : badM (L.take t) (key, bs) = if bs.length < 1 then 4 else if 256 < bs.length then 4 else if ((L.take t).find? (fun x => x.1 == key)).isSome = true then 18 else 0 := by
    unfold badM
    dsimp only
    rw [if_neg (by omega), if_neg (by omega)]
   rw [bm] at hg bad
   refine ⟨_, _, _, hs.ld .z rfl, ?_⟩
   rw [ltI_eq]
   by_cases b1 : bl < 1
   ·rw [if_pos (by rw [decide_eq_true_iff]; omega)]
    exact bad 4 (by decide) (by rw [if_pos (by omega)]) _ (rd' (B := [_]) hs)
   rw [if_neg (by rw [decide_eq_true_iff]; omega)]
   rw [if_neg (show ¬ bs.length < 1 by omega)] at hg bad
   refine ⟨_, _, _, hs.ld .z rfl, ?_⟩
   rw [ltI_eq]
   by_cases b2 : 256 < bl
   ·rw [if_pos (by rw [decide_eq_true_iff]; omega)]
    exact bad 4 (by decide) (by rw [if_pos (by omega)]) _ (rd' (B := [_]) hs)
   rw [if_neg (by rw [decide_eq_true_iff]; omega)]
   rw [if_neg (show ¬ 256 < bs.length by omega)] at hg bad
   refine ⟨_, hs.ld .z rfl, ?_⟩
   refine hasN_sp key hs (i := 1) zs1 zs2 ?_
   have ekv : (SR.at_ R key).isSome = ((L.take t).find? (fun x => x.1 == key)).isSome := by rw [← hR, ← at_kv]; simp
   rw [ekv]
   by_cases b3 : ((L.take t).find? (fun x => x.1 == key)).isSome = true
   ·rw [if_pos b3]
    exact bad 18 (by decide) (by rw [if_pos b3]) _ (rd' (B := [_]) hs)
   rw [if_neg b3]
   rw [if_neg b3, if_pos rfl] at hg
   clear bad
   have hnone : SR.at_ R key = none := by
    rw [← ekv] at b3
    cases e : SR.at_ R key with
    | none => rfl
    | some x => rw [e] at b3; exact absurd rfl b3
   refine ⟨_, hs.ld zs1 rfl, _, hs.ld .z rfl, _, _, _, hs.ld .z rfl, ?_⟩
   refine clone1_sp (vs := ints .u8 bs) hs (by omega) (fun h' hs' => ?_) ?_
   ·rw [← hbsl]; exact rdb' (B := [_]) hs'
   intro p' c' h3 _ hs
   refine ⟨hcs_one (hs.ld zs1 rfl), hcs_one (hs.ld zs2 rfl), _, _, _, rfl, hs.mapAt zs3, mins_at R key _ hnone, ?_⟩
   intro h4 e
   replace hs := hs.mapSet zs3 e
   clear e
   simp only [put_succ, put_zero] at hs
   rw [wrap_succ (by omega)]
   have hc' := capS hs .z
   refine hk (R ++ [⟨key, bs, p', c'⟩]) h4 ⟨hg, ?_, ?_, ?_⟩
   ·rw [List.map_append, hR, takeSec ht, hkv]; rfl
   ·intro x hx
    rcases List.mem_append.1 hx with hx | hx
    ·exact hgd x hx
    ·simp only [List.mem_cons, List.not_mem_nil, or_false] at hx
     subst hx
     exact ⟨by dsimp only; omega, by dsimp only; omega, hby⟩
   ·rw [← hbsl] at hs
    have e1 : (R ++ [(⟨key, bs, p', c'⟩ : SR)]).map SR.ent = R.map SR.ent ++ [(.int .i64 key, .one (.slice p' bs.length c'))] := by rw [List.map_append]; rfl
    have e2 : (R ++ [(⟨key, bs, p', c'⟩ : SR)]).map SR.sl = R.map SR.sl ++ [slE p' bs.length c' 1 (ints .u8 bs)] := by rw [List.map_append]; rfl
    unfold ringP
    rw [e1, e2]
    refine Sat.perm (hs.sub (B := slE p' bs.length c' 1 (ints .u8 bs) :: blk r [.map (some m)] :: mapE m (R.map SR.ent ++ [(.int .i64 key, .one (.slice p' bs.length c'))]) :: (R.map SR.sl ++ A)) (by (repeat (first | exact List.Sublist.refl _ | apply List.Sublist.cons_cons | apply List.Sublist.cons)))) ?_
    simp only [List.cons_append, List.append_assoc, List.nil_append]
    refine (List.Perm.swap _ _ _).trans (List.Perm.cons _ ?_)
    refine (List.Perm.swap _ _ _).trans (List.Perm.cons _ ?_)
    exact List.perm_middle.symm
  refine ⟨_, hs.ld .z rfl, ?_⟩
  rw [ltI_eq]
  by_cases k0 : key < 0
  ·rw [if_pos (by rw [decide_eq_true_iff]; omega)]
   exact no (by unfold badM; dsimp only; rw [if_pos k0])
  rw [if_neg (by rw [decide_eq_true_iff]; omega)]
  refine ⟨_, hs.ld .z rfl, ?_⟩
  rw [leI_eq]
  by_cases k1 : 63 < key
  ·rw [decide_eq_true (by omega)]
   exact no (by unfold badM; dsimp only; rw [if_neg k0, if_pos k1])
  ·rw [decide_eq_false (by omega)]
   exact way (by omega) (by omega)
 ·rintro R h1 ⟨hg, hR, hgd, hs⟩
  apply hJ13
  rw [ltI_eq, if_neg (by rw [decide_eq_true_iff]; omega)]
  rw [List.take_of_length_le (Nat.le_refl _)] at hR
  rw [Nat.sub_self] at hg
  exact kT hg r m R h1 hR hgd hs
theorem find_sp {Q : Int -> H -> Prop} (key : Int) {lp : Option Addr} {lc : Nat} {R : List SR} (hs : Sat h0 A h) (cr : At A i (blk r [.slice lp R.length lc])) (cl : At A j (slE lp R.length lc 2 (secV R))) (hR : R.length < 2 ^ 40)
  (k : ∀ n : Int, (SR.at_ R key = none /\ n = -1) ∨ (∃ t, ∃ ht : t < R.length, n = (t : Int) /\ SR.at_ R key = some R[t]) -> Q n h) : F_portcullisref12_Ring_find ⟨r, 0, none⟩ key Q h := by
 unfold F_portcullisref12_Ring_find G_portcullisref12_Ring_find
 intro J hJ
 refine loop_up R.length (fun t h' => SR.at_ R key = SR.at_ (R.drop t) key /\ h' = h) ?_ ?_ 0 _ (by omega) ⟨rfl, rfl⟩
 ·rintro t h1 ht ⟨hf, rfl⟩ hk
  apply hJ
  refine ⟨_, _, _, hs.ld cr rfl, ?_⟩
  rw [ltI_eq, if_pos (by rw [decide_eq_true_iff]; omega)]
  obtain ⟨q, hq, g⟩ := hsv_get (hs.sv cl) (secV_get R t ht).1
  refine ⟨_, _, _, hs.ld cr rfl, q, hq, by omega, by omega, ?_⟩
  simp only [Int.toNat_natCast]
  refine ⟨_, g, ?_⟩
  rw [List.drop_eq_getElem_cons ht] at hf
  unfold SR.at_ at hf
  rw [List.find?_cons] at hf
  by_cases c : R[t].key = key
  ·have c2 : (R[t].key == key) = true := by simpa using c
   rw [c2] at hf
   rw [if_pos c2]
   exact k _ (Or.inr ⟨t, ht, rfl, hf⟩)
  ·have c2 : (R[t].key == key) = false := by simpa using c
   rw [c2] at hf
   rw [if_neg (by rw [c2]; decide), wrap_succ (by omega)]
   exact hk _ ⟨hf, rfl⟩
 ·rintro h1 ⟨hf, rfl⟩
  apply hJ
  refine ⟨_, _, _, hs.ld cr rfl, ?_⟩
  rw [ltI_eq, if_neg (by simp)]
  rw [List.drop_of_length_le (Nat.le_refl _)] at hf
  exact k _ (Or.inl ⟨hf, rfl⟩)
theorem rhas_sp {Q : Bool -> H -> Prop} (key : Int) {lp : Option Addr} {lc : Nat} {R : List SR} (hs : Sat h0 A h) (cr : At A i (blk r [.slice lp R.length lc])) (cl : At A j (slE lp R.length lc 2 (secV R))) (hR : R.length < 2 ^ 40) (q : Q (SR.at_ R key).isSome h) : F_portcullisref12_Ring_Has ⟨r, 0, none⟩ key Q h := by
 unfold F_portcullisref12_Ring_Has G_portcullisref12_Ring_Has
 refine find_sp key hs cr cl hR ?_
 intro n hn
 rw [leI_eq]
 rcases hn with ⟨e, rfl⟩ | ⟨t, ht, rfl, e⟩
 ·rw [e] at q; exact q
 ·rw [e] at q
  rw [decide_eq_true (by omega)]
  exact q
theorem ringsN_sp {Q : Option Addr -> Int -> Int -> H -> Prop} {X : List SR} {L : List Sec} {p : Option Addr} {l c : Nat} (hs : Sat h0 A h) (eL : X.map SR.kv = L) (rd : ∀ h', Sat h0 A h' -> SecsAt h' p l X) (hl : l < 2 ^ 47)
  (kE : ∀ e i h', newM L = some (e, i) -> Sat h0 A h' -> Q none e i h')
  (kT : newM L = none -> ∀ r lp lc R h', R.map SR.kv = L -> SR.good R -> Sat h0 (ringD r lp lc R ++ A) h' -> Q (some ⟨r, 0, none⟩) 0 0 h') : F_portcullisref12_New p l c Q h := by
 unfold F_portcullisref12_New G_portcullisref12_New
 have hL : l = L.length := by rw [← eL, List.length_map]; exact (rd _ hs).1
 rw [ltI_eq]
 by_cases g : 64 < l
 ·rw [if_pos (by rw [decide_eq_true_iff]; omega)]
  exact kE _ _ _ (by unfold newM; rw [if_pos (by omega)]) hs
 rw [if_neg (by rw [decide_eq_true_iff]; omega)]
 have hn : newM L = goM L L.length := by unfold newM; rw [if_neg (by omega)]
 rw [hn] at kT
 replace kE : ∀ e i h', goM L L.length = some (e, i) -> Sat h0 A h' -> Q none e i h' := fun e i h' x => kE e i h' (hn.trans x)
 intro r _ hn; replace hs := Sat.new hs hn
 intro J9 hJ9
 refine loopN L.length (fun t (_ : List SR × Option Addr × Nat) => [si t]) (fun t s h => goM L L.length = goM L (L.length - t) /\ s.1.map SR.kv = L.take t /\ SR.good s.1 /\ Sat h0 (ringD r s.2.1 s.2.2 s.1 ++ A) h) ?_ ?_ 0 ([], none, 0) _ (by omega) ⟨rfl, rfl, (show SR.good [] from fun x hx => by cases hx), ?_⟩
 ·rintro t ⟨R, lp, lc⟩ h1 ht ⟨hg, hR, hgd, hs⟩ hk
  dsimp only at hg hR hgd hs hk ⊢
  apply hJ9
  rw [ltI_eq, if_pos (by rw [decide_eq_true_iff]; omega)]
  have hRl : R.length = t := by
   have := congrArg List.length hR
   rw [List.length_map, List.length_take] at this; omega
  have rd' : ∀ {B : List Ent} {h' : H}, Sat h0 (B ++ (ringD r lp lc R ++ A)) h' -> Sat h0 A h' := fun {B h'} hs' => by
   refine hs'.sub ?_
   exact (List.sublist_append_right _ _).trans (List.sublist_append_right _ _)
  have htX : t < X.length := by rw [← eL, List.length_map] at ht; exact ht
  obtain ⟨q, hq, g0, g1, _, hby, hbl⟩ := (rd _ (rd' (B := []) hs)).2 t htX
  rw [goM_at L ht] at hg
  have hkv : L[t] = (X[t].key, X[t].bytes) := by subst eL; simp
  obtain ⟨Y, hY⟩ : ∃ Y, Y = X[t] := ⟨_, rfl⟩
  have rdY : ∀ {B : List Ent} {h' : H}, Sat h0 (B ++ (ringD r lp lc R ++ A)) h' -> hc h' (q.add (t * 2)) = some (.int .i64 Y.key) /\ hc h' ((q.add (t * 2)).add 1) = some (.slice Y.p Y.bytes.length Y.c) /\ hsv h' Y.p 1 Y.bytes.length (ints .u8 Y.bytes) := fun {B h'} hs' => by
   obtain ⟨q', hq', y0, y1, y2, _, _⟩ := (rd _ (rd' (B := B) hs')).2 t htX
   rw [hq] at hq'
   injection hq' with hq'
   subst hq'
   rw [hY]
   exact ⟨y0, y1, y2⟩
  rw [← hY] at hkv hby hbl
  clear g0 g1
  obtain ⟨g0, g1, _⟩ := rdY (B := []) hs
  rw [hkv] at hg
  have bad : ∀ e, e ≠ 0 -> badM (L.take t) (Y.key, Y.bytes) = e -> Q none e t h1 := by
   intro e he hb
   rw [hb, if_neg he] at hg
   exact kE e t h1 hg (rd' (B := []) hs)
  simp only [Int.toNat_natCast]
  intro J12 hJ12
  have way : 0 ≤ Y.key -> Y.key < 64 -> J12 [] h1 := by
   intro k0 k1
   apply hJ12
   clear hJ12
   have bm : badM (L.take t) (Y.key, Y.bytes) = if Y.bytes.length < 1 then 4 else if 256 < Y.bytes.length then 4 else if ((L.take t).find? (fun x => x.1 == Y.key)).isSome = true then 18 else 0 := by
    unfold badM
    dsimp only
    rw [if_neg (by omega), if_neg (by omega)]
   rw [bm] at hg bad
   intro J14 hJ14
   refine ⟨q, hq, by omega, by omega, _, _, _, g1, ?_⟩
   rw [ltI_eq]
   by_cases b1 : Y.bytes.length < 1
   ·rw [if_pos (by rw [decide_eq_true_iff]; omega)]
    exact bad 4 (by decide) (by rw [if_pos (by omega)])
   rw [if_neg (by rw [decide_eq_true_iff]; omega)]
   rw [if_neg (show ¬ Y.bytes.length < 1 by omega)] at hg bad
   refine ⟨q, hq, by omega, by omega, _, _, _, g1, ?_⟩
   rw [ltI_eq]
   by_cases b2 : 256 < Y.bytes.length
   ·rw [if_pos (by rw [decide_eq_true_iff]; omega)]
    exact bad 4 (by decide) (by rw [if_pos (by omega)])
   rw [if_neg (by rw [decide_eq_true_iff]; omega)]
   rw [if_neg (show ¬ 256 < Y.bytes.length by omega)] at hg bad
   apply hJ14
   clear hJ14
   refine ⟨q, hq, by omega, by omega, _, g0, ?_⟩
   refine rhas_sp Y.key hs (i := 0) .z zs1 (by omega) ?_
   have ekv : (SR.at_ R Y.key).isSome = ((L.take t).find? (fun x => x.1 == Y.key)).isSome := by rw [← hR, ← at_kv]; simp
   rw [ekv]
   by_cases b3 : ((L.take t).find? (fun x => x.1 == Y.key)).isSome = true
   ·rw [if_pos b3]
    exact bad 18 (by decide) (by rw [if_pos b3])
   rw [if_neg b3]
   rw [if_neg b3, if_pos rfl] at hg
   clear bad
   intro eb _ hn; replace hs := Sat.new hs hn
   obtain ⟨g0, g1, gb⟩ := rdY (B := [_]) hs
   refine ⟨_, _, _, hs.ld zs1 rfl, q, hq, by omega, by omega, _, g0, q, hq, by omega, by omega, _, _, _, g1, _, gb, ?_⟩
   refine Sat.app_new hs (by simp) rfl (ints_one _ _) (by omega) ?_
   intro p' c' h3 hs
   have hc' := capS hs .z
   obtain ⟨g0, g1, gb⟩ := rdY (B := [_, _]) hs
   refine ⟨hcs_one g0, hcs_one (hs.ld zs2 rfl), ?_⟩
   intro nb _ hn; replace hs := Sat.new hs hn
   have one2 : ∀ v, v ∈ [Value.int .i64 Y.key, .slice p' Y.bytes.length c'] -> v.oneCell' = true := by
    intro v hv
    simp only [List.mem_cons, List.not_mem_nil, or_false] at hv
    rcases hv with rfl | rfl <;> rfl
   refine ⟨hcs_one (hs.ld zs3 rfl), _, hs.bv (i := 0) (l := 1) (sz := 2) .z rfl one2, ?_⟩
   refine Sat.app hs (i := 4) (vs := [Value.int .i64 Y.key, .slice p' Y.bytes.length c']) zs4 rfl rfl one2 (by omega) ?_
   intro lp2 lc2 h4 hs
   simp only [put_succ, put_zero] at hs
   refine ⟨Sat.can hs zs3 (by simp), ?_⟩
   intro h5 e
   replace hs := Sat.wra (xs := [.slice lp2 (R.length + 1) lc2]) hs zs3 e rfl
   clear e
   simp only [put_succ, put_zero] at hs
   rw [wrap_succ (by omega)]
   refine hk (R ++ [⟨Y.key, Y.bytes, p', c'⟩], lp2, lc2) h5 ⟨hg, ?_, ?_, ?_⟩
   ·dsimp only
    rw [List.map_append, hR, takeSec ht, hkv]; rfl
   ·intro x hx
    rcases List.mem_append.1 hx with hx | hx
    ·exact hgd x hx
    ·simp only [List.mem_cons, List.not_mem_nil, or_false] at hx
     subst hx
     exact ⟨by dsimp only; omega, by dsimp only; omega, hby⟩
   ·dsimp only
    have e1 : secV (R ++ [(⟨Y.key, Y.bytes, p', c'⟩ : SR)]) = secV R ++ [.int .i64 Y.key, .slice p' Y.bytes.length c'] := by rw [secV_app]; rfl
    have e2 : (R ++ [(⟨Y.key, Y.bytes, p', c'⟩ : SR)]).map SR.sl = R.map SR.sl ++ [slE p' Y.bytes.length c' 1 (ints .u8 Y.bytes)] := by rw [List.map_append]; rfl
    have e3 : (R ++ [(⟨Y.key, Y.bytes, p', c'⟩ : SR)]).length = R.length + 1 := by simp
    unfold ringD
    rw [e1, e2, e3]
    refine Sat.perm (hs.sub (B := slE p' Y.bytes.length c' 1 (ints .u8 Y.bytes) :: blk r [.slice lp2 (R.length + 1) lc2] :: slE lp2 (R.length + 1) lc2 2 (secV R ++ [.int .i64 Y.key, .slice p' Y.bytes.length c']) :: (R.map SR.sl ++ A)) (by (repeat (first | exact List.Sublist.refl _ | apply List.Sublist.cons_cons | apply List.Sublist.cons)))) ?_
    simp only [List.cons_append, List.append_assoc, List.nil_append]
    refine (List.Perm.swap _ _ _).trans (List.Perm.cons _ ?_)
    refine (List.Perm.swap _ _ _).trans (List.Perm.cons _ ?_)
    exact List.perm_middle.symm
  refine ⟨q, hq, by omega, by omega, _, g0, ?_⟩
  rw [ltI_eq]
  by_cases k0 : Y.key < 0
  ·rw [if_pos (by rw [decide_eq_true_iff]; omega)]
   exact bad 2 (by decide) (by unfold badM; dsimp only; rw [if_pos k0])
  rw [if_neg (by rw [decide_eq_true_iff]; omega)]
  refine ⟨q, hq, by omega, by omega, _, g0, ?_⟩
  rw [ltI_eq]
  by_cases k1 : 63 < Y.key
  ·rw [if_pos (by rw [decide_eq_true_iff]; omega)]
   exact bad 2 (by decide) (by unfold badM; dsimp only; rw [if_neg k0, if_pos k1])
  ·rw [if_neg (by rw [decide_eq_true_iff]; omega)]
   exact way (by omega) (by omega)
 ·rintro ⟨R, lp, lc⟩ h1 ⟨hg, hR, hgd, hs⟩
  dsimp only at hg hR hgd hs ⊢
  apply hJ9
  rw [ltI_eq, if_neg (by rw [decide_eq_true_iff]; omega)]
  rw [List.take_of_length_le (Nat.le_refl _)] at hR
  rw [Nat.sub_self] at hg
  exact kT hg r lp lc R h1 hR hgd hs
 ·dsimp only
  have := hs.sl_nil 2 none
  exact this.perm (List.Perm.swap _ _ _)
end
end Go.Proofs.YteedolonhdbieaaGreatDoor
end
section
namespace Go.Proofs.YteedolonhdbieaaGreatDoor
open Go Go.Vc Go.ChangeShapes Go.WideShapes Go.ChangeAt Go.RowKit
set_option maxRecDepth 100000
theorem xSec : xsh PP 8 172 = some [.int .i64, .slc 5] := by kernel_rfl
section
variable {D : Type} {enc : TypeId × Value -> D} {W : World}
theorem secsC_of {p : Option Addr} {l c : Nat} (h : Sli enc PP W 172 p l c) : ∃ X : List SR, SecsAt W.heap p l X /\ l < 2 ^ 47 /\ ∀ i (hi : i < X.length), X[i].bytes.length ≤ X[i].c := by
 have hb : Tryz.prog.bytesOf 172 = 32 := by kernel_rfl
 have hc : Tryz.prog.cellsOf 172 = 2 := by kernel_rfl
 obtain ⟨ess, h1, h2, _, h4⟩ := h.els xSec
 have hlc := h.1
 have hr := h.2.1
 rw [hb] at hr
 unfold reachBytes at hr
 have key : ∀ ess : List (List Value), (∀ es, es ∈ ess -> es.length = Tryz.prog.cellsOf 172 /\ XM enc PP W [.int .i64, .slc 5] es) -> ∃ X : List SR, X.length = ess.length /\ ∀ i (hi : i < X.length) (hi2 : i < ess.length), ess[i] = [.int .i64 X[i].key, .slice X[i].p X[i].bytes.length X[i].c] /\ hsv W.heap X[i].p 1 X[i].bytes.length (ints .u8 X[i].bytes) /\ isBytes X[i].bytes /\ X[i].bytes.length < 2 ^ 47 /\ X[i].bytes.length ≤ X[i].c := by
  intro ess
  induction ess with
  | nil => intro _; exact ⟨[], rfl, fun i hi => by simp at hi⟩
  | cons x r ih =>
   intro h
   obtain ⟨X, e1, e2⟩ := ih fun es hes => h es (by simp [hes])
   obtain ⟨k, _, rfl, _, xp, xl, xc, _, rfl, hh, hr⟩ := (h x (by simp)).2
   simp only [XM] at hr
   subst hr
   obtain ⟨bs, b1, b2, b3, b4⟩ := bytes24_of hh
   have hbl : bs.length = xl := by have := b1.1; simpa using this
   refine ⟨⟨k, bs, xp, xc⟩ :: X, by simp [e1], ?_⟩
   intro i hi hi2
   cases i with
   | zero => subst hbl; exact ⟨rfl, b1, b2, by dsimp only [List.getElem_cons_zero]; omega, b3⟩
   | succ i => exact e2 i (by simpa using hi) (by simpa using hi2)
 obtain ⟨X, e1, e2⟩ := key ess h2
 refine ⟨X, ⟨by omega, fun i hi => ?_⟩, by omega, fun i hi => (e2 i hi (by omega)).2.2.2.2⟩
 obtain ⟨e3, e4, e5, e6, _⟩ := e2 i hi (by omega)
 obtain ⟨q, hq, g⟩ := h4 i (by omega)
 rw [e3, hc] at g
 have g0 := g 0 _ rfl
 rw [add_zero] at g0
 exact ⟨q, hq, g0, g 1 _ rfl, e4, e5, e6⟩
theorem secs_of {p : Option Addr} {l c : Nat} (h : Sli enc PP W 172 p l c) : ∃ X : List SR, SecsAt W.heap p l X /\ l < 2 ^ 47 := by
 obtain ⟨X, a, b, _⟩ := secsC_of h
 exact ⟨X, a, b⟩
end
end Go.Proofs.YteedolonhdbieaaGreatDoor
end
section
namespace Go.Proofs.YteedolonhdbieaaGreatDoor
open Go Go.Vc
set_option maxRecDepth 100000
structure TkE where
 e : Int
 key : Int
 id : List Int
 tag : List Int
section
variable {h0 h : H} {A : List Ent} {i j d r m : Nat}
end
structure NkE where
 e : Int
 key : Int
 id : List Int
 cs : List CvM
 tag : List Int
section
variable {h0 h : H} {A : List Ent} {i j d r m : Nat}
theorem keysU_sp {Q : Option Addr -> Int -> Int -> H -> Prop} {X : List SR} {L : List Sec} {p : Option Addr} {l c : Nat} (hs : Sat h0 A h) (eL : X.map SR.kv = L) (rd : ∀ h', Sat h0 A h' -> SecsAt h' p l X) (hl : l < 2 ^ 47)
  (k : ∀ o e i h' B, Sat h0 (B ++ A) h' -> (newM L = some (e, i) /\ o = none) ∨ (newM L = none /\ e = 0 /\ ∃ r m R, o = some ⟨r, 0, none⟩ /\ R.map SR.kv = L /\ SR.good R /\ B = ringP r m R) -> Q o e i h') : F_keys_New p l c Q h :=
 keysN_sp hs eL rd hl (fun e i h' he hs => k none e i h' [] hs (Or.inl ⟨he, rfl⟩)) (fun hn r m R h' e1 e2 hs => k _ 0 0 h' _ hs (Or.inr ⟨hn, rfl, r, m, R, rfl, e1, e2, rfl⟩))
theorem ringsU_sp {Q : Option Addr -> Int -> Int -> H -> Prop} {X : List SR} {L : List Sec} {p : Option Addr} {l c : Nat} (hs : Sat h0 A h) (eL : X.map SR.kv = L) (rd : ∀ h', Sat h0 A h' -> SecsAt h' p l X) (hl : l < 2 ^ 47)
  (k : ∀ o e i h' B, Sat h0 (B ++ A) h' -> (newM L = some (e, i) /\ o = none) ∨ (newM L = none /\ e = 0 /\ ∃ r lp lc R, o = some ⟨r, 0, none⟩ /\ R.map SR.kv = L /\ SR.good R /\ B = ringD r lp lc R) -> Q o e i h') : F_portcullisref12_New p l c Q h :=
 ringsN_sp hs eL rd hl (fun e i h' he hs => k none e i h' [] hs (Or.inl ⟨he, rfl⟩)) (fun hn r lp lc R h' e1 e2 hs => k _ 0 0 h' _ hs (Or.inr ⟨hn, rfl, r, lp, lc, R, rfl, e1, e2, rfl⟩))
end
end Go.Proofs.YteedolonhdbieaaGreatDoor
end
section
namespace Go.Proofs.YteedolonhdbieaaGreatDoor
open Go Go.Vc
set_option maxRecDepth 100000
attribute [local irreducible] macM
structure PrM where
 key : List Int
 b : List Int
 tag : List Int
section
variable {h0 h : H} {A : List Ent} {i j d r m : Nat}
end
end Go.Proofs.YteedolonhdbieaaGreatDoor
end
section
namespace Go.Proofs.YteedolonhdbieaaGreatDoor
open Go Go.Vc
set_option maxRecDepth 100000
attribute [local irreducible] macM
theorem or_xor0 {a x y : Int} (ha : 0 ≤ a /\ a < 256) (hx : 0 ≤ x /\ x < 256) (hy : 0 ≤ y /\ y < 256) : bits .or .u8 a (bits .xor .u8 x y) = 0 ↔ a = 0 /\ x = y := by
 obtain ⟨a, rfl⟩ := Int.eq_ofNat_of_zero_le ha.1
 obtain ⟨x, rfl⟩ := Int.eq_ofNat_of_zero_le hx.1
 obtain ⟨y, rfl⟩ := Int.eq_ofNat_of_zero_le hy.1
 have e1 : bits .xor .u8 (x : Int) (y : Int) = ((x ^^^ y : Nat) : Int) := by
  have : bits .xor .u8 (x : Int) (y : Int) = IntKind.u8.wrap ((BitVec.ofInt 8 (x : Int) ^^^ BitVec.ofInt 8 (y : Int)).toNat : Int) := rfl
  rw [this, IntKind.wrap_u8]
  simp only [BitVec.toNat_xor, BitVec.toNat_ofInt]
  have ex : ((x : Int) % ((2 ^ 8 : Nat) : Int)).toNat = x := by omega
  have ey : ((y : Int) % ((2 ^ 8 : Nat) : Int)).toNat = y := by omega
  rw [ex, ey]
  have : x ^^^ y < 2 ^ 8 := Nat.xor_lt_two_pow (by omega) (by omega)
  omega
 have hz : x ^^^ y < 2 ^ 8 := Nat.xor_lt_two_pow (by omega) (by omega)
 rw [e1]
 obtain ⟨z, hzz⟩ : ∃ z, z = x ^^^ y := ⟨_, rfl⟩
 rw [← hzz] at hz ⊢
 have e2 : bits .or .u8 (a : Int) (z : Int) = ((a ||| z : Nat) : Int) := by
  have : bits .or .u8 (a : Int) (z : Int) = IntKind.u8.wrap ((BitVec.ofInt 8 (a : Int) ||| BitVec.ofInt 8 (z : Int)).toNat : Int) := rfl
  rw [this, IntKind.wrap_u8]
  simp only [BitVec.toNat_or, BitVec.toNat_ofInt]
  have ex : ((a : Int) % ((2 ^ 8 : Nat) : Int)).toNat = a := by omega
  have ey : ((z : Int) % ((2 ^ 8 : Nat) : Int)).toNat = z := by omega
  rw [ex, ey]
  have : a ||| z < 2 ^ 8 := Nat.or_lt_two_pow (by omega) hz
  omega
 rw [e2]
 have e3 : ((a ||| z : Nat) : Int) = 0 ↔ a = 0 /\ z = 0 := by
  rw [Int.natCast_eq_zero, Nat.or_eq_zero_iff]
 have e4 : x ^^^ y = 0 ↔ x = y := by
  constructor
  ·intro g
   have : x = (x ^^^ y) ^^^ y := by rw [Nat.xor_assoc, Nat.xor_self, Nat.xor_zero]
   rw [g, Nat.zero_xor] at this
   exact this
  ·rintro rfl; exact Nat.xor_self x
 rw [e3, hzz, e4]
 omega
section
variable {h0 h : H} {A : List Ent} {i j d r m : Nat}
theorem equal_sp {Q : Bool -> H -> Prop} {px py : Addr} {c c2 : Nat} {x y : List Int} (hx : isBy x) (hy : isBy y) (lx : x.length = 32) (ly : y.length = 32) (rx : hrow h px .u8 x) (ry : hrow h py .u8 y) (k : Q (decide (x = y)) h) : F_mac_Equal (some px) 32 c (some py) 32 c2 Q h := by
 unfold F_mac_Equal G_mac_Equal
 rw [if_neg (by simp)]
 intro J hJ
 refine loopS 32 (fun t (s : Int) => [.dv (.one (.int .u8 s)), si t]) (fun t s h' => h' = h /\ (0 ≤ s /\ s < 256) /\ (s = 0 ↔ x.take t = y.take t)) ?_ ?_ 0 0 _ (by omega) ⟨rfl, by decide, by simp⟩
 ·rintro t s h1 ht ⟨rfl, hs, he⟩ hk
  apply hJ
  rw [ltI_eq, if_pos (by rw [decide_eq_true_iff]; omega)]
  have tx : t < x.length := by omega
  have ty : t < y.length := by omega
  have gx := rx t (.int .u8 x[t]) (by rw [ints_get, List.getElem?_eq_getElem tx]; rfl)
  have gy := ry t (.int .u8 y[t]) (by rw [ints_get, List.getElem?_eq_getElem ty]; rfl)
  refine ⟨px, rfl, by omega, by omega, x[t], by simpa using gx, py, rfl, by omega, by omega, y[t], by simpa using gy, ?_⟩
  have bx := hx x[t] (List.getElem_mem tx)
  have by_ := hy y[t] (List.getElem_mem ty)
  rw [wrap_succ (by omega)]
  refine hk (bits .or .u8 s (bits .xor .u8 x[t] y[t])) _ ⟨rfl, ?_, ?_⟩
  ·have : bits .or .u8 s (bits .xor .u8 x[t] y[t]) = IntKind.u8.wrap ((BitVec.ofInt 8 s ||| BitVec.ofInt 8 (bits .xor .u8 x[t] y[t])).toNat : Int) := rfl
   rw [this, IntKind.wrap_u8]; omega
  ·rw [or_xor0 hs bx by_, he, take_snoc _ tx, take_snoc _ ty]
   constructor
   ·rintro ⟨a, b⟩; rw [a, b]
   ·intro a
    have := List.append_inj a (by simp; omega)
    exact ⟨this.1, by simpa using this.2⟩
 ·rintro s h1 ⟨rfl, hs, he⟩
  apply hJ
  rw [ltI_eq, if_neg (by decide)]
  rw [List.take_of_length_le (by omega), List.take_of_length_le (by omega)] at he
  have : (s == 0) = decide (x = y) := by
   by_cases c : x = y
   ·rw [decide_eq_true c]; simpa using he.2 c
   ·rw [decide_eq_false c]; simpa using fun y => c (he.1 y)
  rw [this]
  exact k
end
end Go.Proofs.YteedolonhdbieaaGreatDoor
end
section
namespace Go.Proofs.YteedolonhdbieaaGreatDoor
open Go Go.Vc
structure St.lays (c : Cfg) (s : St) : Prop where
 fits : s.fits c
 pos : ∀ n, n ∈ s.erases -> 0 ≤ n
section
variable {h0 h : H} {A : List Ent} {i p : Nat} {C : Cm}
end
end Go.Proofs.YteedolonhdbieaaGreatDoor
end
section
namespace Go.Proofs.YteedolonhdbieaaGreatDoor
open Go Go.Vc
section
variable {h0 h : H} {A : List Ent} {i p : Nat} {C : Cm}
theorem rwithin_iff (n a b : Int) (Q : Bool -> H -> Prop) (h : H) : F_portcullisref04_within n a b Q h = Q (decide (a ≤ n) && decide (n ≤ b)) h := by
 unfold F_portcullisref04_within G_portcullisref04_within
 by_cases h1 : a ≤ n <;> simp [h1]
theorem rMay_sp (c : Cfg) {Q : Int -> H -> Prop} (hs : Sat h0 A h) (k : ∀ h', Sat h0 A h' -> Q c.may? h') :
  F_portcullisref04_May c.cells c.slots c.fuses c.step c.keys c.erases c.area Q h := by
 unfold F_portcullisref04_May G_portcullisref04_May
 try simp only [add_mk, Nat.zero_add]
 intro n1 h' hn; replace hs := Sat.new hs hn
 replace k := k h' hs.drop
 have kb := hs.blkOf .z
 have hc0 := kb.hc
 intro J hJ
 have w3 : 1 ≤ c.slots /\ c.slots ≤ 8 -> IntKind.i64.wrap (c.slots + 3) = c.slots + 3 := by
  intro h1; rw [IntKind.wrap_i64]; omega
 have fin : ∀ r : Bool, (r = true ↔ (1 ≤ c.slots /\ c.slots ≤ 8) /\ (c.slots + 3 ≤ c.cells /\ c.cells ≤ 256) /\ (1 ≤ c.fuses /\ c.fuses ≤ 64) /\ (1 ≤ c.step /\ c.step ≤ 65536)) -> J [SV.dv (DV.one (Value.bool r))] h' := by
  intro r hr
  apply hJ
  simp only [hc0, rwithin_iff, List.getElem?_cons_succ, List.getElem?_cons_zero, Option.some.injEq, Value.int.injEq, true_and, exists_eq_left', Bool.and_eq_true, decide_eq_true_eq]
  have bad : ¬ c.may -> Q 1 h' := fun hm => by unfold Cfg.may? at k; rwa [if_neg hm] at k
  have good : c.may -> Q 0 h' := fun hm => by unfold Cfg.may? at k; rwa [if_pos hm] at k
  by_cases h4 : 1 ≤ c.keys /\ c.keys ≤ 64
  case neg => rw [if_neg h4]; split <;> exact bad fun m => h4 m.keys
  rw [if_pos h4]
  by_cases h5 : 0 ≤ c.erases /\ c.erases ≤ 65536
  case neg => rw [if_neg h5]; split <;> exact bad fun m => h5 m.erases
  rw [if_pos h5]
  cases r with
  | false =>
   have := mt hr.2 (by simp)
   simp only [Bool.not_false, if_true]
   exact bad fun m => this ⟨m.slots, m.cells, m.fuses, m.step⟩
  | true =>
   obtain ⟨a1, a2, a3, a4⟩ := hr.1 rfl
   rw [if_neg (by simp)]
   by_cases h6 : 0 ≤ c.area /\ c.area ≤ 64
   ·rw [if_neg (by simp; omega)]; exact good ⟨a1, a2, a3, a4, h4, h5, h6⟩
   ·rw [if_pos (by simp; omega)]; exact bad fun m => h6 m.area
 simp only [hc0, rwithin_iff, List.getElem?_cons_succ, List.getElem?_cons_zero, Option.some.injEq, Value.int.injEq, true_and, exists_eq_left', Bool.and_eq_true, decide_eq_true_eq]
 split
 case isFalse h1 => exact fin false (by simp; intro a b; exact absurd ⟨a, b⟩ h1)
 rename_i h1
 rw [w3 h1]
 split
 case isFalse h2 => exact fin false (by simp; intro _ _ a b; exact absurd ⟨a, b⟩ h2)
 rename_i h2
 split
 case isFalse h3 => exact fin false (by simp; intro _ _ _ _ a b; exact absurd ⟨a, b⟩ h3)
 rename_i h3
 refine fin _ ?_
 simp only [Bool.and_eq_true, decide_eq_true_eq]
 exact ⟨fun h4 => ⟨h1, h2, h3, h4⟩, fun m => m.2.2.2⟩
theorem rBlank_sp {Q : List Int -> H -> Prop} (hs : Sat h0 A h) (k : ∀ h', Sat h0 A h' -> Q blankCell h') : F_portcullisref04_Blank Q h := by
 unfold F_portcullisref04_Blank G_portcullisref04_Blank
 try simp only [add_mk, Nat.zero_add, List.append_nil]
 (intro _ _ hn; replace hs := Sat.new hs hn)
 (intro _ _ hn; replace hs := Sat.new hs hn)
 (refine ⟨Sat.can hs (by repeat constructor) (by simp), ?_⟩; intro _ e; replace hs := Sat.wra hs (by repeat constructor) e (by simp [*]); clear e; simp only [put] at hs)
 intro J hJ
 refine loop_up 32 (fun i h => Sat h0 (blk _ (ints .u8 (mapTo (fun _ _ => 255) i (zeros 32))) :: blk _ (ints .u8 (zeros 32)) :: A) h) ?_ ?_ 0 _ (by omega) (by rw [mapTo_zero]; exact hs)
 ·intro j h7 hjl hs hk'
  apply hJ
  rw [ltI_eq, if_pos (by simp; omega)]
  simp only [Int.toNat_natCast, Nat.mul_one]
  refine ⟨by omega, by omega, hs.can .z (by simp; omega), ?_⟩
  intro h8 e8
  replace hs := hs.wr .z e8
  rw [wrap_succ (by omega)]
  refine hk' _ ?_
  simp only [splice_cons, splice_nil, ints_set, put] at hs
  rw [mapTo_succ (fun _ _ => 255) j (zeros 32) (by simpa using hjl)] at hs
  exact hs
 ·intro h7 hs
  apply hJ
  rw [ltI_eq, if_neg (by simp)]
  rw [mapTo_const 32 255 _ (by simp)] at hs
  refine ⟨blankCell, by simp [blankCell], hs.row0 .z, ?_⟩
  have : (ints .u8 blankCell).length = 32 := by simp [blankCell]
  refine ⟨hs.can zs1 (by simp), ?_⟩
  intro _ e
  replace hs := Sat.wra hs zs1 e (by simp [blankCell])
  simp only [put] at hs
  refine ⟨blankCell, by simp [blankCell], hs.row0 zs1, k _ hs.drop.drop⟩
end
end Go.Proofs.YteedolonhdbieaaGreatDoor
/- Contracts of the document's chip: new ones, laid ones, copies. Own work. -/
namespace Go.Proofs.YteedolonhdbieaaGreatDoor
open Go Go.Vc
section
variable {h0 h : H} {A : List Ent} {i p : Nat} {C : Cm}
theorem wnp {c : Cfg} (m : c.may) : IntKind.i64.wrap (2 + IntKind.i64.wrap (2 * c.area)) = c.np := by
 have := m.area; unfold Cfg.np; simp only [IntKind.wrap_i64]; omega
theorem wnf {c : Cfg} (m : c.may) : IntKind.i64.wrap (IntKind.i64.wrap (c.slots * c.fuses) + c.keys) = c.nf := by
 have h1 := m.slots; have h2 := m.fuses; have h3 := m.keys
 have e1 : 0 ≤ c.slots * c.fuses := Int.mul_nonneg (by omega) (by omega)
 have e2 : c.slots * c.fuses ≤ 8 * 64 := Int.mul_le_mul (by omega) (by omega) (by omega) (by omega)
 unfold Cfg.nf; simp only [IntKind.wrap_i64]; omega
theorem fresh_sp (c : Cfg) (hm : c.may) {Q : Option Addr -> Nat -> Nat -> Option Addr -> Nat -> Nat -> Option Addr -> Nat -> Nat -> H -> Prop} (hs : Sat h0 A h)
  (k : ∀ (a' b' c' : Sl) h', Sat h0 (stL a' b' c' (freshSt c) ++ A) h' -> Q a'.1 a'.2.1 a'.2.2 b'.1 b'.2.1 b'.2.2 c'.1 c'.2.1 c'.2.2 h') :
  F_portcullisref04_fresh c.cells c.slots c.fuses c.step c.keys c.erases c.area Q h := by
 unfold F_portcullisref04_fresh G_portcullisref04_fresh
 try simp only [add_mk, Nat.zero_add, List.append_nil]
 intro g _ hn; replace hs := Sat.new hs hn
 intro n2 _ hn; replace hs := Sat.new hs hn
 intro J hJ
 have hnp := hm.np
 have hnf := hm.nf
 have hmc := hm.cells
 have hms := hm.slots
 have fin : ∀ p a b h', Sat h0 (blk p [.slice none 0 0, .slice (some ⟨a, 0, none⟩) c.np.toNat c.np.toNat, .slice (some ⟨b, 0, none⟩) c.nf.toNat c.nf.toNat] :: blk a (List.replicate c.np.toNat [Value.int .i64 0]).flatten :: blk b (List.replicate c.nf.toNat [Value.bool false]).flatten ::
   blk g c.vals :: blk n2 [.slice none 0 0, .slice none 0 0, .slice none 0 0] :: A) h' -> J [SV.dv (DV.addr ⟨p, 0, none⟩)] h' := by
  intro p a b h' hs
  apply hJ
  simp only [Cfg.vals] at hs
  intro J2 hJ2
  replace hs := hs.mat_nil 32 none
  refine loop_up c.np.toNat (fun i h => ∃ hd : Sl, hd.2.1 = i /\ Sat h0 (matE 32 hd (List.replicate i (blankRow c)) :: blk p [hd.v, .slice (some ⟨a, 0, none⟩) c.np.toNat c.np.toNat, .slice (some ⟨b, 0, none⟩) c.nf.toNat c.nf.toNat] :: blk a (List.replicate c.np.toNat [Value.int .i64 0]).flatten :: blk b (List.replicate c.nf.toNat [Value.bool false]).flatten ::
   blk g c.vals :: blk n2 [.slice none 0 0, .slice none 0 0, .slice none 0 0] :: A) h) ?_ ?_ 0 _ (by omega) ⟨_, rfl, hs⟩
  ·rintro i h1 hi ⟨⟨hp, hl, hc⟩, e, hs⟩ hk
   simp only at e; subst e
   apply hJ2
   simp only [Cfg.vals] at hs
   refine ⟨_, Sat.ld hs (by repeat constructor) (by rfl), ?_⟩
   rw [wnp hm, ltI_eq, if_pos (by simp; omega)]
   refine ⟨_, Sat.ld hs (by repeat constructor) (by rfl), ?_⟩
   refine ⟨by omega, by omega, by omega, by omega, ?_⟩
   intro nr _ hn; replace hs := Sat.new hs hn
   intro J3 hJ3
   have hrl : ∀ i, ((List.replicate i blankCell).flatten ++ (List.replicate (c.cells.toNat - i) (zeros 32)).flatten).length = i * 32 + (c.cells.toNat - i) * 32 := fun i => by
    simp [blankCell]
   refine loop_up c.cells.toNat (fun i h => Sat h0 (blk nr (ints .u8 ((List.replicate i blankCell).flatten ++ (List.replicate (c.cells.toNat - i) (zeros 32)).flatten)) :: matE 32 (hp, hl, hc) (List.replicate hl (blankRow c)) :: blk p [.slice hp hl hc, .slice (some ⟨a, 0, none⟩) c.np.toNat c.np.toNat, .slice (some ⟨b, 0, none⟩) c.nf.toNat c.nf.toNat] :: blk a (List.replicate c.np.toNat [Value.int .i64 0]).flatten :: blk b (List.replicate c.nf.toNat [Value.bool false]).flatten ::
    blk g c.vals :: blk n2 [.slice none 0 0, .slice none 0 0, .slice none 0 0] :: A) h) ?_ ?_ 0 _ (by omega) ?_
   ·intro j h2 hj hs hk2
    apply hJ3
    simp only [Cfg.vals] at hs
    refine ⟨_, Sat.ld hs (by repeat constructor) (by rfl), ?_⟩
    rw [ltI_eq, if_pos (by simp; omega)]
    refine rBlank_sp hs ?_
    intro h3 hs
    refine ⟨_, rfl, by omega, by omega, ?_⟩
    try simp only [add_mk, Nat.zero_add, Int.toNat_natCast]
    refine ⟨hs.can .z (by rw [ints_length, hrl]; omega), ?_⟩
    intro h4 e4
    replace hs := hs.wr .z e4
    rw [wrap_succ (by omega)]
    refine hk2 _ ?_
    have esp : splice (ints .u8 ((List.replicate j blankCell).flatten ++ (List.replicate (c.cells.toNat - j) (zeros 32)).flatten)) (j * 32) (ints .u8 blankCell) = ints .u8 ((List.replicate (j + 1) blankCell).flatten ++ (List.replicate (c.cells.toNat - (j + 1)) (zeros 32)).flatten) := by
     have e1 : (List.replicate (c.cells.toNat - j) (zeros 32)).flatten = zeros 32 ++ (List.replicate (c.cells.toNat - (j + 1)) (zeros 32)).flatten := by
      rw [show c.cells.toNat - j = 1 + (c.cells.toNat - (j + 1)) by omega, rep_add]; simp
     have e2 : (ints .u8 (List.replicate j blankCell).flatten).length = j * 32 := by simp [blankCell]
     rw [e1, ints_append, ints_append, ← List.append_assoc, ← e2, splice_append _ _ _ _ (by simp [blankCell]), rep_add j 1]
     simp
    rw [esp] at hs
    exact hs
   ·intro h2 hs
    apply hJ3
    simp only [Cfg.vals] at hs
    refine ⟨_, Sat.ld hs (by repeat constructor) (by rfl), ?_⟩
    rw [ltI_eq, if_neg (by simp; omega)]
    refine ⟨_, _, _, Sat.ld hs (by repeat constructor) (by rfl), ?_⟩
    intro nh _ hn; replace hs := Sat.new hs hn
    refine ⟨_, Sat.bv hs (.z) (by simp) (by simp), ?_⟩
    replace hs := hs.as_sl (i := 1) (l := c.cells.toNat) (sz := 32) zs1 (by rw [ints_length, hrl]; omega) (ints_one _ _)
    simp only [put] at hs
    replace hs := Sat.front (e := sE (some ⟨nr, 0, none⟩, c.cells.toNat, c.cells.toNat) 32 _) hs zs1
    refine Sat.app_row hs zs1 (by omega) ?_
    intro p2 c2' h4 hs
    simp only [put, del] at hs
    (refine ⟨Sat.can hs (by repeat constructor) (by simp), ?_⟩; intro _ e; replace hs := Sat.wr hs (by repeat constructor) e; clear e; simp only [put, splice, List.set] at hs)
    rw [wrap_succ (by omega)]
    refine hk _ ⟨(p2, hl + 1, c2'), rfl, ?_⟩
    have e1 : (List.replicate c.cells.toNat blankCell).flatten ++ (List.replicate (c.cells.toNat - c.cells.toNat) (zeros 32)).flatten = blankRow c := by simp [blankRow]
    rw [e1] at hs
    rw [List.replicate_succ']
    exact hs.sub (by (repeat (first | exact List.Sublist.refl _ | apply List.Sublist.cons_cons | apply List.Sublist.cons)))
   ·have e0 : (List.replicate c.cells.toNat (ints .u8 (zeros 32))).flatten = ints .u8 ((List.replicate 0 blankCell).flatten ++ (List.replicate (c.cells.toNat - 0) (zeros 32)).flatten) := by
     simp [ints, List.map_flatten]
    rw [e0] at hs
    exact hs
  ·rintro h1 ⟨⟨hp, hl, hc⟩, e, hs⟩
   simp only at e; subst e
   apply hJ2
   simp only [Cfg.vals] at hs
   refine ⟨_, Sat.ld hs (by repeat constructor) (by rfl), ?_⟩
   rw [wnp hm, ltI_eq, if_neg (by simp; omega)]
   (repeat first | refine ⟨_, Sat.ld hs (by repeat constructor) (by rfl), ?_⟩ | refine ⟨_, _, _, Sat.ld hs (by repeat constructor) (by rfl), ?_⟩ | (intro _ _ hn; replace hs := Sat.new hs hn) | refine ⟨Sat.cs hs (by repeat constructor) (by rfl), ?_⟩ | (refine ⟨Sat.can hs (by repeat constructor) (by simp), ?_⟩; intro _ e; replace hs := Sat.wr hs (by repeat constructor) e; clear e; simp only [put, splice, List.set] at hs))
   refine k (hp, _, hc) (some ⟨a, 0, none⟩, _, _) (some ⟨b, 0, none⟩, _, _) _ ?_
   have eb : (List.replicate c.nf.toNat [Value.bool false]).flatten = bools (freshSt c).blown := by simp [freshSt, bools]
   have ea : (List.replicate c.np.toNat [Value.int .i64 0]).flatten = ints .i64 (freshSt c).erases := by simp [freshSt, zeros, ints]
   rw [ea, eb] at hs
   replace hs := Sat.front hs (e := blk p _) (by repeat constructor)
   replace hs := Sat.front hs (e := blk g _) (by repeat constructor)
   replace hs := Sat.front hs (e := blk n2 _) (by repeat constructor)
   simp only [del] at hs
   replace hs := hs.drop.drop.drop
   replace hs := hs.as_sl (i := 1) (l := c.np.toNat) (sz := 1) zs1 (by simp [freshSt]) (ints_one _ _)
   replace hs := hs.as_sl (i := 2) (l := c.nf.toNat) (sz := 1) zs2 (by simp [freshSt]) (bools_one _)
   exact hs
 (repeat first | refine ⟨_, Sat.ld hs (by repeat constructor) (by rfl), ?_⟩ | refine ⟨_, _, _, Sat.ld hs (by repeat constructor) (by rfl), ?_⟩ | (intro _ _ hn; replace hs := Sat.new hs hn) | refine ⟨Sat.cs hs (by repeat constructor) (by rfl), ?_⟩ | (refine ⟨Sat.can hs (by repeat constructor) (by simp), ?_⟩; intro _ e; replace hs := Sat.wr hs (by repeat constructor) e; clear e; simp only [put, splice, List.set] at hs))
 simp only [wnp hm, wnf hm]
 repeat' (first
  | refine ⟨_, Sat.ld hs (by repeat constructor) (by rfl), ?_⟩
  | (intro _ _ hn; replace hs := Sat.new hs hn)
  | refine ⟨Sat.cs hs (by repeat constructor) (by rfl), ?_⟩
  | (refine ⟨Sat.can hs (by repeat constructor) (by simp), ?_⟩; intro _ e; replace hs := Sat.wr hs (by repeat constructor) e; clear e; simp only [put, splice, List.set] at hs)
  | refine ⟨by omega, ?_⟩
  | refine And.intro ?_ ?_)
 all_goals
  replace hs := Sat.front hs (e := blk n2 _) (by repeat constructor)
  replace hs := Sat.front hs (e := blk g _) (by repeat constructor)
  replace hs := Sat.front hs (e := blk _ (List.replicate c.nf.toNat [Value.bool false]).flatten) (by repeat constructor)
  replace hs := Sat.front hs (e := blk _ (List.replicate c.np.toNat [Value.int .i64 0]).flatten) (by repeat constructor)
  replace hs := Sat.front hs (e := blk _ [Value.slice none 0 0, Value.slice (some ⟨_, 0, none⟩) _ _, Value.slice (some ⟨_, 0, none⟩) _ _]) (by repeat constructor)
  exact fin _ _ _ _ hs
theorem rNew_sp (c : Cfg) {Q : Option Addr -> Int -> H -> Prop} (hs : Sat h0 A h)
  (k1 : ¬ c.may -> ∀ h', Sat h0 A h' -> Q none 1 h')
  (k2 : c.may -> ∀ p h', Sat h0 (chipE p (freshC c) :: A) h' -> Q (some ⟨p, 0, none⟩) 0 h') :
  F_portcullisref04_New c.cells c.slots c.fuses c.step c.keys c.erases c.area Q h := by
 unfold F_portcullisref04_New G_portcullisref04_New
 try simp only [add_mk, Nat.zero_add]
 intro g _ hn; replace hs := Sat.new hs hn
 (repeat first | refine ⟨_, Sat.ld hs (by repeat constructor) (by rfl), ?_⟩ | refine ⟨_, _, _, Sat.ld hs (by repeat constructor) (by rfl), ?_⟩ | (intro _ _ hn; replace hs := Sat.new hs hn) | refine ⟨Sat.cs hs (by repeat constructor) (by rfl), ?_⟩ | (refine ⟨Sat.can hs (by repeat constructor) (by simp), ?_⟩; intro _ e; replace hs := Sat.wr hs (by repeat constructor) e; clear e; simp only [put, splice, List.set] at hs))
 refine rMay_sp c hs ?_
 intro h1 hs
 unfold Cfg.may?
 by_cases hm : c.may
 case neg =>
  rw [if_neg hm, if_pos (by decide)]
  exact k1 hm _ hs.drop
 rw [if_pos hm, if_neg (by decide)]
 (repeat first | refine ⟨_, Sat.ld hs (by repeat constructor) (by rfl), ?_⟩ | refine ⟨_, _, _, Sat.ld hs (by repeat constructor) (by rfl), ?_⟩ | (intro _ _ hn; replace hs := Sat.new hs hn) | refine ⟨Sat.cs hs (by repeat constructor) (by rfl), ?_⟩ | (refine ⟨Sat.can hs (by repeat constructor) (by simp), ?_⟩; intro _ e; replace hs := Sat.wr hs (by repeat constructor) e; clear e; simp only [put, splice, List.set] at hs))
 refine fresh_sp c hm hs ?_
 intro a b c' h2 hs
 replace hs : Sat h0 (matE 32 a (freshSt c).pages :: sE b 1 (ints .i64 (freshSt c).erases) :: sE c' 1 (bools (freshSt c).blown) :: blk g c.vals :: A) h2 := hs
 simp only [Cfg.vals] at hs
 (repeat first | refine ⟨_, Sat.ld hs (by repeat constructor) (by rfl), ?_⟩ | refine ⟨_, _, _, Sat.ld hs (by repeat constructor) (by rfl), ?_⟩ | (intro _ _ hn; replace hs := Sat.new hs hn) | refine ⟨Sat.cs hs (by repeat constructor) (by rfl), ?_⟩ | (refine ⟨Sat.can hs (by repeat constructor) (by simp), ?_⟩; intro _ e; replace hs := Sat.wr hs (by repeat constructor) e; clear e; simp only [put, splice, List.set] at hs))
 refine k2 hm _ _ ?_
 replace hs := hs.sl_nil 1 none
 replace hs := Sat.front hs (e := slE _ _ _ 1 (bools _)) (by repeat constructor)
 replace hs := Sat.front hs (e := slE _ _ _ 1 (ints .i64 _)) (by repeat constructor)
 replace hs := Sat.front hs (e := matE 32 _ _) (by repeat constructor)
 replace hs := Sat.front hs (e := blk _ [_, _, _, _, _, _, _, _, _, _, _, _, _, _]) (by repeat constructor)
 simp only [del] at hs
 exact (chip_make (C := freshC c) (a := a) (b := b) (c := c') (m := (none, 0, 0)) (freshC_ok hm) hs).sub (by (repeat (first | exact List.Sublist.refl _ | apply List.Sublist.cons_cons | apply List.Sublist.cons)))
end
end Go.Proofs.YteedolonhdbieaaGreatDoor
/- Contracts of the document's chip: its methods. Own work. -/
namespace Go.Proofs.YteedolonhdbieaaGreatDoor
open Go Go.Vc
structure RefW (C : Cm) (w : Pl × List Int) : Prop where
 ok : C.ok
 b : bytesOk w.2
 l : w.2.length ≤ 2 ^ 47
 m : 0 ≤ C.left -> w.2 = C.mask
abbrev refL (p : Nat) (C : Cm) (w : Pl × List Int) : List Ent := [blk p (C.cells w.1.a w.1.b w.1.c w.1.m), matE 32 w.1.a C.s.pages, sE w.1.b 1 (ints .i64 C.s.erases), sE w.1.c 1 (bools C.s.blown), sE w.1.m 1 (ints .u8 w.2)]
def refE (p : Nat) (C : Cm) : Ent := exE 4 (RefW C) (refL p C)
section
variable {h0 h : H} {A : List Ent} {i p : Nat} {C : Cm}
theorem ref_close {C0 : Cm} {a b c m : Sl} {ms : List Int} (ok : C.ok) (mb : bytesOk ms) (ml : ms.length ≤ 2 ^ 47) (me : 0 ≤ C.left -> ms = C.mask) (ci : At A i (refE p C0))
  (hs : Sat h0 (blk p (C.cells a b c m) :: matE 32 a C.s.pages :: sE b 1 (ints .i64 C.s.erases) :: sE c 1 (bools C.s.blown) :: sE m 1 (ints .u8 ms) :: del A i) h) : Sat h0 (put A i (refE p C)) h :=
 Sat.back ci (Sat.close (⟨a, b, c, m⟩, ms) ⟨ok, mb, ml, me⟩ hs)
theorem ref_make {a b c m : Sl} {ms : List Int} (ok : C.ok) (mb : bytesOk ms) (ml : ms.length ≤ 2 ^ 47) (me : 0 ≤ C.left -> ms = C.mask)
  (hs : Sat h0 (blk p (C.cells a b c m) :: matE 32 a C.s.pages :: sE b 1 (ints .i64 C.s.erases) :: sE c 1 (bools C.s.blown) :: sE m 1 (ints .u8 ms) :: A) h) : Sat h0 (refE p C :: A) h :=
 Sat.close (⟨a, b, c, m⟩, ms) ⟨ok, mb, ml, me⟩ hs
theorem chip_ref (hs : Sat h0 A h) (ci : At A i (chipE p C)) : Sat h0 (put A i (refE p C)) h := by
 obtain ⟨w, ok, hs⟩ := (hs.front ci).open_; dsimp only [chipL, List.cons_append, List.nil_append, Cm.cells] at hs
 exact Sat.back ci (ref_make (a := w.a) (b := w.b) (c := w.c) (m := w.m) ok ok.mask ok.mlen (fun _ => rfl) hs)
theorem act_b {Q : Bool -> H -> Prop} {a b c m : Sl} (hs : Sat h0 A h) (ci : At A i (blk p (C.cells a b c m))) (ok : C.ok) (k : ∀ h', Sat h0 (put A i (blk p (C.act.cells a b c m))) h' -> Q (decide (C.left = 0)) h') : F_portcullisref04_Chip_act ⟨p, 0, none⟩ Q h := by
 unfold F_portcullisref04_Chip_act G_portcullisref04_Chip_act
 try simp only [add_mk, Nat.zero_add]
 have hl := ok.left
 have hl2 := ok.left2
 have ea : C.act.cells a b c m = [.int .i64 C.cfg.cells, .int .i64 C.cfg.slots, .int .i64 C.cfg.fuses, .int .i64 C.cfg.step, .int .i64 C.cfg.keys, .int .i64 C.cfg.erases, .int .i64 C.cfg.area, a.v, b.v, c.v,
   .int .i64 (w64 (C.acts + 1)), .bool C.act.out, .int .i64 C.act.left, m.v] := by unfold Cm.act; split <;> rfl
 rw [ea] at k
 replace hs := (hs.front ci)
 simp only [Cm.cells] at hs
 (repeat first | refine ⟨_, Sat.ld hs (by repeat constructor) (by rfl), ?_⟩ | refine ⟨_, _, _, Sat.ld hs (by repeat constructor) (by rfl), ?_⟩ | (intro _ _ hn; replace hs := Sat.new hs hn) | refine ⟨Sat.cs hs (by repeat constructor) (by rfl), ?_⟩ | (refine ⟨Sat.can hs (by repeat constructor) (by simp), ?_⟩; intro _ e; replace hs := Sat.wr hs (by repeat constructor) e; clear e; simp only [put, splice, List.set] at hs))
 have back : ∀ {vs h}, Sat h0 (blk p vs :: del A i) h -> Sat h0 (put A i (blk p vs)) h := fun hs => Sat.back ci hs
 by_cases h1 : C.left = 0
 ·rw [if_pos (by simp [h1])]
  (repeat first | refine ⟨_, Sat.ld hs (by repeat constructor) (by rfl), ?_⟩ | refine ⟨_, _, _, Sat.ld hs (by repeat constructor) (by rfl), ?_⟩ | (intro _ _ hn; replace hs := Sat.new hs hn) | refine ⟨Sat.cs hs (by repeat constructor) (by rfl), ?_⟩ | (refine ⟨Sat.can hs (by repeat constructor) (by simp), ?_⟩; intro _ e; replace hs := Sat.wr hs (by repeat constructor) e; clear e; simp only [put, splice, List.set] at hs))
  have e1 : C.act.out = true := by simp [Cm.act, h1]
  have e2 : C.act.left = -1 := by simp [Cm.act, h1]
  rw [e1, e2] at k
  have := k _ (back hs)
  simpa [h1] using this
 ·rw [if_neg (by simp [h1])]
  (repeat first | refine ⟨_, Sat.ld hs (by repeat constructor) (by rfl), ?_⟩ | refine ⟨_, _, _, Sat.ld hs (by repeat constructor) (by rfl), ?_⟩ | (intro _ _ hn; replace hs := Sat.new hs hn) | refine ⟨Sat.cs hs (by repeat constructor) (by rfl), ?_⟩ | (refine ⟨Sat.can hs (by repeat constructor) (by simp), ?_⟩; intro _ e; replace hs := Sat.wr hs (by repeat constructor) e; clear e; simp only [put, splice, List.set] at hs))
  have e1 : C.act.out = C.out := by simp [Cm.act, h1]
  have e3 : decide (C.left = 0) = false := by simp [h1]
  rw [e1, e3] at k
  by_cases h2 : 0 < C.left
  ·rw [ltI_eq, if_pos (by simpa using h2)]
   (repeat first | refine ⟨_, Sat.ld hs (by repeat constructor) (by rfl), ?_⟩ | refine ⟨_, _, _, Sat.ld hs (by repeat constructor) (by rfl), ?_⟩ | (intro _ _ hn; replace hs := Sat.new hs hn) | refine ⟨Sat.cs hs (by repeat constructor) (by rfl), ?_⟩ | (refine ⟨Sat.can hs (by repeat constructor) (by simp), ?_⟩; intro _ e; replace hs := Sat.wr hs (by repeat constructor) e; clear e; simp only [put, splice, List.set] at hs))
   have e2 : C.act.left = C.left - 1 := by simp [Cm.act, h1]; omega
   rw [e2] at k
   rw [show IntKind.i64.wrap (C.left - 1) = C.left - 1 by rw [IntKind.wrap_i64]; omega] at hs
   exact k _ (back hs)
  ·rw [ltI_eq, if_neg (by simpa using h2)]
   have e2 : C.act.left = C.left := by simp [Cm.act, h1]; omega
   rw [e2] at k
   exact k _ (back hs)
theorem bits_b {Q : Int -> H -> Prop} {j : Nat} {a b c m : Sl} {mask : List Int} (hs : Sat h0 A h) (ci : At A i (blk p (C.cells a b c m))) (mi : At A j (sE m 1 (ints .u8 mask))) (n : Nat) {x : Int} (hx : x = n)
  (k : Q (if mask = [] then 0 else mask.getD (n % mask.length) 0) h) : F_portcullisref04_Chip_bits ⟨p, 0, none⟩ x Q h := by
 unfold F_portcullisref04_Chip_bits G_portcullisref04_Chip_bits
 subst hx
 try simp only [add_mk, Nat.zero_add]
 have hl := hs.sl_len mi
 simp only [ints_length, Nat.mul_one] at hl
 refine ⟨_, _, _, hs.ld ci rfl, ?_⟩
 by_cases h1 : mask = []
 ·rw [if_pos h1] at k
  subst h1
  rw [if_pos (by simp at hl; simp [← hl])]
  exact k
 ·rw [if_neg h1] at k
  have hp : 0 < mask.length := List.length_pos_iff.2 h1
  rw [if_neg (by simp; omega)]
  refine ⟨_, _, _, hs.ld ci rfl, ?_⟩
  refine ⟨_, _, _, hs.ld ci rfl, ?_⟩
  obtain ⟨q, hq⟩ := hs.sl_some mi (by omega)
  obtain ⟨mp, ml, mc⟩ := m
  simp only at hq hl
  subst hq
  have e : (n : Int).tmod (ml : Int) = ((n % ml : Nat) : Int) := by rw [Int.tmod_eq_emod_of_nonneg (by omega)]; omega
  rw [hl] at k
  have hlt : n % ml < ml := Nat.mod_lt _ (by omega)
  refine ⟨by dsimp only; omega, _, rfl, by dsimp only; rw [e]; omega, by dsimp only; rw [e]; omega, _, ?_, k⟩
  dsimp only
  rw [e]
  try simp only [add_mk, Nat.zero_add, Int.toNat_natCast, Nat.mul_one]
  refine hs.sld mi ?_
  rw [ints_get, List.getElem?_eq_getElem (by omega)]
  simp [List.getD, List.getElem?_eq_getElem (show n % ml < mask.length by omega)]
theorem fuse_b {Q : Int -> H -> Prop} {a b c m : Sl} (hs : Sat h0 A h) (ci : At A i (blk p (C.cells a b c m))) (hl : C.s.blown.length = c.2.1) (j : Int) (k : Q (askedM C j C.s.blown.length) h) : F_portcullisref04_Chip_fuse ⟨p, 0, none⟩ j Q h := by
 unfold F_portcullisref04_Chip_fuse G_portcullisref04_Chip_fuse
 try simp only [add_mk, Nat.zero_add]
 refine ⟨_, hs.ld ci rfl, ?_⟩
 unfold askedM at k
 rw [hl] at k
 simp only [ltI_eq, leI_eq, decide_eq_true_eq]
 split
 ·simpa [*] using k
 ·rename_i h1
  rw [if_neg h1] at k
  split
  ·rename_i h2; rw [if_pos h2] at k; exact k
  ·rename_i h2; rw [if_neg h2] at k
   refine ⟨_, _, _, hs.ld ci rfl, ?_⟩
   split
   ·rename_i h3; rw [if_pos h3] at k; exact k
   ·rename_i h3; rw [if_neg h3] at k; exact k
theorem at_b {Q : Int -> H -> Prop} {a b c m : Sl} (hs : Sat h0 A h) (ci : At A i (blk p (C.cells a b c m))) (hl : C.s.pages.length = a.2.1) (page cell : Int) (k : Q (asksCellM C page cell) h) : F_portcullisref04_Chip_at ⟨p, 0, none⟩ page cell Q h := by
 unfold F_portcullisref04_Chip_at G_portcullisref04_Chip_at
 try simp only [add_mk, Nat.zero_add]
 refine ⟨_, hs.ld ci rfl, ?_⟩
 unfold asksCellM askedM at k
 rw [hl] at k
 simp only [ltI_eq, leI_eq, decide_eq_true_eq]
 split
 ·rename_i h1; simp only [if_pos h1] at k; simpa using k
 ·rename_i h1
  simp only [if_neg h1] at k
  split
  ·rename_i h2; simp only [if_pos h2] at k; simpa using k
  ·rename_i h2; simp only [if_neg h2] at k
   refine ⟨_, _, _, hs.ld ci rfl, ?_⟩
   split
   ·rename_i h3; simp only [if_pos h3] at k; simpa using k
   ·rename_i h3; simp only [if_neg h3] at k
    simp only [ne_eq, not_true, if_false] at k
    split
    ·rename_i h4; simp only [if_pos h4] at k; exact k
    ·rename_i h4; simp only [if_neg h4] at k
     refine ⟨_, hs.ld ci rfl, ?_⟩
     split
     ·rename_i h5; simp only [if_pos h5] at k; exact k
     ·rename_i h5; simp only [if_neg h5] at k; exact k
end
end Go.Proofs.YteedolonhdbieaaGreatDoor
end
