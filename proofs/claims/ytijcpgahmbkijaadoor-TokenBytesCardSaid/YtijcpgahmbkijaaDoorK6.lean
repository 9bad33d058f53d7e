/- TokenBytes: what is proved and its parts, laid together by a program of ours: F F Hp Hs Lp Sl -/
import Derived.Test.YtijcpgahmbkijaaDoorK5
set_option autoImplicit false
set_option linter.all false
/- Denotations of functions of the program, printed by a program of ours, and that they are the model's. -/
section
set_option linter.unusedVariables false
set_option maxRecDepth 100000
namespace Go.Proofs.YtijcpgahmbkijaaDoor
open Go Go.Vc
def G_portcullisref24_Put (c_portcullisref24_Token_May : Int → Option Addr → Nat → Nat → Option Addr → Nat → Nat → List Int → (Bool → H → Prop) → H → Prop) (c_portcullisref24_Caveat_Bytes : Int → Int → Int → Int → Int → (Option Addr → Nat → Nat → H → Prop) → H → Prop) (a0_0 : Int) (a0_1p : Option Addr) (a0_1l : Nat) (a0_1c : Nat) (a0_2p : Option Addr) (a0_2l : Nat) (a0_2c : Nat) (a0_3 : List Int) (Q : Option Addr → Nat → Nat → Int → H → Prop) (h : H) : Prop := ∀ (n12 : Nat) (h13 : H), hnew h n12 (Value.int IntKind.i64 a0_0 :: Value.slice a0_1p a0_1l a0_1c :: Value.slice a0_2p a0_2l a0_2c :: (ints IntKind.u8 a0_3 ++ [])) h13 → ∃ (i15 : Int), hc h13 (Addr.mk n12 0 none) = some (Value.int IntKind.i64 i15) ∧ ∃ (o16 : Option Addr), ∃ (n17 : Nat), ∃ (n18 : Nat), hc h13 ((Addr.mk n12 0 none).add 1) = some (Value.slice o16 n17 n18) ∧ ∃ (o19 : Option Addr), ∃ (n20 : Nat), ∃ (n21 : Nat), hc h13 ((Addr.mk n12 0 none).add 2) = some (Value.slice o19 n20 n21) ∧ ∃ (l22 : List Int), l22.length = 32 ∧ hrow h13 ((Addr.mk n12 0 none).add 3) IntKind.u8 l22 ∧ c_portcullisref24_Token_May i15 o16 n17 n18 o19 n20 n21 l22 (fun (b23 : Bool) (h24 : H) => if (!b23) = true then Q none 0 0 5 h24 else ∃ (i25 : Int), hc h24 (Addr.mk n12 0 none) = some (Value.int IntKind.i64 i25) ∧ ∃ (o26 : Option Addr), ∃ (n27 : Nat), ∃ (n28 : Nat), hc h24 ((Addr.mk n12 0 none).add 1) = some (Value.slice o26 n27 n28) ∧ ∃ (o29 : Option Addr), ∃ (n30 : Nat), ∃ (n31 : Nat), hc h24 ((Addr.mk n12 0 none).add 2) = some (Value.slice o29 n30 n31) ∧ ∀ (n32 : Nat) (h33 : H), hnew h24 n32 [Value.int IntKind.u8 80, Value.int IntKind.u8 67, Value.int IntKind.u8 84, Value.int IntKind.u8 75, Value.int IntKind.u8 1, Value.int IntKind.u8 (IntKind.u8.wrap i25), Value.int IntKind.u8 (IntKind.u8.wrap (↑n27 : Int)), Value.int IntKind.u8 (IntKind.u8.wrap (↑n30 : Int))] h33 → ∃ (o35 : Option Addr), ∃ (n36 : Nat), ∃ (n37 : Nat), hc h33 ((Addr.mk n12 0 none).add 1) = some (Value.slice o35 n36 n37) ∧ ∃ (l38 : List Value), hsv h33 o35 1 n36 l38 ∧ pApp h33 1 [Value.int IntKind.u8 0] 1 (some (Addr.mk n32 0 none)) 8 8 n36 l38 fun (o39 : Option Addr) (n40 n41 : Nat) (h42 : H) => ∀ (J43 : List SV → H → Prop), (∀ (o44 : Option Addr) (n45 n46 : Nat) (i47 : Int) (h48 : H), (∃ (o49 : Option Addr), ∃ (n50 : Nat), ∃ (n51 : Nat), hc h48 ((Addr.mk n12 0 none).add 2) = some (Value.slice o49 n50 n51) ∧ if ltI i47 (↑n50 : Int) = true then ∃ (o52 : Option Addr), ∃ (n53 : Nat), ∃ (n54 : Nat), hc h48 ((Addr.mk n12 0 none).add 2) = some (Value.slice o52 n53 n54) ∧ ∃ (p55 : Addr), o52 = some p55 ∧ 0 ≤ i47 ∧ i47 < (↑n53 : Int) ∧ ∃ (i56 : Int), hc h48 (p55.add (i47.toNat * 5)) = some (Value.int IntKind.i64 i56) ∧ ∃ (i57 : Int), hc h48 ((p55.add (i47.toNat * 5)).add 1) = some (Value.int IntKind.i64 i57) ∧ ∃ (i58 : Int), hc h48 ((p55.add (i47.toNat * 5)).add 2) = some (Value.int IntKind.i64 i58) ∧ ∃ (i59 : Int), hc h48 ((p55.add (i47.toNat * 5)).add 3) = some (Value.int IntKind.i64 i59) ∧ ∃ (i60 : Int), hc h48 ((p55.add (i47.toNat * 5)).add 4) = some (Value.int IntKind.u64 i60) ∧ c_portcullisref24_Caveat_Bytes i56 i57 i58 i59 i60 (fun (o61 : Option Addr) (n62 n63 : Nat) (h64 : H) => ∃ (l65 : List Value), hsv h64 o61 1 n62 l65 ∧ pApp h64 1 [Value.int IntKind.u8 0] 1 o44 n45 n46 n62 l65 fun (o66 : Option Addr) (n67 n68 : Nat) (h69 : H) => J43 [SV.dv (DV.one (Value.slice o66 n67 n68)), SV.dv (DV.one (Value.int IntKind.i64 (IntKind.i64.wrap (i47 + 1))))] h69) h48 else ∀ (J70 : List SV → H → Prop), (∀ (o71 : Option Addr) (n72 n73 : Nat) (i74 : Int) (h75 : H), (if ltI i74 32 = true then 0 ≤ i74 ∧ i74 < (↑32 : Int) ∧ ∃ (i76 : Int), hc h75 (((Addr.mk n12 0 none).add 3).add (i74.toNat * 1)) = some (Value.int IntKind.u8 i76) ∧ ∀ (n77 : Nat) (h78 : H), hnew h75 n77 [Value.int IntKind.u8 i76] h78 → ∃ (l80 : List Value), hsv h78 (some (Addr.mk n77 0 none)) 1 1 l80 ∧ pApp h78 1 [Value.int IntKind.u8 0] 1 o71 n72 n73 1 l80 fun (o81 : Option Addr) (n82 n83 : Nat) (h84 : H) => J70 [SV.dv (DV.one (Value.slice o81 n82 n83)), SV.dv (DV.one (Value.int IntKind.i64 (IntKind.i64.wrap (i74 + 1))))] h84 else Q o71 n72 n73 0 h75) → J70 [SV.dv (DV.one (Value.slice o71 n72 n73)), SV.dv (DV.one (Value.int IntKind.i64 i74))] h75) → J70 [SV.dv (DV.one (Value.slice o44 n45 n46)), SV.dv (DV.one (Value.int IntKind.i64 0))] h48) → J43 [SV.dv (DV.one (Value.slice o44 n45 n46)), SV.dv (DV.one (Value.int IntKind.i64 i47))] h48) → J43 [SV.dv (DV.one (Value.slice o39 n40 n41)), SV.dv (DV.one (Value.int IntKind.i64 0))] h42) h13
theorem E_portcullisref24_Put (c_portcullisref24_Token_May : Int → (Option Addr) → Nat → Nat → (Option Addr) → Nat → Nat → (List Int) → (Bool → H → Prop) → H → Prop) (c_portcullisref24_Caveat_Bytes : Int → Int → Int → Int → Int → ((Option Addr) → Nat → Nat → H → Prop) → H → Prop) : ∀ (a0_0 : Int) (a0_1p : Option Addr) (a0_1l : Nat) (a0_1c : Nat) (a0_2p : Option Addr) (a0_2l : Nat) (a0_2c : Nat) (a0_3 : List Int) (Q : (Option Addr) → Nat → Nat → Int → H → Prop) (h : H), G_portcullisref24_Put c_portcullisref24_Token_May c_portcullisref24_Caveat_Bytes a0_0 a0_1p a0_1l a0_1c a0_2p a0_2l a0_2c a0_3 Q h = Dbody PP [(22, W [.ag [.int .i64, .slc, .slc, .row .u8 32]] [.bool] c_portcullisref24_Token_May), (23, W [.ag [.int .i64, .int .i64, .int .i64, .int .i64, .int .u64]] [.slc] c_portcullisref24_Caveat_Bytes)] [(250, [(4, .sc (.slc)), (5, .sc (.int .i64))]), (506, [(4, .sc (.slc)), (6, .sc (.int .i64))])] Tryd.f10 [.agg [.c (.int .i64 a0_0), .c (.slice a0_1p a0_1l a0_1c), .c (.slice a0_2p a0_2l a0_2c), .row .u8 32 a0_3]] (decR [.slc, .int .i64] Q) h := by intros; kernel_rfl
def F_portcullisref24_Put := G_portcullisref24_Put F_portcullisref24_Token_May F_portcullisref24_Caveat_Bytes
theorem R_portcullisref24_Put : RunOk PP 10 (W [.ag [.int .i64, .slc, .slc, .row .u8 32]] [.slc, .int .i64] F_portcullisref24_Put) := runOk_of (T := [(22, W [.ag [.int .i64, .slc, .slc, .row .u8 32]] [.bool] F_portcullisref24_Token_May), (23, W [.ag [.int .i64, .int .i64, .int .i64, .int .i64, .int .u64]] [.slc] F_portcullisref24_Caveat_Bytes)]) (ann := [(250, [(4, .sc (.slc)), (5, .sc (.int .i64))]), (506, [(4, .sc (.slc)), (6, .sc (.int .i64))])]) (TblOk.cons R_portcullisref24_Token_May (TblOk.cons R_portcullisref24_Caveat_Bytes (TblOk.nil))) Tryd.func10 (by kernel_rfl) (by kernel_rfl) (E_portcullisref24_Put F_portcullisref24_Token_May F_portcullisref24_Caveat_Bytes)
attribute [irreducible] F_portcullisref24_Put
def G_portcullisref24_head (a0 : Int) (a1 : Int) (Q : Bool → H → Prop) (h : H) : Prop := if (a0 == 4) = true then Q (a1 == 1) h else if (a0 == 5) = true then Q (leI a1 63) h else if (a0 == 6) = true then if leI 1 a1 = true then Q (leI a1 64) h else Q false h else if (a0 == 7) = true then Q (leI a1 32) h else 0 ≤ a0 ∧ a0 < (↑4 : Int) ∧ Q (a1 == (↑((ByteArray.mk #[80, 67, 84, 75]).data.toList.getD a0.toNat 0).toNat : Int)) h
theorem E_portcullisref24_head  : ∀ (a0 : Int) (a1 : Int) (Q : Bool → H → Prop) (h : H), G_portcullisref24_head a0 a1 Q h = Dbody PP [] [] Tryd.f28 [.one (.int .i64 a0), .one (.int .u8 a1)] (decR [.bool] Q) h := by intros; kernel_rfl
def F_portcullisref24_head := G_portcullisref24_head
theorem R_portcullisref24_head : RunOk PP 28 (W [.int .i64, .int .u8] [.bool] F_portcullisref24_head) := runOk_of (T := []) (ann := []) (TblOk.nil) Tryd.func28 (by kernel_rfl) (by kernel_rfl) (E_portcullisref24_head)
attribute [irreducible] F_portcullisref24_head
def G_portcullisref24_number (a0p : Option Addr) (a0l : Nat) (a0c : Nat) (Q : Int → H → Prop) (h : H) : Prop := ∀ (J5 : List SV → H → Prop), (∀ (i6 i7 : Int) (h8 : H), (if ltI i7 8 = true then ∃ (p9 : Addr), a0p = some p9 ∧ 0 ≤ i7 ∧ i7 < (↑a0l : Int) ∧ ∃ (i10 : Int), hc h8 (p9.add (i7.toNat * 1)) = some (Value.int IntKind.u8 i10) ∧ 0 ≤ IntKind.i64.wrap (8 * i7) ∧ J5 [SV.dv (DV.one (Value.int IntKind.u64 (bits BinOp.or IntKind.u64 i6 (IntKind.u64.wrap (IntKind.u64.wrap i10 * 2 ^ min (IntKind.i64.wrap (8 * i7)).toNat 64))))), SV.dv (DV.one (Value.int IntKind.i64 (IntKind.i64.wrap (i7 + 1))))] h8 else Q i6 h8) → J5 [SV.dv (DV.one (Value.int IntKind.u64 i6)), SV.dv (DV.one (Value.int IntKind.i64 i7))] h8) → J5 [SV.dv (DV.one (Value.int IntKind.u64 0)), SV.dv (DV.one (Value.int IntKind.i64 0))] h
theorem E_portcullisref24_number  : ∀ (a0p : Option Addr) (a0l : Nat) (a0c : Nat) (Q : Int → H → Prop) (h : H), G_portcullisref24_number a0p a0l a0c Q h = Dbody PP [] [(58, [(3, .sc (.int .u64)), (4, .sc (.int .i64))])] Tryd.f29 [.one (.slice a0p a0l a0c)] (decR [.int .u64] Q) h := by intros; kernel_rfl
def F_portcullisref24_number := G_portcullisref24_number
theorem R_portcullisref24_number : RunOk PP 29 (W [.slc] [.int .u64] F_portcullisref24_number) := runOk_of (T := []) (ann := [(58, [(3, .sc (.int .u64)), (4, .sc (.int .i64))])]) (TblOk.nil) Tryd.func29 (by kernel_rfl) (by kernel_rfl) (E_portcullisref24_number)
attribute [irreducible] F_portcullisref24_number
def G_portcullisref24_Get (c_portcullisref24_head : Int → Int → (Bool → H → Prop) → H → Prop) (c_portcullisref24_number : Option Addr → Nat → Nat → (Int → H → Prop) → H → Prop) (c_portcullisref24_Caveat_May : Int → Int → Int → Int → Int → (Bool → H → Prop) → H → Prop) (a0p : Option Addr) (a0l : Nat) (a0c : Nat) (Q : Int → Option Addr → Nat → Nat → Option Addr → Nat → Nat → List Int → Int → Int → H → Prop) (h : H) : Prop := ∀ (n8 : Nat) (h9 : H), hnew h n8 (Value.int IntKind.i64 0 :: Value.slice none 0 0 :: Value.slice none 0 0 :: ints IntKind.u8 (zeros 32)) h9 → ∀ (n11 : Nat) (h12 : H), hnew h9 n11 [Value.int IntKind.i64 0, Value.int IntKind.i64 0] h12 → ∀ (J14 : List SV → H → Prop), (∀ (i15 : Int) (h16 : H), (if ltI i15 8 = true then if (i15 == (↑a0l : Int)) = true then hcan h16 (Addr.mk n8 0 none) 35 ∧ ∀ (h17 : H), h17 = hwr h16 (Addr.mk n8 0 none) (Value.int IntKind.i64 0 :: Value.slice none 0 0 :: Value.slice none 0 0 :: ints IntKind.u8 (zeros 32)) → hcan h17 (Addr.mk n11 0 none) 2 ∧ ∀ (h19 : H), h19 = hwr h17 (Addr.mk n11 0 none) [Value.int IntKind.i64 6, Value.int IntKind.i64 i15] → ∃ (i21 : Int), hc h19 (Addr.mk n8 0 none) = some (Value.int IntKind.i64 i21) ∧ ∃ (o22 : Option Addr), ∃ (n23 : Nat), ∃ (n24 : Nat), hc h19 ((Addr.mk n8 0 none).add 1) = some (Value.slice o22 n23 n24) ∧ ∃ (o25 : Option Addr), ∃ (n26 : Nat), ∃ (n27 : Nat), hc h19 ((Addr.mk n8 0 none).add 2) = some (Value.slice o25 n26 n27) ∧ ∃ (l28 : List Int), l28.length = 32 ∧ hrow h19 ((Addr.mk n8 0 none).add 3) IntKind.u8 l28 ∧ ∃ (i29 : Int), hc h19 (Addr.mk n11 0 none) = some (Value.int IntKind.i64 i29) ∧ ∃ (i30 : Int), hc h19 ((Addr.mk n11 0 none).add 1) = some (Value.int IntKind.i64 i30) ∧ Q i21 o22 n23 n24 o25 n26 n27 l28 i29 i30 h19 else ∃ (p31 : Addr), a0p = some p31 ∧ 0 ≤ i15 ∧ i15 < (↑a0l : Int) ∧ ∃ (i32 : Int), hc h16 (p31.add (i15.toNat * 1)) = some (Value.int IntKind.u8 i32) ∧ c_portcullisref24_head i15 i32 (fun (b33 : Bool) (h34 : H) => if (!b33) = true then hcan h34 (Addr.mk n8 0 none) 35 ∧ ∀ (h35 : H), h35 = hwr h34 (Addr.mk n8 0 none) (Value.int IntKind.i64 0 :: Value.slice none 0 0 :: Value.slice none 0 0 :: ints IntKind.u8 (zeros 32)) → hcan h35 (Addr.mk n11 0 none) 2 ∧ ∀ (h37 : H), h37 = hwr h35 (Addr.mk n11 0 none) [Value.int IntKind.i64 5, Value.int IntKind.i64 i15] → ∃ (i39 : Int), hc h37 (Addr.mk n8 0 none) = some (Value.int IntKind.i64 i39) ∧ ∃ (o40 : Option Addr), ∃ (n41 : Nat), ∃ (n42 : Nat), hc h37 ((Addr.mk n8 0 none).add 1) = some (Value.slice o40 n41 n42) ∧ ∃ (o43 : Option Addr), ∃ (n44 : Nat), ∃ (n45 : Nat), hc h37 ((Addr.mk n8 0 none).add 2) = some (Value.slice o43 n44 n45) ∧ ∃ (l46 : List Int), l46.length = 32 ∧ hrow h37 ((Addr.mk n8 0 none).add 3) IntKind.u8 l46 ∧ ∃ (i47 : Int), hc h37 (Addr.mk n11 0 none) = some (Value.int IntKind.i64 i47) ∧ ∃ (i48 : Int), hc h37 ((Addr.mk n11 0 none).add 1) = some (Value.int IntKind.i64 i48) ∧ Q i39 o40 n41 n42 o43 n44 n45 l46 i47 i48 h37 else J14 [SV.dv (DV.one (Value.int IntKind.i64 (IntKind.i64.wrap (i15 + 1))))] h34) h16 else ∃ (p49 : Addr), a0p = some p49 ∧ (0 : Int) ≤ 5 ∧ 5 < (↑a0l : Int) ∧ ∃ (i50 : Int), hc h16 (p49.add 5) = some (Value.int IntKind.u8 i50) ∧ ∀ (n51 : Nat) (h52 : H), hnew h16 n51 (Value.int IntKind.i64 0 :: Value.slice none 0 0 :: Value.slice none 0 0 :: ints IntKind.u8 (zeros 32)) h52 → hcan h52 (Addr.mk n51 0 none) 35 ∧ ∀ (h54 : H), h54 = hwr h52 (Addr.mk n51 0 none) (Value.int IntKind.i64 (IntKind.i64.wrap i50) :: Value.slice none 0 0 :: Value.slice none 0 0 :: ints IntKind.u8 (zeros 32)) → ∃ (p56 : Addr), a0p = some p56 ∧ (0 : Int) ≤ 6 ∧ 6 < (↑a0l : Int) ∧ ∃ (i57 : Int), hc h54 (p56.add 6) = some (Value.int IntKind.u8 i57) ∧ if ltI (↑a0l : Int) (IntKind.i64.wrap (8 + IntKind.i64.wrap i57)) = true then hcan h54 (Addr.mk n8 0 none) 35 ∧ ∀ (h58 : H), h58 = hwr h54 (Addr.mk n8 0 none) (Value.int IntKind.i64 0 :: Value.slice none 0 0 :: Value.slice none 0 0 :: ints IntKind.u8 (zeros 32)) → hcan h58 (Addr.mk n11 0 none) 2 ∧ ∀ (h60 : H), h60 = hwr h58 (Addr.mk n11 0 none) [Value.int IntKind.i64 6, Value.int IntKind.i64 (↑a0l : Int)] → ∃ (i62 : Int), hc h60 (Addr.mk n8 0 none) = some (Value.int IntKind.i64 i62) ∧ ∃ (o63 : Option Addr), ∃ (n64 : Nat), ∃ (n65 : Nat), hc h60 ((Addr.mk n8 0 none).add 1) = some (Value.slice o63 n64 n65) ∧ ∃ (o66 : Option Addr), ∃ (n67 : Nat), ∃ (n68 : Nat), hc h60 ((Addr.mk n8 0 none).add 2) = some (Value.slice o66 n67 n68) ∧ ∃ (l69 : List Int), l69.length = 32 ∧ hrow h60 ((Addr.mk n8 0 none).add 3) IntKind.u8 l69 ∧ ∃ (i70 : Int), hc h60 (Addr.mk n11 0 none) = some (Value.int IntKind.i64 i70) ∧ ∃ (i71 : Int), hc h60 ((Addr.mk n11 0 none).add 1) = some (Value.int IntKind.i64 i71) ∧ Q i62 o63 n64 n65 o66 n67 n68 l69 i70 i71 h60 else ∀ (n72 : Nat) (h73 : H), hnew h54 n72 [] h73 → (0 : Int) ≤ 8 ∧ 8 ≤ IntKind.i64.wrap (8 + IntKind.i64.wrap i57) ∧ IntKind.i64.wrap (8 + IntKind.i64.wrap i57) ≤ (↑a0c : Int) ∧ ∃ (l75 : List Value), hsv h73 (subAddr a0p 8 a0c 1) 1 ((IntKind.i64.wrap (8 + IntKind.i64.wrap i57)).toNat - 8) l75 ∧ pApp h73 1 [Value.int IntKind.u8 0] 1 (some (Addr.mk n72 0 none)) 0 0 ((IntKind.i64.wrap (8 + IntKind.i64.wrap i57)).toNat - 8) l75 fun (o76 : Option Addr) (n77 n78 : Nat) (h79 : H) => hcan h79 ((Addr.mk n51 0 none).add 1) 1 ∧ ∀ (h80 : H), h80 = hwr h79 ((Addr.mk n51 0 none).add 1) [Value.slice o76 n77 n78] → ∀ (J82 : List SV → H → Prop), (∀ (i83 i84 : Int) (h85 : H), (∃ (p86 : Addr), a0p = some p86 ∧ (0 : Int) ≤ 7 ∧ 7 < (↑a0l : Int) ∧ ∃ (i87 : Int), hc h85 (p86.add 7) = some (Value.int IntKind.u8 i87) ∧ if ltI i84 (IntKind.i64.wrap i87) = true then if ltI (↑a0l : Int) (IntKind.i64.wrap (i83 + 26)) = true then hcan h85 (Addr.mk n8 0 none) 35 ∧ ∀ (h88 : H), h88 = hwr h85 (Addr.mk n8 0 none) (Value.int IntKind.i64 0 :: Value.slice none 0 0 :: Value.slice none 0 0 :: ints IntKind.u8 (zeros 32)) → hcan h88 (Addr.mk n11 0 none) 2 ∧ ∀ (h90 : H), h90 = hwr h88 (Addr.mk n11 0 none) [Value.int IntKind.i64 6, Value.int IntKind.i64 (↑a0l : Int)] → ∃ (i92 : Int), hc h90 (Addr.mk n8 0 none) = some (Value.int IntKind.i64 i92) ∧ ∃ (o93 : Option Addr), ∃ (n94 : Nat), ∃ (n95 : Nat), hc h90 ((Addr.mk n8 0 none).add 1) = some (Value.slice o93 n94 n95) ∧ ∃ (o96 : Option Addr), ∃ (n97 : Nat), ∃ (n98 : Nat), hc h90 ((Addr.mk n8 0 none).add 2) = some (Value.slice o96 n97 n98) ∧ ∃ (l99 : List Int), l99.length = 32 ∧ hrow h90 ((Addr.mk n8 0 none).add 3) IntKind.u8 l99 ∧ ∃ (i100 : Int), hc h90 (Addr.mk n11 0 none) = some (Value.int IntKind.i64 i100) ∧ ∃ (i101 : Int), hc h90 ((Addr.mk n11 0 none).add 1) = some (Value.int IntKind.i64 i101) ∧ Q i92 o93 n94 n95 o96 n97 n98 l99 i100 i101 h90 else ∀ (J102 : List SV → H → Prop), (∀ (p103 : Addr) (h104 : H), (∃ (i105 : Int), hc h104 p103 = some (Value.int IntKind.i64 i105) ∧ ∃ (i106 : Int), hc h104 (p103.add 1) = some (Value.int IntKind.i64 i106) ∧ ∃ (i107 : Int), hc h104 (p103.add 2) = some (Value.int IntKind.i64 i107) ∧ ∃ (i108 : Int), hc h104 (p103.add 3) = some (Value.int IntKind.i64 i108) ∧ ∃ (i109 : Int), hc h104 (p103.add 4) = some (Value.int IntKind.u64 i109) ∧ c_portcullisref24_Caveat_May i105 i106 i107 i108 i109 (fun (b110 : Bool) (h111 : H) => if (!b110) = true then hcan h111 (Addr.mk n8 0 none) 35 ∧ ∀ (h112 : H), h112 = hwr h111 (Addr.mk n8 0 none) (Value.int IntKind.i64 0 :: Value.slice none 0 0 :: Value.slice none 0 0 :: ints IntKind.u8 (zeros 32)) → hcan h112 (Addr.mk n11 0 none) 2 ∧ ∀ (h114 : H), h114 = hwr h112 (Addr.mk n11 0 none) [Value.int IntKind.i64 5, Value.int IntKind.i64 i83] → ∃ (i116 : Int), hc h114 (Addr.mk n8 0 none) = some (Value.int IntKind.i64 i116) ∧ ∃ (o117 : Option Addr), ∃ (n118 : Nat), ∃ (n119 : Nat), hc h114 ((Addr.mk n8 0 none).add 1) = some (Value.slice o117 n118 n119) ∧ ∃ (o120 : Option Addr), ∃ (n121 : Nat), ∃ (n122 : Nat), hc h114 ((Addr.mk n8 0 none).add 2) = some (Value.slice o120 n121 n122) ∧ ∃ (l123 : List Int), l123.length = 32 ∧ hrow h114 ((Addr.mk n8 0 none).add 3) IntKind.u8 l123 ∧ ∃ (i124 : Int), hc h114 (Addr.mk n11 0 none) = some (Value.int IntKind.i64 i124) ∧ ∃ (i125 : Int), hc h114 ((Addr.mk n11 0 none).add 1) = some (Value.int IntKind.i64 i125) ∧ Q i116 o117 n118 n119 o120 n121 n122 l123 i124 i125 h114 else ∃ (o126 : Option Addr), ∃ (n127 : Nat), ∃ (n128 : Nat), hc h111 ((Addr.mk n51 0 none).add 2) = some (Value.slice o126 n127 n128) ∧ ∃ (i129 : Int), hc h111 p103 = some (Value.int IntKind.i64 i129) ∧ ∃ (i130 : Int), hc h111 (p103.add 1) = some (Value.int IntKind.i64 i130) ∧ ∃ (i131 : Int), hc h111 (p103.add 2) = some (Value.int IntKind.i64 i131) ∧ ∃ (i132 : Int), hc h111 (p103.add 3) = some (Value.int IntKind.i64 i132) ∧ ∃ (i133 : Int), hc h111 (p103.add 4) = some (Value.int IntKind.u64 i133) ∧ ∀ (n134 : Nat) (h135 : H), hnew h111 n134 [Value.int IntKind.i64 i129, Value.int IntKind.i64 i130, Value.int IntKind.i64 i131, Value.int IntKind.i64 i132, Value.int IntKind.u64 i133] h135 → ∃ (l137 : List Value), hsv h135 (some (Addr.mk n134 0 none)) 5 1 l137 ∧ pApp h135 5 [Value.int IntKind.i64 0, Value.int IntKind.i64 0, Value.int IntKind.i64 0, Value.int IntKind.i64 0, Value.int IntKind.u64 0] 40 o126 n127 n128 1 l137 fun (o138 : Option Addr) (n139 n140 : Nat) (h141 : H) => hcan h141 ((Addr.mk n51 0 none).add 2) 1 ∧ ∀ (h142 : H), h142 = hwr h141 ((Addr.mk n51 0 none).add 2) [Value.slice o138 n139 n140] → J82 [SV.dv (DV.one (Value.int IntKind.i64 (IntKind.i64.wrap (i83 + 26)))), SV.dv (DV.one (Value.int IntKind.i64 (IntKind.i64.wrap (i84 + 1))))] h142) h104) → J102 [SV.dv (DV.addr p103)] h104) → ∃ (p146 : Addr), a0p = some p146 ∧ 0 ≤ i83 ∧ i83 < (↑a0l : Int) ∧ ∃ (i147 : Int), hc h85 (p146.add (i83.toNat * 1)) = some (Value.int IntKind.u8 i147) ∧ ∃ (p148 : Addr), a0p = some p148 ∧ 0 ≤ IntKind.i64.wrap (i83 + 1) ∧ IntKind.i64.wrap (i83 + 1) < (↑a0l : Int) ∧ ∃ (i149 : Int), hc h85 (p148.add ((IntKind.i64.wrap (i83 + 1)).toNat * 1)) = some (Value.int IntKind.u8 i149) ∧ 0 ≤ IntKind.i64.wrap (i83 + 2) ∧ IntKind.i64.wrap (i83 + 2) ≤ (↑a0l : Int) ∧ 0 ≤ IntKind.i64.wrap (i83 + 10) ∧ IntKind.i64.wrap (i83 + 10) ≤ (↑a0l : Int) ∧ 0 ≤ IntKind.i64.wrap (i83 + 18) ∧ IntKind.i64.wrap (i83 + 18) ≤ (↑a0l : Int) ∧ c_portcullisref24_number (subAddr a0p (IntKind.i64.wrap (i83 + 2)).toNat a0c 1) (a0l - (IntKind.i64.wrap (i83 + 2)).toNat) (a0c - (IntKind.i64.wrap (i83 + 2)).toNat) (fun (i150 : Int) (h151 : H) => hcs h151 (p148.add ((IntKind.i64.wrap (i83 + 1)).toNat * 1)) [Value.int IntKind.u8 i149] ∧ hcs h151 (p146.add (i83.toNat * 1)) [Value.int IntKind.u8 i147] ∧ c_portcullisref24_number (subAddr a0p (IntKind.i64.wrap (i83 + 10)).toNat a0c 1) (a0l - (IntKind.i64.wrap (i83 + 10)).toNat) (a0c - (IntKind.i64.wrap (i83 + 10)).toNat) (fun (i152 : Int) (h153 : H) => hcs h153 (p148.add ((IntKind.i64.wrap (i83 + 1)).toNat * 1)) [Value.int IntKind.u8 i149] ∧ hcs h153 (p146.add (i83.toNat * 1)) [Value.int IntKind.u8 i147] ∧ c_portcullisref24_number (subAddr a0p (IntKind.i64.wrap (i83 + 18)).toNat a0c 1) (a0l - (IntKind.i64.wrap (i83 + 18)).toNat) (a0c - (IntKind.i64.wrap (i83 + 18)).toNat) (fun (i154 : Int) (h155 : H) => hcs h155 (p148.add ((IntKind.i64.wrap (i83 + 1)).toNat * 1)) [Value.int IntKind.u8 i149] ∧ hcs h155 (p146.add (i83.toNat * 1)) [Value.int IntKind.u8 i147] ∧ ∀ (n156 : Nat) (h157 : H), hnew h155 n156 [Value.int IntKind.i64 0, Value.int IntKind.i64 0, Value.int IntKind.i64 0, Value.int IntKind.i64 0, Value.int IntKind.u64 0] h157 → hcs h157 (p148.add ((IntKind.i64.wrap (i83 + 1)).toNat * 1)) [Value.int IntKind.u8 i149] ∧ hcs h157 (p146.add (i83.toNat * 1)) [Value.int IntKind.u8 i147] ∧ hcan h157 (Addr.mk n156 0 none) 5 ∧ ∀ (h159 : H), h159 = hwr h157 (Addr.mk n156 0 none) [Value.int IntKind.i64 (IntKind.i64.wrap i147), Value.int IntKind.i64 (IntKind.i64.wrap i149), Value.int IntKind.i64 (IntKind.i64.wrap i150), Value.int IntKind.i64 (IntKind.i64.wrap i152), Value.int IntKind.u64 i154] → J102 [SV.dv (DV.addr (Addr.mk n156 0 none))] h159) h153 ∧ ∀ (n161 : Nat) (h162 : H), hnew h153 n161 [Value.int IntKind.i64 0, Value.int IntKind.i64 0, Value.int IntKind.i64 0, Value.int IntKind.i64 0, Value.int IntKind.u64 0] h162 → hcs h162 (p148.add ((IntKind.i64.wrap (i83 + 1)).toNat * 1)) [Value.int IntKind.u8 i149] ∧ hcs h162 (p146.add (i83.toNat * 1)) [Value.int IntKind.u8 i147] ∧ c_portcullisref24_number (subAddr a0p (IntKind.i64.wrap (i83 + 18)).toNat a0c 1) (a0l - (IntKind.i64.wrap (i83 + 18)).toNat) (a0c - (IntKind.i64.wrap (i83 + 18)).toNat) (fun (i164 : Int) (h165 : H) => hcs h165 (p148.add ((IntKind.i64.wrap (i83 + 1)).toNat * 1)) [Value.int IntKind.u8 i149] ∧ hcs h165 (p146.add (i83.toNat * 1)) [Value.int IntKind.u8 i147] ∧ hcan h165 (Addr.mk n161 0 none) 5 ∧ ∀ (h166 : H), h166 = hwr h165 (Addr.mk n161 0 none) [Value.int IntKind.i64 (IntKind.i64.wrap i147), Value.int IntKind.i64 (IntKind.i64.wrap i149), Value.int IntKind.i64 (IntKind.i64.wrap i150), Value.int IntKind.i64 (IntKind.i64.wrap i152), Value.int IntKind.u64 i164] → J102 [SV.dv (DV.addr (Addr.mk n161 0 none))] h166) h162) h151 ∧ ∀ (n168 : Nat) (h169 : H), hnew h151 n168 [Value.int IntKind.i64 0, Value.int IntKind.i64 0, Value.int IntKind.i64 0, Value.int IntKind.i64 0, Value.int IntKind.u64 0] h169 → hcs h169 (p148.add ((IntKind.i64.wrap (i83 + 1)).toNat * 1)) [Value.int IntKind.u8 i149] ∧ hcs h169 (p146.add (i83.toNat * 1)) [Value.int IntKind.u8 i147] ∧ c_portcullisref24_number (subAddr a0p (IntKind.i64.wrap (i83 + 10)).toNat a0c 1) (a0l - (IntKind.i64.wrap (i83 + 10)).toNat) (a0c - (IntKind.i64.wrap (i83 + 10)).toNat) (fun (i171 : Int) (h172 : H) => hcs h172 (p148.add ((IntKind.i64.wrap (i83 + 1)).toNat * 1)) [Value.int IntKind.u8 i149] ∧ hcs h172 (p146.add (i83.toNat * 1)) [Value.int IntKind.u8 i147] ∧ c_portcullisref24_number (subAddr a0p (IntKind.i64.wrap (i83 + 18)).toNat a0c 1) (a0l - (IntKind.i64.wrap (i83 + 18)).toNat) (a0c - (IntKind.i64.wrap (i83 + 18)).toNat) (fun (i173 : Int) (h174 : H) => hcs h174 (p148.add ((IntKind.i64.wrap (i83 + 1)).toNat * 1)) [Value.int IntKind.u8 i149] ∧ hcs h174 (p146.add (i83.toNat * 1)) [Value.int IntKind.u8 i147] ∧ hcan h174 (Addr.mk n168 0 none) 5 ∧ ∀ (h175 : H), h175 = hwr h174 (Addr.mk n168 0 none) [Value.int IntKind.i64 (IntKind.i64.wrap i147), Value.int IntKind.i64 (IntKind.i64.wrap i149), Value.int IntKind.i64 (IntKind.i64.wrap i150), Value.int IntKind.i64 (IntKind.i64.wrap i171), Value.int IntKind.u64 i173] → J102 [SV.dv (DV.addr (Addr.mk n168 0 none))] h175) h172) h169) h85 ∧ ∀ (n177 : Nat) (h178 : H), hnew h85 n177 [Value.int IntKind.i64 0, Value.int IntKind.i64 0, Value.int IntKind.i64 0, Value.int IntKind.i64 0, Value.int IntKind.u64 0] h178 → hcs h178 (p148.add ((IntKind.i64.wrap (i83 + 1)).toNat * 1)) [Value.int IntKind.u8 i149] ∧ hcs h178 (p146.add (i83.toNat * 1)) [Value.int IntKind.u8 i147] ∧ c_portcullisref24_number (subAddr a0p (IntKind.i64.wrap (i83 + 2)).toNat a0c 1) (a0l - (IntKind.i64.wrap (i83 + 2)).toNat) (a0c - (IntKind.i64.wrap (i83 + 2)).toNat) (fun (i180 : Int) (h181 : H) => hcs h181 (p148.add ((IntKind.i64.wrap (i83 + 1)).toNat * 1)) [Value.int IntKind.u8 i149] ∧ hcs h181 (p146.add (i83.toNat * 1)) [Value.int IntKind.u8 i147] ∧ c_portcullisref24_number (subAddr a0p (IntKind.i64.wrap (i83 + 10)).toNat a0c 1) (a0l - (IntKind.i64.wrap (i83 + 10)).toNat) (a0c - (IntKind.i64.wrap (i83 + 10)).toNat) (fun (i182 : Int) (h183 : H) => hcs h183 (p148.add ((IntKind.i64.wrap (i83 + 1)).toNat * 1)) [Value.int IntKind.u8 i149] ∧ hcs h183 (p146.add (i83.toNat * 1)) [Value.int IntKind.u8 i147] ∧ c_portcullisref24_number (subAddr a0p (IntKind.i64.wrap (i83 + 18)).toNat a0c 1) (a0l - (IntKind.i64.wrap (i83 + 18)).toNat) (a0c - (IntKind.i64.wrap (i83 + 18)).toNat) (fun (i184 : Int) (h185 : H) => hcs h185 (p148.add ((IntKind.i64.wrap (i83 + 1)).toNat * 1)) [Value.int IntKind.u8 i149] ∧ hcs h185 (p146.add (i83.toNat * 1)) [Value.int IntKind.u8 i147] ∧ hcan h185 (Addr.mk n177 0 none) 5 ∧ ∀ (h186 : H), h186 = hwr h185 (Addr.mk n177 0 none) [Value.int IntKind.i64 (IntKind.i64.wrap i147), Value.int IntKind.i64 (IntKind.i64.wrap i149), Value.int IntKind.i64 (IntKind.i64.wrap i180), Value.int IntKind.i64 (IntKind.i64.wrap i182), Value.int IntKind.u64 i184] → J102 [SV.dv (DV.addr (Addr.mk n177 0 none))] h186) h183) h181) h178 else if ltI (↑a0l : Int) (IntKind.i64.wrap (i83 + 32)) = true then hcan h85 (Addr.mk n8 0 none) 35 ∧ ∀ (h188 : H), h188 = hwr h85 (Addr.mk n8 0 none) (Value.int IntKind.i64 0 :: Value.slice none 0 0 :: Value.slice none 0 0 :: ints IntKind.u8 (zeros 32)) → hcan h188 (Addr.mk n11 0 none) 2 ∧ ∀ (h190 : H), h190 = hwr h188 (Addr.mk n11 0 none) [Value.int IntKind.i64 6, Value.int IntKind.i64 (↑a0l : Int)] → ∃ (i192 : Int), hc h190 (Addr.mk n8 0 none) = some (Value.int IntKind.i64 i192) ∧ ∃ (o193 : Option Addr), ∃ (n194 : Nat), ∃ (n195 : Nat), hc h190 ((Addr.mk n8 0 none).add 1) = some (Value.slice o193 n194 n195) ∧ ∃ (o196 : Option Addr), ∃ (n197 : Nat), ∃ (n198 : Nat), hc h190 ((Addr.mk n8 0 none).add 2) = some (Value.slice o196 n197 n198) ∧ ∃ (l199 : List Int), l199.length = 32 ∧ hrow h190 ((Addr.mk n8 0 none).add 3) IntKind.u8 l199 ∧ ∃ (i200 : Int), hc h190 (Addr.mk n11 0 none) = some (Value.int IntKind.i64 i200) ∧ ∃ (i201 : Int), hc h190 ((Addr.mk n11 0 none).add 1) = some (Value.int IntKind.i64 i201) ∧ Q i192 o193 n194 n195 o196 n197 n198 l199 i200 i201 h190 else if ltI (IntKind.i64.wrap (i83 + 32)) (↑a0l : Int) = true then hcan h85 (Addr.mk n8 0 none) 35 ∧ ∀ (h202 : H), h202 = hwr h85 (Addr.mk n8 0 none) (Value.int IntKind.i64 0 :: Value.slice none 0 0 :: Value.slice none 0 0 :: ints IntKind.u8 (zeros 32)) → hcan h202 (Addr.mk n11 0 none) 2 ∧ ∀ (h204 : H), h204 = hwr h202 (Addr.mk n11 0 none) [Value.int IntKind.i64 7, Value.int IntKind.i64 (IntKind.i64.wrap (i83 + 32))] → ∃ (i206 : Int), hc h204 (Addr.mk n8 0 none) = some (Value.int IntKind.i64 i206) ∧ ∃ (o207 : Option Addr), ∃ (n208 : Nat), ∃ (n209 : Nat), hc h204 ((Addr.mk n8 0 none).add 1) = some (Value.slice o207 n208 n209) ∧ ∃ (o210 : Option Addr), ∃ (n211 : Nat), ∃ (n212 : Nat), hc h204 ((Addr.mk n8 0 none).add 2) = some (Value.slice o210 n211 n212) ∧ ∃ (l213 : List Int), l213.length = 32 ∧ hrow h204 ((Addr.mk n8 0 none).add 3) IntKind.u8 l213 ∧ ∃ (i214 : Int), hc h204 (Addr.mk n11 0 none) = some (Value.int IntKind.i64 i214) ∧ ∃ (i215 : Int), hc h204 ((Addr.mk n11 0 none).add 1) = some (Value.int IntKind.i64 i215) ∧ Q i206 o207 n208 n209 o210 n211 n212 l213 i214 i215 h204 else ∀ (J216 : List SV → H → Prop), (∀ (i217 : Int) (h218 : H), (if ltI i217 32 = true then ∃ (p219 : Addr), a0p = some p219 ∧ 0 ≤ IntKind.i64.wrap (i83 + i217) ∧ IntKind.i64.wrap (i83 + i217) < (↑a0l : Int) ∧ ∃ (i220 : Int), hc h218 (p219.add ((IntKind.i64.wrap (i83 + i217)).toNat * 1)) = some (Value.int IntKind.u8 i220) ∧ 0 ≤ i217 ∧ i217 < (↑32 : Int) ∧ hcan h218 (((Addr.mk n51 0 none).add 3).add (i217.toNat * 1)) 1 ∧ ∀ (h221 : H), h221 = hwr h218 (((Addr.mk n51 0 none).add 3).add (i217.toNat * 1)) [Value.int IntKind.u8 i220] → J216 [SV.dv (DV.one (Value.int IntKind.i64 (IntKind.i64.wrap (i217 + 1))))] h221 else ∃ (i223 : Int), hc h218 (Addr.mk n51 0 none) = some (Value.int IntKind.i64 i223) ∧ ∃ (o224 : Option Addr), ∃ (n225 : Nat), ∃ (n226 : Nat), hc h218 ((Addr.mk n51 0 none).add 1) = some (Value.slice o224 n225 n226) ∧ ∃ (o227 : Option Addr), ∃ (n228 : Nat), ∃ (n229 : Nat), hc h218 ((Addr.mk n51 0 none).add 2) = some (Value.slice o227 n228 n229) ∧ ∃ (l230 : List Int), l230.length = 32 ∧ hrow h218 ((Addr.mk n51 0 none).add 3) IntKind.u8 l230 ∧ hcan h218 (Addr.mk n8 0 none) 35 ∧ ∀ (h231 : H), h231 = hwr h218 (Addr.mk n8 0 none) (Value.int IntKind.i64 i223 :: Value.slice o224 n225 n226 :: Value.slice o227 n228 n229 :: (ints IntKind.u8 l230 ++ [])) → hcan h231 (Addr.mk n11 0 none) 2 ∧ ∀ (h233 : H), h233 = hwr h231 (Addr.mk n11 0 none) [Value.int IntKind.i64 0, Value.int IntKind.i64 0] → ∃ (i235 : Int), hc h233 (Addr.mk n8 0 none) = some (Value.int IntKind.i64 i235) ∧ ∃ (o236 : Option Addr), ∃ (n237 : Nat), ∃ (n238 : Nat), hc h233 ((Addr.mk n8 0 none).add 1) = some (Value.slice o236 n237 n238) ∧ ∃ (o239 : Option Addr), ∃ (n240 : Nat), ∃ (n241 : Nat), hc h233 ((Addr.mk n8 0 none).add 2) = some (Value.slice o239 n240 n241) ∧ ∃ (l242 : List Int), l242.length = 32 ∧ hrow h233 ((Addr.mk n8 0 none).add 3) IntKind.u8 l242 ∧ ∃ (i243 : Int), hc h233 (Addr.mk n11 0 none) = some (Value.int IntKind.i64 i243) ∧ ∃ (i244 : Int), hc h233 ((Addr.mk n11 0 none).add 1) = some (Value.int IntKind.i64 i244) ∧ Q i235 o236 n237 n238 o239 n240 n241 l242 i243 i244 h233) → J216 [SV.dv (DV.one (Value.int IntKind.i64 i217))] h218) → J216 [SV.dv (DV.one (Value.int IntKind.i64 0))] h85) → J82 [SV.dv (DV.one (Value.int IntKind.i64 i83)), SV.dv (DV.one (Value.int IntKind.i64 i84))] h85) → J82 [SV.dv (DV.one (Value.int IntKind.i64 (IntKind.i64.wrap (8 + IntKind.i64.wrap i57)))), SV.dv (DV.one (Value.int IntKind.i64 0))] h80) → J14 [SV.dv (DV.one (Value.int IntKind.i64 i15))] h16) → J14 [SV.dv (DV.one (Value.int IntKind.i64 0))] h12
theorem E_portcullisref24_Get (c_portcullisref24_head : Int → Int → (Bool → H → Prop) → H → Prop) (c_portcullisref24_number : (Option Addr) → Nat → Nat → (Int → H → Prop) → H → Prop) (c_portcullisref24_Caveat_May : Int → Int → Int → Int → Int → (Bool → H → Prop) → H → Prop) : ∀ (a0p : Option Addr) (a0l : Nat) (a0c : Nat) (Q : Int → (Option Addr) → Nat → Nat → (Option Addr) → Nat → Nat → (List Int) → Int → Int → H → Prop) (h : H), G_portcullisref24_Get c_portcullisref24_head c_portcullisref24_number c_portcullisref24_Caveat_May a0p a0l a0c Q h = Dbody PP [(28, W [.int .i64, .int .u8] [.bool] c_portcullisref24_head), (29, W [.slc] [.int .u64] c_portcullisref24_number), (30, W [.ag [.int .i64, .int .i64, .int .i64, .int .i64, .int .u64]] [.bool] c_portcullisref24_Caveat_May)] [(26, [(4, .sc (.int .i64))]), (2042, [(6, .sc (.int .i64)), (8, .sc (.int .i64))]), (16378, [(10, .sc (.int .i64))]), (65353, [(9, .addr)])] Tryd.f12 [.one (.slice a0p a0l a0c)] (decR [.ag [.int .i64, .slc, .slc, .row .u8 32], .ag [.int .i64, .int .i64]] Q) h := by intros; kernel_rfl
def F_portcullisref24_Get := G_portcullisref24_Get F_portcullisref24_head F_portcullisref24_number F_portcullisref24_Caveat_May
theorem R_portcullisref24_Get : RunOk PP 12 (W [.slc] [.ag [.int .i64, .slc, .slc, .row .u8 32], .ag [.int .i64, .int .i64]] F_portcullisref24_Get) := runOk_of (T := [(28, W [.int .i64, .int .u8] [.bool] F_portcullisref24_head), (29, W [.slc] [.int .u64] F_portcullisref24_number), (30, W [.ag [.int .i64, .int .i64, .int .i64, .int .i64, .int .u64]] [.bool] F_portcullisref24_Caveat_May)]) (ann := [(26, [(4, .sc (.int .i64))]), (2042, [(6, .sc (.int .i64)), (8, .sc (.int .i64))]), (16378, [(10, .sc (.int .i64))]), (65353, [(9, .addr)])]) (TblOk.cons R_portcullisref24_head (TblOk.cons R_portcullisref24_number (TblOk.cons R_portcullisref24_Caveat_May (TblOk.nil)))) Tryd.func12 (by kernel_rfl) (by kernel_rfl) (E_portcullisref24_Get F_portcullisref24_head F_portcullisref24_number F_portcullisref24_Caveat_May)
attribute [irreducible] F_portcullisref24_Get
def G_portcullisref24_Same (a0_0 : Int) (a0_1p : Option Addr) (a0_1l : Nat) (a0_1c : Nat) (a0_2p : Option Addr) (a0_2l : Nat) (a0_2c : Nat) (a0_3 : List Int) (a1_0 : Int) (a1_1p : Option Addr) (a1_1l : Nat) (a1_1c : Nat) (a1_2p : Option Addr) (a1_2l : Nat) (a1_2c : Nat) (a1_3 : List Int) (Q : Bool → H → Prop) (h : H) : Prop := ∀ (n18 : Nat) (h19 : H), hnew h n18 (Value.int IntKind.i64 a0_0 :: Value.slice a0_1p a0_1l a0_1c :: Value.slice a0_2p a0_2l a0_2c :: (ints IntKind.u8 a0_3 ++ [])) h19 → ∀ (n21 : Nat) (h22 : H), hnew h19 n21 (Value.int IntKind.i64 a1_0 :: Value.slice a1_1p a1_1l a1_1c :: Value.slice a1_2p a1_2l a1_2c :: (ints IntKind.u8 a1_3 ++ [])) h22 → ∀ (J24 : List SV → H → Prop), (∀ (h25 : H), (∀ (J26 : List SV → H → Prop), (∀ (i27 : Int) (h28 : H), (∃ (o29 : Option Addr), ∃ (n30 : Nat), ∃ (n31 : Nat), hc h28 ((Addr.mk n18 0 none).add 2) = some (Value.slice o29 n30 n31) ∧ if ltI i27 (↑n30 : Int) = true then ∃ (o32 : Option Addr), ∃ (n33 : Nat), ∃ (n34 : Nat), hc h28 ((Addr.mk n18 0 none).add 2) = some (Value.slice o32 n33 n34) ∧ ∃ (p35 : Addr), o32 = some p35 ∧ 0 ≤ i27 ∧ i27 < (↑n33 : Int) ∧ ∃ (i36 : Int), hc h28 (p35.add (i27.toNat * 5)) = some (Value.int IntKind.i64 i36) ∧ ∃ (i37 : Int), hc h28 ((p35.add (i27.toNat * 5)).add 1) = some (Value.int IntKind.i64 i37) ∧ ∃ (i38 : Int), hc h28 ((p35.add (i27.toNat * 5)).add 2) = some (Value.int IntKind.i64 i38) ∧ ∃ (i39 : Int), hc h28 ((p35.add (i27.toNat * 5)).add 3) = some (Value.int IntKind.i64 i39) ∧ ∃ (i40 : Int), hc h28 ((p35.add (i27.toNat * 5)).add 4) = some (Value.int IntKind.u64 i40) ∧ ∃ (o41 : Option Addr), ∃ (n42 : Nat), ∃ (n43 : Nat), hc h28 ((Addr.mk n21 0 none).add 2) = some (Value.slice o41 n42 n43) ∧ ∃ (p44 : Addr), o41 = some p44 ∧ 0 ≤ i27 ∧ i27 < (↑n42 : Int) ∧ ∃ (i45 : Int), hc h28 (p44.add (i27.toNat * 5)) = some (Value.int IntKind.i64 i45) ∧ ∃ (i46 : Int), hc h28 ((p44.add (i27.toNat * 5)).add 1) = some (Value.int IntKind.i64 i46) ∧ ∃ (i47 : Int), hc h28 ((p44.add (i27.toNat * 5)).add 2) = some (Value.int IntKind.i64 i47) ∧ ∃ (i48 : Int), hc h28 ((p44.add (i27.toNat * 5)).add 3) = some (Value.int IntKind.i64 i48) ∧ ∃ (i49 : Int), hc h28 ((p44.add (i27.toNat * 5)).add 4) = some (Value.int IntKind.u64 i49) ∧ if (!(i36 == i45 && (i37 == i46 && (i38 == i47 && (i39 == i48 && (i40 == i49 && true)))))) = true then Q false h28 else J26 [SV.dv (DV.one (Value.int IntKind.i64 (IntKind.i64.wrap (i27 + 1))))] h28 else Q true h28) → J26 [SV.dv (DV.one (Value.int IntKind.i64 i27))] h28) → J26 [SV.dv (DV.one (Value.int IntKind.i64 0))] h25) → J24 [] h25) → ∃ (i54 : Int), hc h22 (Addr.mk n18 0 none) = some (Value.int IntKind.i64 i54) ∧ ∃ (i55 : Int), hc h22 (Addr.mk n21 0 none) = some (Value.int IntKind.i64 i55) ∧ if (i54 != i55) = true then Q false h22 else ∃ (o56 : Option Addr), ∃ (n57 : Nat), ∃ (n58 : Nat), hc h22 ((Addr.mk n18 0 none).add 1) = some (Value.slice o56 n57 n58) ∧ ∃ (l59 : List Int), hsv h22 o56 1 n57 (ints IntKind.u8 l59) ∧ ∃ (o60 : Option Addr), ∃ (n61 : Nat), ∃ (n62 : Nat), hc h22 ((Addr.mk n21 0 none).add 1) = some (Value.slice o60 n61 n62) ∧ ∃ (l63 : List Int), hsv h22 o60 1 n61 (ints IntKind.u8 l63) ∧ if (!(bytesOf l59).toList == (bytesOf l63).toList) = true then Q false h22 else ∃ (l64 : List Int), l64.length = 32 ∧ hrow h22 ((Addr.mk n18 0 none).add 3) IntKind.u8 l64 ∧ ∃ (l65 : List Int), l65.length = 32 ∧ hrow h22 ((Addr.mk n21 0 none).add 3) IntKind.u8 l65 ∧ if (!l64 == l65) = true then Q false h22 else ∃ (o66 : Option Addr), ∃ (n67 : Nat), ∃ (n68 : Nat), hc h22 ((Addr.mk n18 0 none).add 2) = some (Value.slice o66 n67 n68) ∧ ∃ (o69 : Option Addr), ∃ (n70 : Nat), ∃ (n71 : Nat), hc h22 ((Addr.mk n21 0 none).add 2) = some (Value.slice o69 n70 n71) ∧ if ((↑n67 : Int) != (↑n70 : Int)) = true then Q false h22 else J24 [] h22
theorem E_portcullisref24_Same  : ∀ (a0_0 : Int) (a0_1p : Option Addr) (a0_1l : Nat) (a0_1c : Nat) (a0_2p : Option Addr) (a0_2l : Nat) (a0_2c : Nat) (a0_3 : List Int) (a1_0 : Int) (a1_1p : Option Addr) (a1_1l : Nat) (a1_1c : Nat) (a1_2p : Option Addr) (a1_2l : Nat) (a1_2c : Nat) (a1_3 : List Int) (Q : Bool → H → Prop) (h : H), G_portcullisref24_Same a0_0 a0_1p a0_1l a0_1c a0_2p a0_2l a0_2c a0_3 a1_0 a1_1p a1_1l a1_1c a1_2p a1_2l a1_2c a1_3 Q h = Dbody PP [] [(3, []), (58, [(5, .sc (.int .i64))])] Tryd.f14 [.agg [.c (.int .i64 a0_0), .c (.slice a0_1p a0_1l a0_1c), .c (.slice a0_2p a0_2l a0_2c), .row .u8 32 a0_3], .agg [.c (.int .i64 a1_0), .c (.slice a1_1p a1_1l a1_1c), .c (.slice a1_2p a1_2l a1_2c), .row .u8 32 a1_3]] (decR [.bool] Q) h := by intros; kernel_rfl
def F_portcullisref24_Same := G_portcullisref24_Same
theorem R_portcullisref24_Same : RunOk PP 14 (W [.ag [.int .i64, .slc, .slc, .row .u8 32], .ag [.int .i64, .slc, .slc, .row .u8 32]] [.bool] F_portcullisref24_Same) := runOk_of (T := []) (ann := [(3, []), (58, [(5, .sc (.int .i64))])]) (TblOk.nil) Tryd.func14 (by kernel_rfl) (by kernel_rfl) (E_portcullisref24_Same)
attribute [irreducible] F_portcullisref24_Same
def G_portcullislaw24_back (a0_0 : Int) (a0_1p : Option Addr) (a0_1l : Nat) (a0_1c : Nat) (a0_2p : Option Addr) (a0_2l : Nat) (a0_2c : Nat) (a0_3 : List Int) (Q : Int → Option Addr → Nat → Nat → Option Addr → Nat → Nat → List Int → H → Prop) (h : H) : Prop := ∀ (n10 : Nat) (h11 : H), hnew h n10 (Value.int IntKind.i64 a0_0 :: Value.slice a0_1p a0_1l a0_1c :: Value.slice a0_2p a0_2l a0_2c :: (ints IntKind.u8 a0_3 ++ [])) h11 → ∀ (n13 : Nat) (h14 : H), hnew h11 n13 (Value.int IntKind.i64 0 :: Value.slice none 0 0 :: Value.slice none 0 0 :: ints IntKind.u8 (zeros 32)) h14 → ∃ (i16 : Int), hc h14 (Addr.mk n10 0 none) = some (Value.int IntKind.i64 i16) ∧ ∃ (o17 : Option Addr), ∃ (n18 : Nat), ∃ (n19 : Nat), hc h14 ((Addr.mk n10 0 none).add 1) = some (Value.slice o17 n18 n19) ∧ ∃ (l20 : List Int), l20.length = 32 ∧ hrow h14 ((Addr.mk n10 0 none).add 3) IntKind.u8 l20 ∧ ∀ (n21 : Nat) (h22 : H), hnew h14 n21 (Value.int IntKind.i64 0 :: Value.slice none 0 0 :: Value.slice none 0 0 :: ints IntKind.u8 (zeros 32)) h22 → hcan h22 (Addr.mk n21 0 none) 35 ∧ ∀ (h24 : H), h24 = hwr h22 (Addr.mk n21 0 none) (Value.int IntKind.i64 i16 :: Value.slice o17 n18 n19 :: Value.slice none 0 0 :: (ints IntKind.u8 l20 ++ [])) → ∃ (o26 : Option Addr), ∃ (n27 : Nat), ∃ (n28 : Nat), hc h24 ((Addr.mk n10 0 none).add 2) = some (Value.slice o26 n27 n28) ∧ ∀ (J29 : List SV → H → Prop), (∀ (i30 : Int) (h31 : H), (if ltI i30 (↑n27 : Int) = true then ∃ (p32 : Addr), o26 = some p32 ∧ 0 ≤ i30 ∧ i30 < (↑n27 : Int) ∧ ∃ (i33 : Int), hc h31 (p32.add (i30.toNat * 5)) = some (Value.int IntKind.i64 i33) ∧ ∃ (i34 : Int), hc h31 ((p32.add (i30.toNat * 5)).add 1) = some (Value.int IntKind.i64 i34) ∧ ∃ (i35 : Int), hc h31 ((p32.add (i30.toNat * 5)).add 2) = some (Value.int IntKind.i64 i35) ∧ ∃ (i36 : Int), hc h31 ((p32.add (i30.toNat * 5)).add 3) = some (Value.int IntKind.i64 i36) ∧ ∃ (i37 : Int), hc h31 ((p32.add (i30.toNat * 5)).add 4) = some (Value.int IntKind.u64 i37) ∧ ∀ (n38 : Nat) (h39 : H), hnew h31 n38 [Value.int IntKind.i64 0, Value.int IntKind.i64 0, Value.int IntKind.i64 0, Value.int IntKind.i64 0, Value.int IntKind.u64 0] h39 → hcan h39 (Addr.mk n38 0 none) 5 ∧ ∀ (h41 : H), h41 = hwr h39 (Addr.mk n38 0 none) [Value.int IntKind.i64 i33, Value.int IntKind.i64 i34, Value.int IntKind.i64 i35, Value.int IntKind.i64 i36, Value.int IntKind.u64 i37] → ∃ (o43 : Option Addr), ∃ (n44 : Nat), ∃ (n45 : Nat), hc h41 ((Addr.mk n21 0 none).add 2) = some (Value.slice o43 n44 n45) ∧ ∃ (i46 : Int), hc h41 (Addr.mk n38 0 none) = some (Value.int IntKind.i64 i46) ∧ ∃ (i47 : Int), hc h41 ((Addr.mk n38 0 none).add 1) = some (Value.int IntKind.i64 i47) ∧ ∃ (i48 : Int), hc h41 ((Addr.mk n38 0 none).add 2) = some (Value.int IntKind.i64 i48) ∧ ∃ (i49 : Int), hc h41 ((Addr.mk n38 0 none).add 3) = some (Value.int IntKind.i64 i49) ∧ ∃ (i50 : Int), hc h41 ((Addr.mk n38 0 none).add 4) = some (Value.int IntKind.u64 i50) ∧ ∀ (n51 : Nat) (h52 : H), hnew h41 n51 [Value.int IntKind.i64 i46, Value.int IntKind.i64 i47, Value.int IntKind.i64 i48, Value.int IntKind.i64 i49, Value.int IntKind.u64 i50] h52 → ∃ (l54 : List Value), hsv h52 (some (Addr.mk n51 0 none)) 5 1 l54 ∧ pApp h52 5 [Value.int IntKind.i64 0, Value.int IntKind.i64 0, Value.int IntKind.i64 0, Value.int IntKind.i64 0, Value.int IntKind.u64 0] 40 o43 n44 n45 1 l54 fun (o55 : Option Addr) (n56 n57 : Nat) (h58 : H) => hcan h58 ((Addr.mk n21 0 none).add 2) 1 ∧ ∀ (h59 : H), h59 = hwr h58 ((Addr.mk n21 0 none).add 2) [Value.slice o55 n56 n57] → J29 [SV.dv (DV.one (Value.int IntKind.i64 (IntKind.i64.wrap (i30 + 1))))] h59 else ∃ (i61 : Int), hc h31 (Addr.mk n21 0 none) = some (Value.int IntKind.i64 i61) ∧ ∃ (o62 : Option Addr), ∃ (n63 : Nat), ∃ (n64 : Nat), hc h31 ((Addr.mk n21 0 none).add 1) = some (Value.slice o62 n63 n64) ∧ ∃ (o65 : Option Addr), ∃ (n66 : Nat), ∃ (n67 : Nat), hc h31 ((Addr.mk n21 0 none).add 2) = some (Value.slice o65 n66 n67) ∧ ∃ (l68 : List Int), l68.length = 32 ∧ hrow h31 ((Addr.mk n21 0 none).add 3) IntKind.u8 l68 ∧ hcan h31 (Addr.mk n13 0 none) 35 ∧ ∀ (h69 : H), h69 = hwr h31 (Addr.mk n13 0 none) (Value.int IntKind.i64 i61 :: Value.slice o62 n63 n64 :: Value.slice o65 n66 n67 :: (ints IntKind.u8 l68 ++ [])) → ∃ (i71 : Int), hc h69 (Addr.mk n13 0 none) = some (Value.int IntKind.i64 i71) ∧ ∃ (o72 : Option Addr), ∃ (n73 : Nat), ∃ (n74 : Nat), hc h69 ((Addr.mk n13 0 none).add 1) = some (Value.slice o72 n73 n74) ∧ ∃ (o75 : Option Addr), ∃ (n76 : Nat), ∃ (n77 : Nat), hc h69 ((Addr.mk n13 0 none).add 2) = some (Value.slice o75 n76 n77) ∧ ∃ (l78 : List Int), l78.length = 32 ∧ hrow h69 ((Addr.mk n13 0 none).add 3) IntKind.u8 l78 ∧ Q i71 o72 n73 n74 o75 n76 n77 l78 h69) → J29 [SV.dv (DV.one (Value.int IntKind.i64 i30))] h31) → J29 [SV.dv (DV.one (Value.int IntKind.i64 0))] h24
theorem E_portcullislaw24_back  : ∀ (a0_0 : Int) (a0_1p : Option Addr) (a0_1l : Nat) (a0_1c : Nat) (a0_2p : Option Addr) (a0_2l : Nat) (a0_2c : Nat) (a0_3 : List Int) (Q : Int → (Option Addr) → Nat → Nat → (Option Addr) → Nat → Nat → (List Int) → H → Prop) (h : H), G_portcullislaw24_back a0_0 a0_1p a0_1l a0_1c a0_2p a0_2l a0_2c a0_3 Q h = Dbody PP [] [(58, [(16, .sc (.int .i64))])] Tryd.f15 [.agg [.c (.int .i64 a0_0), .c (.slice a0_1p a0_1l a0_1c), .c (.slice a0_2p a0_2l a0_2c), .row .u8 32 a0_3]] (decR [.ag [.int .i64, .slc, .slc, .row .u8 32]] Q) h := by intros; kernel_rfl
def F_portcullislaw24_back := G_portcullislaw24_back
theorem R_portcullislaw24_back : RunOk PP 15 (W [.ag [.int .i64, .slc, .slc, .row .u8 32]] [.ag [.int .i64, .slc, .slc, .row .u8 32]] F_portcullislaw24_back) := runOk_of (T := []) (ann := [(58, [(16, .sc (.int .i64))])]) (TblOk.nil) Tryd.func15 (by kernel_rfl) (by kernel_rfl) (E_portcullislaw24_back)
attribute [irreducible] F_portcullislaw24_back
def G_portcullislaw24_TokenBytes (c_portcullislaw24_awake : (Bool → H → Prop) → H → Prop) (c_portcullisref24_Few : Int → Option Addr → Nat → Nat → Option Addr → Nat → Nat → List Int → (Bool → H → Prop) → H → Prop) (c_token_Put : Int → Option Addr → Nat → Nat → Option Addr → Nat → Nat → List Int → (Option Addr → Nat → Nat → Int → H → Prop) → H → Prop) (c_portcullislaw24_of : Int → Option Addr → Nat → Nat → Option Addr → Nat → Nat → List Int → (Int → Option Addr → Nat → Nat → Option Addr → Nat → Nat → List Int → H → Prop) → H → Prop) (c_portcullisref24_Put : Int → Option Addr → Nat → Nat → Option Addr → Nat → Nat → List Int → (Option Addr → Nat → Nat → Int → H → Prop) → H → Prop) (c_token_Get : Option Addr → Nat → Nat → (Int → Option Addr → Nat → Nat → Option Addr → Nat → Nat → List Int → Value → H → Prop) → H → Prop) (c_portcullisref24_Get : Option Addr → Nat → Nat → (Int → Option Addr → Nat → Nat → Option Addr → Nat → Nat → List Int → Int → Int → H → Prop) → H → Prop) (c_portcullislaw24_told : Value → (Int → Int → Bool → H → Prop) → H → Prop) (c_portcullisref24_Same : Int → Option Addr → Nat → Nat → Option Addr → Nat → Nat → List Int → Int → Option Addr → Nat → Nat → Option Addr → Nat → Nat → List Int → (Bool → H → Prop) → H → Prop) (c_portcullislaw24_back : Int → Option Addr → Nat → Nat → Option Addr → Nat → Nat → List Int → (Int → Option Addr → Nat → Nat → Option Addr → Nat → Nat → List Int → H → Prop) → H → Prop) (a0_0 : Int) (a0_1p : Option Addr) (a0_1l : Nat) (a0_1c : Nat) (a0_2p : Option Addr) (a0_2l : Nat) (a0_2c : Nat) (a0_3 : List Int) (a1p : Option Addr) (a1l : Nat) (a1c : Nat) (Q : Bool → H → Prop) (h : H) : Prop := ∀ (n23 : Nat) (h24 : H), hnew h n23 (Value.int IntKind.i64 a0_0 :: Value.slice a0_1p a0_1l a0_1c :: Value.slice a0_2p a0_2l a0_2c :: (ints IntKind.u8 a0_3 ++ [])) h24 → c_portcullislaw24_awake (fun (b26 : Bool) (h27 : H) => if (!b26) = true then Q false h27 else ∃ (i28 : Int), hc h27 (Addr.mk n23 0 none) = some (Value.int IntKind.i64 i28) ∧ ∃ (o29 : Option Addr), ∃ (n30 : Nat), ∃ (n31 : Nat), hc h27 ((Addr.mk n23 0 none).add 1) = some (Value.slice o29 n30 n31) ∧ ∃ (o32 : Option Addr), ∃ (n33 : Nat), ∃ (n34 : Nat), hc h27 ((Addr.mk n23 0 none).add 2) = some (Value.slice o32 n33 n34) ∧ ∃ (l35 : List Int), l35.length = 32 ∧ hrow h27 ((Addr.mk n23 0 none).add 3) IntKind.u8 l35 ∧ c_portcullisref24_Few i28 o29 n30 n31 o32 n33 n34 l35 (fun (b36 : Bool) (h37 : H) => if (!b36) = true then Q true h37 else ∃ (i38 : Int), hc h37 (Addr.mk n23 0 none) = some (Value.int IntKind.i64 i38) ∧ ∃ (o39 : Option Addr), ∃ (n40 : Nat), ∃ (n41 : Nat), hc h37 ((Addr.mk n23 0 none).add 1) = some (Value.slice o39 n40 n41) ∧ ∃ (o42 : Option Addr), ∃ (n43 : Nat), ∃ (n44 : Nat), hc h37 ((Addr.mk n23 0 none).add 2) = some (Value.slice o42 n43 n44) ∧ ∃ (l45 : List Int), l45.length = 32 ∧ hrow h37 ((Addr.mk n23 0 none).add 3) IntKind.u8 l45 ∧ c_portcullislaw24_of i38 o39 n40 n41 o42 n43 n44 l45 (fun (i46 : Int) (o47 : Option Addr) (n48 n49 : Nat) (o50 : Option Addr) (n51 n52 : Nat) (l53 : List Int) (h54 : H) => c_token_Put i46 o47 n48 n49 o50 n51 n52 l53 (fun (o55 : Option Addr) (n56 n57 : Nat) (i58 : Int) (h59 : H) => ∃ (i60 : Int), hc h59 (Addr.mk n23 0 none) = some (Value.int IntKind.i64 i60) ∧ ∃ (o61 : Option Addr), ∃ (n62 : Nat), ∃ (n63 : Nat), hc h59 ((Addr.mk n23 0 none).add 1) = some (Value.slice o61 n62 n63) ∧ ∃ (o64 : Option Addr), ∃ (n65 : Nat), ∃ (n66 : Nat), hc h59 ((Addr.mk n23 0 none).add 2) = some (Value.slice o64 n65 n66) ∧ ∃ (l67 : List Int), l67.length = 32 ∧ hrow h59 ((Addr.mk n23 0 none).add 3) IntKind.u8 l67 ∧ c_portcullisref24_Put i60 o61 n62 n63 o64 n65 n66 l67 (fun (o68 : Option Addr) (n69 n70 : Nat) (i71 : Int) (h72 : H) => ∀ (J73 : List SV → H → Prop), (∀ (h74 : H), (∀ (J75 : List SV → H → Prop), (∀ (i76 : Int) (h77 : H), (if ltI i76 (↑a1l : Int) = true then ∃ (p78 : Addr), a1p = some p78 ∧ 0 ≤ i76 ∧ i76 < (↑a1l : Int) ∧ ∃ (o79 : Option Addr), ∃ (n80 : Nat), ∃ (n81 : Nat), hc h77 (p78.add (i76.toNat * 1)) = some (Value.slice o79 n80 n81) ∧ c_token_Get o79 n80 n81 (fun (i82 : Int) (o83 : Option Addr) (n84 n85 : Nat) (o86 : Option Addr) (n87 n88 : Nat) (l89 : List Int) (v90 : Value) (h91 : H) => ∀ (n92 : Nat) (h93 : H), hnew h91 n92 (Value.int IntKind.i64 0 :: Value.slice none 0 0 :: Value.slice none 0 0 :: ints IntKind.u8 (zeros 32)) h93 → hcan h93 (Addr.mk n92 0 none) 35 ∧ ∀ (h95 : H), h95 = hwr h93 (Addr.mk n92 0 none) (Value.int IntKind.i64 i82 :: Value.slice o83 n84 n85 :: Value.slice o86 n87 n88 :: (ints IntKind.u8 l89 ++ [])) → c_portcullisref24_Get o79 n80 n81 (fun (i97 : Int) (o98 : Option Addr) (n99 n100 : Nat) (o101 : Option Addr) (n102 n103 : Nat) (l104 : List Int) (i105 i106 : Int) (h107 : H) => ∀ (n108 : Nat) (h109 : H), hnew h107 n108 (Value.int IntKind.i64 0 :: Value.slice none 0 0 :: Value.slice none 0 0 :: ints IntKind.u8 (zeros 32)) h109 → ∀ (n111 : Nat) (h112 : H), hnew h109 n111 [Value.int IntKind.i64 0, Value.int IntKind.i64 0] h112 → hcan h112 (Addr.mk n108 0 none) 35 ∧ ∀ (h114 : H), h114 = hwr h112 (Addr.mk n108 0 none) (Value.int IntKind.i64 i97 :: Value.slice o98 n99 n100 :: Value.slice o101 n102 n103 :: (ints IntKind.u8 l104 ++ [])) → hcan h114 (Addr.mk n111 0 none) 2 ∧ ∀ (h116 : H), h116 = hwr h114 (Addr.mk n111 0 none) [Value.int IntKind.i64 i105, Value.int IntKind.i64 i106] → c_portcullislaw24_told v90 (fun (i118 i119 : Int) (b120 : Bool) (h121 : H) => ∀ (n122 : Nat) (h123 : H), hnew h121 n122 [Value.int IntKind.i64 0, Value.int IntKind.i64 0] h123 → hcan h123 (Addr.mk n122 0 none) 2 ∧ ∀ (h125 : H), h125 = hwr h123 (Addr.mk n122 0 none) [Value.int IntKind.i64 i118, Value.int IntKind.i64 i119] → if (!b120) = true then Q false h125 else ∃ (i127 : Int), hc h125 (Addr.mk n122 0 none) = some (Value.int IntKind.i64 i127) ∧ ∃ (i128 : Int), hc h125 ((Addr.mk n122 0 none).add 1) = some (Value.int IntKind.i64 i128) ∧ ∃ (i129 : Int), hc h125 (Addr.mk n111 0 none) = some (Value.int IntKind.i64 i129) ∧ ∃ (i130 : Int), hc h125 ((Addr.mk n111 0 none).add 1) = some (Value.int IntKind.i64 i130) ∧ if (!(i127 == i129 && (i128 == i130 && true))) = true then Q false h125 else ∃ (i131 : Int), hc h125 (Addr.mk n92 0 none) = some (Value.int IntKind.i64 i131) ∧ ∃ (o132 : Option Addr), ∃ (n133 : Nat), ∃ (n134 : Nat), hc h125 ((Addr.mk n92 0 none).add 1) = some (Value.slice o132 n133 n134) ∧ ∃ (o135 : Option Addr), ∃ (n136 : Nat), ∃ (n137 : Nat), hc h125 ((Addr.mk n92 0 none).add 2) = some (Value.slice o135 n136 n137) ∧ ∃ (l138 : List Int), l138.length = 32 ∧ hrow h125 ((Addr.mk n92 0 none).add 3) IntKind.u8 l138 ∧ ∃ (i139 : Int), hc h125 (Addr.mk n108 0 none) = some (Value.int IntKind.i64 i139) ∧ ∃ (o140 : Option Addr), ∃ (n141 : Nat), ∃ (n142 : Nat), hc h125 ((Addr.mk n108 0 none).add 1) = some (Value.slice o140 n141 n142) ∧ ∃ (o143 : Option Addr), ∃ (n144 : Nat), ∃ (n145 : Nat), hc h125 ((Addr.mk n108 0 none).add 2) = some (Value.slice o143 n144 n145) ∧ ∃ (l146 : List Int), l146.length = 32 ∧ hrow h125 ((Addr.mk n108 0 none).add 3) IntKind.u8 l146 ∧ c_portcullislaw24_back i131 o132 n133 n134 o135 n136 n137 l138 (fun (i147 : Int) (o148 : Option Addr) (n149 n150 : Nat) (o151 : Option Addr) (n152 n153 : Nat) (l154 : List Int) (h155 : H) => hcs h155 (Addr.mk n108 0 none) (Value.int IntKind.i64 i139 :: Value.slice o140 n141 n142 :: Value.slice o143 n144 n145 :: (ints IntKind.u8 l146 ++ [])) ∧ c_portcullisref24_Same i147 o148 n149 n150 o151 n152 n153 l154 i139 o140 n141 n142 o143 n144 n145 l146 (fun (b156 : Bool) (h157 : H) => if (!b156) = true then Q false h157 else J75 [SV.dv (DV.one (Value.int IntKind.i64 (IntKind.i64.wrap (i76 + 1))))] h157) h155) h125) h116) h95) h77 else Q true h77) → J75 [SV.dv (DV.one (Value.int IntKind.i64 i76))] h77) → J75 [SV.dv (DV.one (Value.int IntKind.i64 0))] h74) → J73 [] h74) → if (i58 != i71) = true then Q false h72 else ∃ (l162 : List Int), hsv h72 o55 1 n56 (ints IntKind.u8 l162) ∧ ∃ (l163 : List Int), hsv h72 o68 1 n69 (ints IntKind.u8 l163) ∧ if (!(bytesOf l162).toList == (bytesOf l163).toList) = true then Q false h72 else J73 [] h72) h59) h54) h37) h27) h24
theorem E_portcullislaw24_TokenBytes (c_portcullislaw24_awake : (Bool → H → Prop) → H → Prop) (c_portcullisref24_Few : Int → (Option Addr) → Nat → Nat → (Option Addr) → Nat → Nat → (List Int) → (Bool → H → Prop) → H → Prop) (c_token_Put : Int → (Option Addr) → Nat → Nat → (Option Addr) → Nat → Nat → (List Int) → ((Option Addr) → Nat → Nat → Int → H → Prop) → H → Prop) (c_portcullislaw24_of : Int → (Option Addr) → Nat → Nat → (Option Addr) → Nat → Nat → (List Int) → (Int → (Option Addr) → Nat → Nat → (Option Addr) → Nat → Nat → (List Int) → H → Prop) → H → Prop) (c_portcullisref24_Put : Int → (Option Addr) → Nat → Nat → (Option Addr) → Nat → Nat → (List Int) → ((Option Addr) → Nat → Nat → Int → H → Prop) → H → Prop) (c_token_Get : (Option Addr) → Nat → Nat → (Int → (Option Addr) → Nat → Nat → (Option Addr) → Nat → Nat → (List Int) → Value → H → Prop) → H → Prop) (c_portcullisref24_Get : (Option Addr) → Nat → Nat → (Int → (Option Addr) → Nat → Nat → (Option Addr) → Nat → Nat → (List Int) → Int → Int → H → Prop) → H → Prop) (c_portcullislaw24_told : Value → (Int → Int → Bool → H → Prop) → H → Prop) (c_portcullisref24_Same : Int → (Option Addr) → Nat → Nat → (Option Addr) → Nat → Nat → (List Int) → Int → (Option Addr) → Nat → Nat → (Option Addr) → Nat → Nat → (List Int) → (Bool → H → Prop) → H → Prop) (c_portcullislaw24_back : Int → (Option Addr) → Nat → Nat → (Option Addr) → Nat → Nat → (List Int) → (Int → (Option Addr) → Nat → Nat → (Option Addr) → Nat → Nat → (List Int) → H → Prop) → H → Prop) : ∀ (a0_0 : Int) (a0_1p : Option Addr) (a0_1l : Nat) (a0_1c : Nat) (a0_2p : Option Addr) (a0_2l : Nat) (a0_2c : Nat) (a0_3 : List Int) (a1p : Option Addr) (a1l : Nat) (a1c : Nat) (Q : Bool → H → Prop) (h : H), G_portcullislaw24_TokenBytes c_portcullislaw24_awake c_portcullisref24_Few c_token_Put c_portcullislaw24_of c_portcullisref24_Put c_token_Get c_portcullisref24_Get c_portcullislaw24_told c_portcullisref24_Same c_portcullislaw24_back a0_0 a0_1p a0_1l a0_1c a0_2p a0_2l a0_2c a0_3 a1p a1l a1c Q h = Dbody PP [(6, W [] [.bool] c_portcullislaw24_awake), (7, W [.ag [.int .i64, .slc, .slc, .row .u8 32]] [.bool] c_portcullisref24_Few), (8, W [.ag [.int .i64, .slc, .slc, .row .u8 32]] [.slc, .int .i64] c_token_Put), (9, W [.ag [.int .i64, .slc, .slc, .row .u8 32]] [.ag [.int .i64, .slc, .slc, .row .u8 32]] c_portcullislaw24_of), (10, W [.ag [.int .i64, .slc, .slc, .row .u8 32]] [.slc, .int .i64] c_portcullisref24_Put), (11, W [.slc] [.ag [.int .i64, .slc, .slc, .row .u8 32], .fn] c_token_Get), (12, W [.slc] [.ag [.int .i64, .slc, .slc, .row .u8 32], .ag [.int .i64, .int .i64]] c_portcullisref24_Get), (13, W [.fn] [.ag [.int .i64, .int .i64], .bool] c_portcullislaw24_told), (14, W [.ag [.int .i64, .slc, .slc, .row .u8 32], .ag [.int .i64, .slc, .slc, .row .u8 32]] [.bool] c_portcullisref24_Same), (15, W [.ag [.int .i64, .slc, .slc, .row .u8 32]] [.ag [.int .i64, .slc, .slc, .row .u8 32]] c_portcullislaw24_back)] [(63, []), (1018, [(45, .sc (.int .i64))])] Tryd.f4 [.agg [.c (.int .i64 a0_0), .c (.slice a0_1p a0_1l a0_1c), .c (.slice a0_2p a0_2l a0_2c), .row .u8 32 a0_3], .one (.slice a1p a1l a1c)] (decR [.bool] Q) h := by intros; kernel_rfl
def F_portcullislaw24_TokenBytes := G_portcullislaw24_TokenBytes F_portcullislaw24_awake F_portcullisref24_Few F_token_Put F_portcullislaw24_of F_portcullisref24_Put F_token_Get F_portcullisref24_Get F_portcullislaw24_told F_portcullisref24_Same F_portcullislaw24_back
theorem R_portcullislaw24_TokenBytes : RunOk PP 4 (W [.ag [.int .i64, .slc, .slc, .row .u8 32], .slc] [.bool] F_portcullislaw24_TokenBytes) := runOk_of (T := [(6, W [] [.bool] F_portcullislaw24_awake), (7, W [.ag [.int .i64, .slc, .slc, .row .u8 32]] [.bool] F_portcullisref24_Few), (8, W [.ag [.int .i64, .slc, .slc, .row .u8 32]] [.slc, .int .i64] F_token_Put), (9, W [.ag [.int .i64, .slc, .slc, .row .u8 32]] [.ag [.int .i64, .slc, .slc, .row .u8 32]] F_portcullislaw24_of), (10, W [.ag [.int .i64, .slc, .slc, .row .u8 32]] [.slc, .int .i64] F_portcullisref24_Put), (11, W [.slc] [.ag [.int .i64, .slc, .slc, .row .u8 32], .fn] F_token_Get), (12, W [.slc] [.ag [.int .i64, .slc, .slc, .row .u8 32], .ag [.int .i64, .int .i64]] F_portcullisref24_Get), (13, W [.fn] [.ag [.int .i64, .int .i64], .bool] F_portcullislaw24_told), (14, W [.ag [.int .i64, .slc, .slc, .row .u8 32], .ag [.int .i64, .slc, .slc, .row .u8 32]] [.bool] F_portcullisref24_Same), (15, W [.ag [.int .i64, .slc, .slc, .row .u8 32]] [.ag [.int .i64, .slc, .slc, .row .u8 32]] F_portcullislaw24_back)]) (ann := [(63, []), (1018, [(45, .sc (.int .i64))])]) (TblOk.cons R_portcullislaw24_awake (TblOk.cons R_portcullisref24_Few (TblOk.cons R_token_Put (TblOk.cons R_portcullislaw24_of (TblOk.cons R_portcullisref24_Put (TblOk.cons R_token_Get (TblOk.cons R_portcullisref24_Get (TblOk.cons R_portcullislaw24_told (TblOk.cons R_portcullisref24_Same (TblOk.cons R_portcullislaw24_back (TblOk.nil))))))))))) Tryd.func4 (by kernel_rfl) (by kernel_rfl) (E_portcullislaw24_TokenBytes F_portcullislaw24_awake F_portcullisref24_Few F_token_Put F_portcullislaw24_of F_portcullisref24_Put F_token_Get F_portcullisref24_Get F_portcullislaw24_told F_portcullisref24_Same F_portcullislaw24_back)
attribute [irreducible] F_portcullislaw24_TokenBytes
def G_token_Token_may_1 (c_token_Caveat_may : Int → Int → Int → Int → Int → (Bool → H → Prop) → H → Prop) (a0_0 : Int) (a0_1 : Int) (a0_2 : Int) (a0_3 : Int) (a0_4 : Int) (Q : Bool → H → Prop) (h : H) : Prop := ∀ (n8 : Nat) (h9 : H), hnew h n8 [Value.int IntKind.i64 a0_0, Value.int IntKind.i64 a0_1, Value.int IntKind.i64 a0_2, Value.int IntKind.i64 a0_3, Value.int IntKind.u64 a0_4] h9 → ∃ (i11 : Int), hc h9 (Addr.mk n8 0 none) = some (Value.int IntKind.i64 i11) ∧ ∃ (i12 : Int), hc h9 ((Addr.mk n8 0 none).add 1) = some (Value.int IntKind.i64 i12) ∧ ∃ (i13 : Int), hc h9 ((Addr.mk n8 0 none).add 2) = some (Value.int IntKind.i64 i13) ∧ ∃ (i14 : Int), hc h9 ((Addr.mk n8 0 none).add 3) = some (Value.int IntKind.i64 i14) ∧ ∃ (i15 : Int), hc h9 ((Addr.mk n8 0 none).add 4) = some (Value.int IntKind.u64 i15) ∧ c_token_Caveat_may i11 i12 i13 i14 i15 (fun (b16 : Bool) (h17 : H) => Q (!b16) h17) h9
theorem E_token_Token_may_1 (c_token_Caveat_may : Int → Int → Int → Int → Int → (Bool → H → Prop) → H → Prop) : ∀ (a0_0 : Int) (a0_1 : Int) (a0_2 : Int) (a0_3 : Int) (a0_4 : Int) (Q : Bool → H → Prop) (h : H), G_token_Token_may_1 c_token_Caveat_may a0_0 a0_1 a0_2 a0_3 a0_4 Q h = Dbody PP [(27, W [.ag [.int .i64, .int .i64, .int .i64, .int .i64, .int .u64]] [.bool] c_token_Caveat_may)] [] Tryd.f38 [.agg [.c (.int .i64 a0_0), .c (.int .i64 a0_1), .c (.int .i64 a0_2), .c (.int .i64 a0_3), .c (.int .u64 a0_4)]] (decR [.bool] Q) h := by intros; kernel_rfl
def F_token_Token_may_1 := G_token_Token_may_1 F_token_Caveat_may
theorem R_token_Token_may_1 : RunOk PP 38 (W [.ag [.int .i64, .int .i64, .int .i64, .int .i64, .int .u64]] [.bool] F_token_Token_may_1) := runOk_of (T := [(27, W [.ag [.int .i64, .int .i64, .int .i64, .int .i64, .int .u64]] [.bool] F_token_Caveat_may)]) (ann := []) (TblOk.cons R_token_Caveat_may (TblOk.nil)) Tryd.func38 (by kernel_rfl) (by kernel_rfl) (E_token_Token_may_1 F_token_Caveat_may)
attribute [irreducible] F_token_Token_may_1
def G_token_slot (a0 : Int) (Q : Bool → H → Prop) (h : H) : Prop := if leI 0 a0 = true then Q (ltI a0 8) h else Q false h
theorem E_token_slot  : ∀ (a0 : Int) (Q : Bool → H → Prop) (h : H), G_token_slot a0 Q h = Dbody PP [] [] Tryd.f91 [.one (.int .i64 a0)] (decR [.bool] Q) h := by intros; kernel_rfl
def F_token_slot := G_token_slot
theorem R_token_slot : RunOk PP 91 (W [.int .i64] [.bool] F_token_slot) := runOk_of (T := []) (ann := []) (TblOk.nil) Tryd.func91 (by kernel_rfl) (by kernel_rfl) (E_token_slot)
attribute [irreducible] F_token_slot
def G_token_onSlot_may (c_token_slot : Int → (Bool → H → Prop) → H → Prop) (a0_0 : Int) (Q : Bool → H → Prop) (h : H) : Prop := ∀ (n4 : Nat) (h5 : H), hnew h n4 [Value.int IntKind.i64 a0_0] h5 → ∃ (i7 : Int), hc h5 (Addr.mk n4 0 none) = some (Value.int IntKind.i64 i7) ∧ c_token_slot i7 (fun (b8 : Bool) (h9 : H) => Q b8 h9) h5
theorem E_token_onSlot_may (c_token_slot : Int → (Bool → H → Prop) → H → Prop) : ∀ (a0_0 : Int) (Q : Bool → H → Prop) (h : H), G_token_onSlot_may c_token_slot a0_0 Q h = Dbody PP [(91, W [.int .i64] [.bool] c_token_slot)] [] Tryd.f89 [.agg [.c (.int .i64 a0_0)]] (decR [.bool] Q) h := by intros; kernel_rfl
def F_token_onSlot_may := G_token_onSlot_may F_token_slot
theorem R_token_onSlot_may : RunOk PP 89 (W [.ag [.int .i64]] [.bool] F_token_onSlot_may) := runOk_of (T := [(91, W [.int .i64] [.bool] F_token_slot)]) (ann := []) (TblOk.cons R_token_slot (TblOk.nil)) Tryd.func89 (by kernel_rfl) (by kernel_rfl) (E_token_onSlot_may F_token_slot)
attribute [irreducible] F_token_onSlot_may
end Go.Proofs.YtijcpgahmbkijaaDoor
end

/- Denotations of functions of the program, printed by a program of ours, and that they are the model's. -/
section
set_option linter.unusedVariables false
set_option maxRecDepth 100000
namespace Go.Proofs.YtijcpgahmbkijaaDoor
open Go Go.Vc
def G_token_versions_may (a0_0 : Int) (a0_1 : Int) (Q : Bool → H → Prop) (h : H) : Prop := ∀ (n4 : Nat) (h5 : H), hnew h n4 [Value.int IntKind.i64 a0_0, Value.int IntKind.i64 a0_1] h5 → ∃ (i7 : Int), hc h5 (Addr.mk n4 0 none) = some (Value.int IntKind.i64 i7) ∧ if leI 0 i7 = true then ∃ (i8 : Int), hc h5 (Addr.mk n4 0 none) = some (Value.int IntKind.i64 i8) ∧ ∃ (i9 : Int), hc h5 ((Addr.mk n4 0 none).add 1) = some (Value.int IntKind.i64 i9) ∧ if leI i8 i9 = true then ∃ (i10 : Int), hc h5 ((Addr.mk n4 0 none).add 1) = some (Value.int IntKind.i64 i10) ∧ ∀ (i11 : Int), i11 = 4294967296 → Q (ltI i10 i11) h5 else Q false h5 else Q false h5
theorem E_token_versions_may  : ∀ (a0_0 : Int) (a0_1 : Int) (Q : Bool → H → Prop) (h : H), G_token_versions_may a0_0 a0_1 Q h = Dbody PP [] [] Tryd.f92 [.agg [.c (.int .i64 a0_0), .c (.int .i64 a0_1)]] (decR [.bool] Q) h := by intros; kernel_rfl
def F_token_versions_may := G_token_versions_may
theorem R_token_versions_may : RunOk PP 92 (W [.ag [.int .i64, .int .i64]] [.bool] F_token_versions_may) := runOk_of (T := []) (ann := []) (TblOk.nil) Tryd.func92 (by kernel_rfl) (by kernel_rfl) (E_token_versions_may)
attribute [irreducible] F_token_versions_may
def G_token_ofKinds_may (a0_0 : Int) (Q : Bool → H → Prop) (h : H) : Prop := ∀ (n3 : Nat) (h4 : H), hnew h n3 [Value.int IntKind.u64 a0_0] h4 → ∃ (i6 : Int), hc h4 (Addr.mk n3 0 none) = some (Value.int IntKind.u64 i6) ∧ if (i6 != 0) = true then ∃ (i7 : Int), hc h4 (Addr.mk n3 0 none) = some (Value.int IntKind.u64 i7) ∧ Q (bits BinOp.andNot IntKind.u64 i7 16382 == 0) h4 else Q false h4
theorem E_token_ofKinds_may  : ∀ (a0_0 : Int) (Q : Bool → H → Prop) (h : H), G_token_ofKinds_may a0_0 Q h = Dbody PP [] [] Tryd.f94 [.agg [.c (.int .u64 a0_0)]] (decR [.bool] Q) h := by intros; kernel_rfl
def F_token_ofKinds_may := G_token_ofKinds_may
theorem R_token_ofKinds_may : RunOk PP 94 (W [.ag [.int .u64]] [.bool] F_token_ofKinds_may) := runOk_of (T := []) (ann := []) (TblOk.nil) Tryd.func94 (by kernel_rfl) (by kernel_rfl) (E_token_ofKinds_may)
attribute [irreducible] F_token_ofKinds_may
def G_token_value (a0 : Int) (Q : Bool → H → Prop) (h : H) : Prop := if leI 0 a0 = true then ∀ (i3 : Int), i3 = 4611686018427387904 → Q (leI a0 i3) h else Q false h
theorem E_token_value  : ∀ (a0 : Int) (Q : Bool → H → Prop) (h : H), G_token_value a0 Q h = Dbody PP [] [] Tryd.f98 [.one (.int .i64 a0)] (decR [.bool] Q) h := by intros; kernel_rfl
def F_token_value := G_token_value
theorem R_token_value : RunOk PP 98 (W [.int .i64] [.bool] F_token_value) := runOk_of (T := []) (ann := []) (TblOk.nil) Tryd.func98 (by kernel_rfl) (by kernel_rfl) (E_token_value)
attribute [irreducible] F_token_value
def G_token_atLeast_may (c_token_slot : Int → (Bool → H → Prop) → H → Prop) (c_token_value : Int → (Bool → H → Prop) → H → Prop) (a0_0 : Int) (a0_1 : Int) (Q : Bool → H → Prop) (h : H) : Prop := ∀ (n6 : Nat) (h7 : H), hnew h n6 [Value.int IntKind.i64 a0_0, Value.int IntKind.i64 a0_1] h7 → ∃ (i9 : Int), hc h7 (Addr.mk n6 0 none) = some (Value.int IntKind.i64 i9) ∧ c_token_slot i9 (fun (b10 : Bool) (h11 : H) => if b10 = true then ∃ (i12 : Int), hc h11 ((Addr.mk n6 0 none).add 1) = some (Value.int IntKind.i64 i12) ∧ c_token_value i12 (fun (b13 : Bool) (h14 : H) => Q b13 h14) h11 else Q false h11) h7
theorem E_token_atLeast_may (c_token_slot : Int → (Bool → H → Prop) → H → Prop) (c_token_value : Int → (Bool → H → Prop) → H → Prop) : ∀ (a0_0 : Int) (a0_1 : Int) (Q : Bool → H → Prop) (h : H), G_token_atLeast_may c_token_slot c_token_value a0_0 a0_1 Q h = Dbody PP [(91, W [.int .i64] [.bool] c_token_slot), (98, W [.int .i64] [.bool] c_token_value)] [] Tryd.f96 [.agg [.c (.int .i64 a0_0), .c (.int .i64 a0_1)]] (decR [.bool] Q) h := by intros; kernel_rfl
def F_token_atLeast_may := G_token_atLeast_may F_token_slot F_token_value
theorem R_token_atLeast_may : RunOk PP 96 (W [.ag [.int .i64, .int .i64]] [.bool] F_token_atLeast_may) := runOk_of (T := [(91, W [.int .i64] [.bool] F_token_slot), (98, W [.int .i64] [.bool] F_token_value)]) (ann := []) (TblOk.cons R_token_slot (TblOk.cons R_token_value (TblOk.nil))) Tryd.func96 (by kernel_rfl) (by kernel_rfl) (E_token_atLeast_may F_token_slot F_token_value)
attribute [irreducible] F_token_atLeast_may
def G_token_atMost_may (c_token_slot : Int → (Bool → H → Prop) → H → Prop) (c_token_value : Int → (Bool → H → Prop) → H → Prop) (a0_0 : Int) (a0_1 : Int) (Q : Bool → H → Prop) (h : H) : Prop := ∀ (n6 : Nat) (h7 : H), hnew h n6 [Value.int IntKind.i64 a0_0, Value.int IntKind.i64 a0_1] h7 → ∃ (i9 : Int), hc h7 (Addr.mk n6 0 none) = some (Value.int IntKind.i64 i9) ∧ c_token_slot i9 (fun (b10 : Bool) (h11 : H) => if b10 = true then ∃ (i12 : Int), hc h11 ((Addr.mk n6 0 none).add 1) = some (Value.int IntKind.i64 i12) ∧ c_token_value i12 (fun (b13 : Bool) (h14 : H) => Q b13 h14) h11 else Q false h11) h7
theorem E_token_atMost_may (c_token_slot : Int → (Bool → H → Prop) → H → Prop) (c_token_value : Int → (Bool → H → Prop) → H → Prop) : ∀ (a0_0 : Int) (a0_1 : Int) (Q : Bool → H → Prop) (h : H), G_token_atMost_may c_token_slot c_token_value a0_0 a0_1 Q h = Dbody PP [(91, W [.int .i64] [.bool] c_token_slot), (98, W [.int .i64] [.bool] c_token_value)] [] Tryd.f99 [.agg [.c (.int .i64 a0_0), .c (.int .i64 a0_1)]] (decR [.bool] Q) h := by intros; kernel_rfl
def F_token_atMost_may := G_token_atMost_may F_token_slot F_token_value
theorem R_token_atMost_may : RunOk PP 99 (W [.ag [.int .i64, .int .i64]] [.bool] F_token_atMost_may) := runOk_of (T := [(91, W [.int .i64] [.bool] F_token_slot), (98, W [.int .i64] [.bool] F_token_value)]) (ann := []) (TblOk.cons R_token_slot (TblOk.cons R_token_value (TblOk.nil))) Tryd.func99 (by kernel_rfl) (by kernel_rfl) (E_token_atMost_may F_token_slot F_token_value)
attribute [irreducible] F_token_atMost_may
end Go.Proofs.YtijcpgahmbkijaaDoor
end

/- Blocks of memory as lists of cells, and what loads, stores and allocations do to them. Own work; generic over any program. -/
section
set_option linter.unusedVariables false
namespace Go.Vc

/-- Block b holds just these cells, and none of them is frozen. -/
def Blk (h : H) (b : Nat) (vs : List Value) : Prop :=
  ∃ t lo n, h[b]? = some (.cells vs.toArray t (lo, lo + n)) ∧ ∀ i, i < vs.length → ¬ (lo ≤ i ∧ i < lo + n)

abbrev at_ (b o : Nat) : Addr := ⟨b, o, none⟩

@[simp] theorem add_mk (b o n : Nat) : (Addr.mk b o none).add n = Addr.mk b (o + n) none := by
  unfold Addr.add; split
  · rename_i h; subst h; rfl
  · rfl

theorem Blk.lt {h : H} {b : Nat} {vs : List Value} (k : Blk h b vs) : b < h.size := by
  obtain ⟨t, lo, hi, hb, _⟩ := k
  exact (Array.getElem?_eq_some_iff.1 hb).1
theorem Blk.of_eq {h h' : H} {b : Nat} {vs : List Value} (k : Blk h b vs) (e : h'[b]? = h[b]?) : Blk h' b vs := by
  obtain ⟨t, lo, hi, hb, hf⟩ := k
  exact ⟨t, lo, hi, by rw [e]; exact hb, hf⟩

theorem Blk.hc {h : H} {b : Nat} {vs : List Value} (k : Blk h b vs) (o : Nat) : hc h ⟨b, o, none⟩ = vs[o]? := by
  obtain ⟨t, lo, hi, hb, _⟩ := k
  simp [Vc.hc, hb]
theorem Blk.hf {h : H} {b : Nat} {vs : List Value} (k : Blk h b vs) {o : Nat} (ho : o < vs.length) : hf h ⟨b, o, none⟩ = false := by
  obtain ⟨t, lo, hi, hb, hfz⟩ := k
  have := hfz o ho
  simp only [Vc.hf, hb]
  simp only [Bool.and_eq_false_imp, decide_eq_true_eq, decide_eq_false_iff_not]
  intro h1 h2; exact this ⟨h1, h2⟩
theorem Blk.can {h : H} {b : Nat} {vs : List Value} (k : Blk h b vs) {o n : Nat} (ho : o + n ≤ vs.length) : hcan h ⟨b, o, none⟩ n := by
  intro i hi
  have hl : o + i < vs.length := by omega
  rw [add_mk, k.hc, k.hf hl]
  simp [List.getElem?_eq_getElem hl]
theorem Blk.hcs {h : H} {b : Nat} {vs : List Value} (k : Blk h b vs) {o : Nat} {xs : List Value} (e : ∀ i, i < xs.length → vs[o + i]? = xs[i]?) : hcs h ⟨b, o, none⟩ xs := by
  intro i v hv
  rw [add_mk, k.hc, e i (List.getElem?_eq_some_iff.1 hv).1, hv]

/-! ### Writing -/
/-- Cells put in the place of others. -/
def splice (vs : List Value) : Nat → List Value → List Value
  | _, [] => vs
  | o, x :: r => splice (vs.set o x) (o + 1) r
@[simp] theorem splice_nil (vs : List Value) (o : Nat) : splice vs o [] = vs := rfl
@[simp] theorem splice_cons (vs : List Value) (o : Nat) (x : Value) (r : List Value) : splice vs o (x :: r) = splice (vs.set o x) (o + 1) r := rfl
@[simp] theorem splice_length (vs : List Value) (o : Nat) (xs : List Value) : (splice vs o xs).length = vs.length := by
  induction xs generalizing vs o with
  | nil => rfl
  | cons x r ih => simp [ih]
theorem splice_get (vs : List Value) (o : Nat) (xs : List Value) (i : Nat) : (splice vs o xs)[i]? = if o ≤ i ∧ i < o + xs.length ∧ i < vs.length then xs[i - o]? else vs[i]? := by
  induction xs generalizing vs o with
  | nil =>
    have : ¬ (o ≤ i ∧ i < o + ([] : List Value).length ∧ i < vs.length) := by simp; omega
    rw [if_neg this]; rfl
  | cons x r ih =>
    rw [splice_cons, ih]
    simp only [List.length_cons, List.length_set]
    by_cases h1 : o = i
    · subst h1
      rw [if_neg (by omega)]
      by_cases h2 : o < vs.length
      · rw [if_pos (by omega)]; simp [h2]
      · rw [if_neg (by omega)]
        have : (vs.set o x) = vs := List.set_eq_of_length_le (by omega)
        rw [this]
    · rw [List.getElem?_set_ne h1]
      by_cases h2 : o + 1 ≤ i ∧ i < o + 1 + r.length ∧ i < vs.length
      · rw [if_pos h2, if_pos (by omega)]
        have : i - o = (i - (o + 1)) + 1 := by omega
        rw [this]; simp
      · rw [if_neg h2, if_neg (by omega)]
theorem splice_all (vs xs : List Value) (h : xs.length = vs.length) : splice vs 0 xs = xs := by
  apply List.ext_getElem?
  intro i
  rw [splice_get]
  split
  · simp
  · rename_i hn
    rw [List.getElem?_eq_none (by omega), List.getElem?_eq_none (by omega)]
theorem splice_append (a b c xs : List Value) (h : xs.length = b.length) : splice (a ++ b ++ c) a.length xs = a ++ xs ++ c := by
  apply List.ext_getElem?
  intro i
  rw [splice_get]
  simp only [List.length_append]
  split
  · rename_i hh
    rw [List.append_assoc, List.getElem?_append_right hh.1, List.getElem?_append_left (by omega)]
  · rename_i hh
    rw [List.append_assoc, List.append_assoc]
    by_cases h1 : i < a.length
    · rw [List.getElem?_append_left h1, List.getElem?_append_left h1]
    · rw [List.getElem?_append_right (by omega), List.getElem?_append_right (by omega)]
      by_cases h2 : i - a.length < b.length
      · omega
      · rw [List.getElem?_append_right (by omega), List.getElem?_append_right (by omega), h]

theorem hs_eq {h : H} {b : Nat} {vs : List Value} (k : Blk h b vs) (o : Nat) (v : Value) : Blk (hs h ⟨b, o, none⟩ v) b (vs.set o v) := by
  obtain ⟨t, lo, hi, hb, hfz⟩ := k
  refine ⟨t, lo, hi, ?_, by simpa using hfz⟩
  simp only [hs, Array.getElem?_modify, hb]
  simp
theorem hs_ne (h : H) (a : Addr) (v : Value) {x : Nat} (hx : x ≠ a.block) : (hs h a v)[x]? = h[x]? := by
  simp only [hs, Array.getElem?_modify]
  rw [if_neg (by omega)]
theorem hs_size (h : H) (a : Addr) (v : Value) : (hs h a v).size = h.size := by simp [hs]
theorem hwrFrom_blk {h : H} {b : Nat} {vs : List Value} (k : Blk h b vs) (o : Nat) (xs : List Value) (j : Nat) : Blk (hwrFrom h ⟨b, o, none⟩ j xs) b (splice vs (o + j) xs) := by
  induction xs generalizing h vs j with
  | nil => exact k
  | cons x r ih =>
    simp only [hwrFrom, splice_cons, add_mk]
    exact ih (hs_eq k (o + j) x) (j + 1)
theorem add_block (a : Addr) (n : Nat) : (a.add n).block = a.block := by unfold Addr.add; split <;> rfl
theorem hwrFrom_ne (h : H) (a : Addr) (j : Nat) (xs : List Value) {x : Nat} (hx : x ≠ a.block) : (hwrFrom h a j xs)[x]? = h[x]? := by
  induction xs generalizing h j with
  | nil => rfl
  | cons y r ih => simp only [hwrFrom]; rw [ih, hs_ne]; rw [add_block]; exact hx
theorem hwrFrom_size (h : H) (a : Addr) (j : Nat) (xs : List Value) : (hwrFrom h a j xs).size = h.size := by
  induction xs generalizing h j with
  | nil => rfl
  | cons y r ih => simp only [hwrFrom]; rw [ih, hs_size]
theorem Blk.wr {h : H} {b : Nat} {vs : List Value} (k : Blk h b vs) (o : Nat) (xs : List Value) : Blk (hwr h ⟨b, o, none⟩ xs) b (splice vs o xs) := hwrFrom_blk k o xs 0
theorem hwr_ne (h : H) (a : Addr) (xs : List Value) {x : Nat} (hx : x ≠ a.block) : (hwr h a xs)[x]? = h[x]? := hwrFrom_ne h a 0 xs hx
theorem hwr_size (h : H) (a : Addr) (xs : List Value) : (hwr h a xs).size = h.size := hwrFrom_size h a 0 xs
/-! ### What is left alone -/
/-- From h to h' only these blocks, and new ones, may differ. -/
structure Ext (S : Nat → Prop) (h h' : H) : Prop where
  size : h.size ≤ h'.size
  eq : ∀ b, b < h.size → ¬ S b → h'[b]? = h[b]?
abbrev none_ : Nat → Prop := fun _ => False
theorem Ext.refl (S : Nat → Prop) (h : H) : Ext S h h := ⟨Nat.le_refl _, fun _ _ _ => rfl⟩
theorem Ext.trans {S : Nat → Prop} {h h' h'' : H} (a : Ext S h h') (b : Ext S h' h'') : Ext S h h'' :=
  ⟨Nat.le_trans a.size b.size, fun x hx hs => by rw [b.eq x (Nat.lt_of_lt_of_le hx a.size) hs, a.eq x hx hs]⟩
theorem Ext.mono {S T : Nat → Prop} {h h' : H} (a : Ext S h h') (st : ∀ b, b < h.size → S b → T b) : Ext T h h' :=
  ⟨a.size, fun x hx hs => a.eq x hx fun h => hs (st x hx h)⟩
/-- A change of blocks that are new, or allowed, is no change of old ones. -/
theorem Ext.comp {S T : Nat → Prop} {h h' h'' : H} (a : Ext S h h') (b : Ext T h' h'') (st : ∀ x, x < h.size → T x → S x) : Ext S h h'' :=
  ⟨Nat.le_trans a.size b.size, fun x hx hs => by rw [b.eq x (Nat.lt_of_lt_of_le hx a.size) (fun t => hs (st x hx t)), a.eq x hx hs]⟩
theorem Ext.blk {S : Nat → Prop} {h h' : H} (a : Ext S h h') {b : Nat} {vs : List Value} (k : Blk h b vs) (hb : ¬ S b) : Blk h' b vs := k.of_eq (a.eq b k.lt hb)
theorem Ext.wr (h : H) (b o : Nat) (xs : List Value) : Ext (fun x => x = b) h (hwr h ⟨b, o, none⟩ xs) :=
  ⟨by rw [hwr_size]; exact Nat.le_refl _, fun x _ hx => hwr_ne h _ xs hx⟩
theorem hnew.size {h h' : H} {b : Nat} {c : List Value} (n : hnew h b c h') : h'.size = h.size + 1 := by
  obtain ⟨_, t, lo, hi, _, rfl⟩ := n; simp
theorem hnew.b {h h' : H} {b : Nat} {c : List Value} (n : hnew h b c h') : b = h.size := n.1
theorem hnew.ext {h h' : H} {b : Nat} {c : List Value} (n : hnew h b c h') : Ext none_ h h' := by
  refine ⟨by rw [n.size]; omega, ?_⟩
  obtain ⟨_, t, lo, hi, _, rfl⟩ := n
  intro x hx _
  rw [Array.getElem?_push]; rw [if_neg (by omega)]
theorem hnew.blk {h h' : H} {b : Nat} {c : List Value} (n : hnew h b c h') : Blk h' b c := by
  obtain ⟨rfl, t, lo, hi, hf, rfl⟩ := n
  exact ⟨t, lo, hi, by simp, hf⟩
/-! ### Rows of integers -/
@[simp] theorem ints_nil (k : IntKind) : ints k [] = [] := rfl
@[simp] theorem ints_cons (k : IntKind) (n : Int) (r : List Int) : ints k (n :: r) = .int k n :: ints k r := rfl
@[simp] theorem ints_length (k : IntKind) (ns : List Int) : (ints k ns).length = ns.length := by simp [ints]
@[simp] theorem ints_append (k : IntKind) (a b : List Int) : ints k (a ++ b) = ints k a ++ ints k b := by simp [ints]
theorem ints_get (k : IntKind) (ns : List Int) (i : Nat) : (ints k ns)[i]? = ns[i]?.map (Value.int k) := by simp [ints]
@[simp] theorem zeros_length (n : Nat) : (zeros n).length = n := by simp [zeros]
theorem Blk.hrow {h : H} {b : Nat} {vs : List Value} (k : Blk h b vs) {o : Nat} {kd : IntKind} {ns : List Int} (e : ∀ i, i < ns.length → vs[o + i]? = ns[i]?.map (Value.int kd)) : hrow h ⟨b, o, none⟩ kd ns := by
  apply k.hcs
  intro i hi
  rw [e i (by simpa using hi), ints_get]
@[simp] theorem oneCell_int (k : IntKind) (n : Int) : (Value.int k n).oneCell' = true := rfl
end Go.Vc
end

/- Slices: what they hold, who owns it, and appending. Own work; generic over any program. -/
section
set_option linter.unusedVariables false
namespace Go.Vc

theorem hc_congr {h h' : H} {a : Addr} (e : h'[a.block]? = h[a.block]?) : hc h' a = hc h a := by simp only [hc, e]
theorem hc_lt {h : H} {a : Addr} {v : Value} (e : hc h a = some v) : a.block < h.size := by
  rcases Nat.lt_or_ge a.block h.size with k | k
  · exact k
  · simp [hc, Array.getElem?_eq_none k] at e
theorem hc_ext {S : Nat → Prop} {h h' : H} (x : Ext S h h') {a : Addr} {v : Value} (e : hc h a = some v) (hs : ¬ S a.block) : hc h' a = some v := by
  rw [hc_congr (x.eq _ (hc_lt e) hs), e]
theorem hcs_ext {S : Nat → Prop} {h h' : H} (x : Ext S h h') {a : Addr} {vs : List Value} (e : hcs h a vs) (hs : ¬ S a.block) : hcs h' a vs := by
  intro i v hv
  exact hc_ext x (e i v hv) (by rw [add_block]; exact hs)
theorem hsv_ext {S : Nat → Prop} {h h' : H} (x : Ext S h h') {p : Option Addr} {sz l : Nat} {vs : List Value} (e : hsv h p sz l vs) (hs : ∀ q, p = some q → ¬ S q.block) : hsv h' p sz l vs := by
  obtain ⟨h1, h2, h3⟩ := e
  refine ⟨h1, h2, ?_⟩
  rcases h3 with h3 | ⟨q, hq, h3⟩
  · exact Or.inl h3
  · exact Or.inr ⟨q, hq, hcs_ext x h3 (hs q hq)⟩
theorem hsv_none {h : H} {sz l : Nat} {vs : List Value} (e : hsv h none sz l vs) : vs = [] := by
  obtain ⟨_, _, h3⟩ := e
  rcases h3 with h3 | ⟨q, hq, _⟩
  · exact h3
  · cases hq
theorem hsv_get {h : H} {p : Option Addr} {sz l : Nat} {vs : List Value} (e : hsv h p sz l vs) {i : Nat} {v : Value} (hi : vs[i]? = some v) : ∃ q, p = some q ∧ hc h (q.add i) = some v := by
  obtain ⟨_, _, h3⟩ := e
  rcases h3 with h3 | ⟨q, hq, h3⟩
  · subst h3; simp at hi
  · exact ⟨q, hq, h3 i v hi⟩
/-- A slice whose cells lie at the head of a block of their own (bs: that block, if there is one). -/
def OwnS (h : H) (p : Option Addr) (l c sz : Nat) (vs : List Value) (bs : List Nat) : Prop :=
  vs.length = l * sz ∧ l ≤ c ∧ (∀ v, v ∈ vs → v.oneCell' = true) ∧
    ((l = 0 ∧ c = 0 ∧ bs = []) ∨ ∃ b rest, p = some ⟨b, 0, none⟩ ∧ bs = [b] ∧ Blk h b (vs ++ rest) ∧ (c - l) * sz ≤ rest.length)
theorem OwnS.hsv {h : H} {p : Option Addr} {l c sz : Nat} {vs : List Value} {bs : List Nat} (o : OwnS h p l c sz vs bs) : hsv h p sz l vs := by
  obtain ⟨h1, h2, h3, h4⟩ := o
  refine ⟨h1, h3, ?_⟩
  rcases h4 with ⟨rfl, _, _⟩ | ⟨b, rest, rfl, _, k, _⟩
  · left; apply List.eq_nil_of_length_eq_zero; simp [h1]
  · right
    exact ⟨_, rfl, k.hcs fun i hi => by rw [Nat.zero_add, List.getElem?_append_left hi]⟩
theorem OwnS.lt {h : H} {p : Option Addr} {l c sz : Nat} {vs : List Value} {bs : List Nat} (o : OwnS h p l c sz vs bs) : ∀ b, b ∈ bs → b < h.size := by
  obtain ⟨_, _, _, h4⟩ := o
  rcases h4 with ⟨_, _, rfl⟩ | ⟨b, rest, _, rfl, k, _⟩
  · intro b hb; simp at hb
  · intro b' hb; simp at hb; subst hb; exact k.lt
theorem OwnS.ext {S : Nat → Prop} {h h' : H} (x : Ext S h h') {p : Option Addr} {l c sz : Nat} {vs : List Value} {bs : List Nat} (o : OwnS h p l c sz vs bs) (hs : ∀ b, b ∈ bs → ¬ S b) : OwnS h' p l c sz vs bs := by
  obtain ⟨h1, h2, h3, h4⟩ := o
  refine ⟨h1, h2, h3, ?_⟩
  rcases h4 with h4 | ⟨b, rest, hp, rfl, k, hr⟩
  · exact Or.inl h4
  · exact Or.inr ⟨b, rest, hp, rfl, x.blk k (hs b (by simp)), hr⟩
theorem OwnS.nil (h : H) (p : Option Addr) (sz : Nat) : OwnS h p 0 0 sz [] [] := ⟨by simp, Nat.le_refl _, by simp, Or.inl ⟨rfl, rfl, rfl⟩⟩

theorem flatten_replicate_length {α : Type} (n : Nat) (z : List α) : (List.replicate n z).flatten.length = n * z.length := by
  induction n with
  | zero => simp
  | succ n ih => simp [List.replicate_succ, Nat.succ_mul, ih]; omega

/-- Blocks that are new. -/
def newB (h : H) (bs : List Nat) : Prop := ∀ b, b ∈ bs → h.size ≤ b
theorem newB.ext {S : Nat → Prop} {h h' : H} (x : Ext S h h') {bs : List Nat} (n : newB h' bs) : newB h bs := fun b hb => Nat.le_trans x.size (n b hb)

/-- Cells are appended to an empty slice without room. -/
theorem pApp_empty {h : H} {sz : Nat} {z : List Value} {B : Nat} {p : Option Addr} {n : Nat} {vs : List Value} {K : Option Addr → Nat → Nat → H → Prop}
    (hl : vs.length = n * sz) (hz : z.length = sz) (hv : ∀ v, v ∈ vs → v.oneCell' = true) (hb : n * B ≤ 2 ^ 47)
    (hk : ∀ p' c' h' bs, Ext none_ h h' → OwnS h' p' n c' sz vs bs → newB h bs → K p' n c' h') : pApp h sz z B p 0 0 n vs K := by
  unfold pApp
  by_cases hn : n = 0
  · subst hn
    have hv0 : vs = [] := List.eq_nil_of_length_eq_zero (by simp [hl])
    subst hv0
    rw [if_pos (by simp)]
    refine ⟨Or.inl rfl, fun h' e => ?_⟩
    have e' : h' = h := by rw [e]; cases p <;> rfl
    subst e'
    exact hk _ _ _ [] (Ext.refl _ _) (OwnS.nil _ _ _) (by intro b hb; simp at hb)
  · rw [if_neg (by omega)]
    refine ⟨by simpa using hb, [], ⟨by simp, by simp, Or.inl rfl⟩, fun c' b h' hc hw => ?_⟩
    have : (0 + n) = n := by omega
    rw [this] at hc ⊢
    refine hk _ _ _ [b] hw.ext ⟨hl, hc, hv, Or.inr ⟨b, (List.replicate (c' - (0 + n)) z).flatten, rfl, rfl, ?_, ?_⟩⟩ ?_
    · simpa using hw.blk
    · rw [flatten_replicate_length, hz, this]; exact Nat.le_refl _
    · intro x hx; simp at hx; subst hx; rw [hw.b]; exact Nat.le_refl _

/-- Cells are appended to a slice that is owned. -/
theorem pApp_own {h : H} {sz : Nat} {z : List Value} {B : Nat} {p : Option Addr} {l c n : Nat} {old vs : List Value} {bs : List Nat} {K : Option Addr → Nat → Nat → H → Prop}
    (o : OwnS h p l c sz old bs) (hl : vs.length = n * sz) (hz : z.length = sz) (hv : ∀ v, v ∈ vs → v.oneCell' = true) (hb : (l + n) * B ≤ 2 ^ 47)
    (hk : ∀ p' c' h' bs', Ext (fun b => b ∈ bs) h h' → OwnS h' p' (l + n) c' sz (old ++ vs) bs' → (∀ b, b ∈ bs' → b ∈ bs ∨ h.size ≤ b) → K p' (l + n) c' h') : pApp h sz z B p l c n vs K := by
  have ohs := o.hsv
  have olt := o.lt
  obtain ⟨h1, h2, h3, h4⟩ := o
  have hov : ∀ v, v ∈ old ++ vs → v.oneCell' = true := by
    intro v hm; rcases List.mem_append.1 hm with hm | hm
    · exact h3 v hm
    · exact hv v hm
  have hlen : (old ++ vs).length = (l + n) * sz := by simp [h1, hl, Nat.add_mul]
  unfold pApp
  split
  · rename_i hroom
    rcases h4 with ⟨rfl, rfl, rfl⟩ | ⟨b, rest, rfl, rfl, k, hr⟩
    · have hn : n = 0 := by omega
      subst hn
      have hv0 : vs = [] := List.eq_nil_of_length_eq_zero (by simp [hl])
      have ho0 : old = [] := List.eq_nil_of_length_eq_zero (by simp [h1])
      subst hv0; subst ho0
      refine ⟨Or.inl rfl, fun h' e => ?_⟩
      have e' : h' = h := by rw [e]; cases p <;> rfl
      subst e'
      exact hk _ _ _ [] (Ext.refl _ _) (OwnS.nil _ _ _) (by intro b hb; simp at hb)
    · have hnr : n * sz ≤ rest.length := by
        have : n * sz ≤ (c - l) * sz := Nat.mul_le_mul_right _ (by omega)
        omega
      refine ⟨Or.inr ⟨_, rfl, ?_⟩, fun h' e => ?_⟩
      · rw [add_mk]; apply k.can; simp [h1]; omega
      · simp only [Option.map_some, hwrO, add_mk, Nat.zero_add] at e
        have hs : splice (old ++ rest) (l * sz) vs = (old ++ vs) ++ rest.drop (n * sz) := by
          have : old ++ rest = old ++ rest.take (n * sz) ++ rest.drop (n * sz) := by simp
          rw [this, ← h1, splice_append]
          simp [hl, Nat.min_eq_left hnr]
        have kb := k.wr (l * sz) vs
        rw [hs] at kb
        subst e
        refine hk _ _ _ [b] ⟨by rw [hwr_size]; exact Nat.le_refl _, fun x _ hx => hwr_ne _ _ _ (by simpa using hx)⟩ ⟨hlen, hroom, hov, Or.inr ⟨b, rest.drop (n * sz), rfl, rfl, kb, ?_⟩⟩ (fun x hx => Or.inl hx)
        simp
        have : c - (l + n) = (c - l) - n := by omega
        rw [this, Nat.sub_mul]; omega
  · rename_i hroom
    refine ⟨hb, old, ohs, fun c' b h' hc hw => ?_⟩
    refine hk _ _ _ [b] (hw.ext.mono fun _ _ hf => hf.elim) ⟨hlen, hc, hov, Or.inr ⟨b, (List.replicate (c' - (l + n)) z).flatten, rfl, rfl, ?_, ?_⟩⟩ ?_
    · exact hw.blk
    · rw [flatten_replicate_length, hz]; exact Nat.le_refl _
    · intro x hx; simp at hx; subst hx; right; rw [hw.b]; exact Nat.le_refl _
end Go.Vc
end

/- Loops that count up. Own work; generic over any program. -/
section
set_option linter.unusedVariables false
namespace Go.Vc
abbrev si (i : Nat) : SV := .dv (.one (.int .i64 (i : Int)))
theorem loop_up {J : List SV → H → Prop} (N : Nat) (Inv : Nat → H → Prop) (step : ∀ i h, i < N → Inv i h → (∀ h', Inv (i + 1) h' → J [si (i + 1)] h') → J [si i] h)
    (exit : ∀ h, Inv N h → J [si N] h) (i : Nat) (h : H) (hi : i ≤ N) (inv : Inv i h) : J [si i] h := by
  generalize e : N - i = n
  induction n generalizing i h with
  | zero =>
    have : i = N := by omega
    subst this; exact exit h inv
  | succ n ih => exact step i h (by omega) inv fun h' inv' => ih (i + 1) h' (by omega) inv' (by omega)
theorem wrap_succ {i : Nat} (h : i < 2 ^ 62) : IntKind.i64.wrap ((i : Int) + 1) = ((i + 1 : Nat) : Int) := by
  rw [IntKind.wrap_i64]; omega
theorem wrap_id {n : Int} (h : -(2 ^ 62) ≤ n ∧ n ≤ 2 ^ 62) : IntKind.i64.wrap n = n := by
  rw [IntKind.wrap_i64]; omega
/-- The first i entries are mapped. -/
def mapTo (g : Nat → Int → Int) (i : Nat) (ns : List Int) : List Int := ns.mapIdx fun j v => if j < i then g j v else v
@[simp] theorem mapTo_length (g : Nat → Int → Int) (i : Nat) (ns : List Int) : (mapTo g i ns).length = ns.length := by simp [mapTo]
theorem mapTo_get (g : Nat → Int → Int) (i : Nat) (ns : List Int) (j : Nat) : (mapTo g i ns)[j]? = ns[j]?.map fun v => if j < i then g j v else v := by simp [mapTo]
@[simp] theorem mapTo_zero (g : Nat → Int → Int) (ns : List Int) : mapTo g 0 ns = ns := by
  apply List.ext_getElem?; intro j; rw [mapTo_get]; simp
theorem ints_set (k : IntKind) (ns : List Int) (i : Nat) (n : Int) : (ints k ns).set i (.int k n) = ints k (ns.set i n) := by simp [ints, List.map_set]
end Go.Vc
end

/- Assertions: a list of things that own blocks, none twice; all else is as it was in a base heap. Own work; generic over any program. -/
section
set_option linter.unusedVariables false
namespace Go.Vc

@[simp] theorem oneCell_slice (p : Option Addr) (l c : Nat) : (Value.slice p l c).oneCell' = true := rfl
@[simp] theorem oneCell_bool (b : Bool) : (Value.bool b).oneCell' = true := rfl
@[simp] theorem oneCell_ptr (p : Option Addr) : (Value.pointer p).oneCell' = true := rfl
@[simp] theorem oneCell_str (s : ByteArray) : (Value.string s).oneCell' = true := rfl

inductive Tag where
  | blk (b : Nat) (vs : List Value)
  | sl (p : Option Addr) (l c sz : Nat) (vs : List Value)
  | of (n : Nat)

/-- Something that lies in memory: what it says of a heap and of the blocks that it owns. -/
structure Ent where
  tag : Tag
  P : H → (Nat → Prop) → Prop
  st : ∀ {h h' : H} {f : Nat → Prop}, P h f → (∀ b, f b → h'[b]? = h[b]?) → P h' f
  lt : ∀ {h : H} {f : Nat → Prop} {b : Nat}, P h f → f b → b < h.size

def SatX : List Ent → H → (Nat → Prop) → Prop
  | [], _, O => ∀ b, ¬ O b
  | e :: A, h, O => ∃ f g, e.P h f ∧ SatX A h g ∧ (∀ b, f b → ¬ g b) ∧ (∀ b, O b ↔ f b ∨ g b)

theorem SatX.st {A : List Ent} {h h' : H} {O : Nat → Prop} (s : SatX A h O) (e : ∀ b, O b → h'[b]? = h[b]?) : SatX A h' O := by
  induction A generalizing O with
  | nil => exact s
  | cons x A ih =>
    obtain ⟨f, g, hp, hg, hd, ho⟩ := s
    exact ⟨f, g, x.st hp fun b hb => e b ((ho b).2 (Or.inl hb)), ih hg fun b hb => e b ((ho b).2 (Or.inr hb)), hd, ho⟩
theorem SatX.lt {A : List Ent} {h : H} {O : Nat → Prop} (s : SatX A h O) {b : Nat} (hb : O b) : b < h.size := by
  induction A generalizing O with
  | nil => exact absurd hb (s b)
  | cons x A ih =>
    obtain ⟨f, g, hp, hg, hd, ho⟩ := s
    rcases (ho b).1 hb with k | k
    · exact x.lt hp k
    · exact ih hg k
theorem SatX.iff {A : List Ent} {h : H} {O O' : Nat → Prop} (s : SatX A h O) (e : ∀ b, O b ↔ O' b) : SatX A h O' := by
  have : O = O' := funext fun b => propext (e b)
  exact this ▸ s
theorem SatX.append {A B : List Ent} {h : H} {O : Nat → Prop} : SatX (A ++ B) h O ↔ ∃ f g, SatX A h f ∧ SatX B h g ∧ (∀ b, f b → ¬ g b) ∧ (∀ b, O b ↔ f b ∨ g b) := by
  induction A generalizing O with
  | nil =>
    constructor
    · intro s; exact ⟨fun _ => False, O, fun _ x => x, s, fun _ x => x.elim, fun b => by simp⟩
    · rintro ⟨f, g, hf, hg, _, ho⟩
      refine hg.iff fun b => ?_
      rw [ho]; constructor
      · exact Or.inr
      · rintro (k | k)
        · exact absurd k (hf b)
        · exact k
  | cons x A ih =>
    constructor
    · rintro ⟨f, g, hp, hg, hd, ho⟩
      obtain ⟨f', g', h1, h2, h3, h4⟩ := ih.1 hg
      refine ⟨fun b => f b ∨ f' b, g', ⟨f, f', hp, h1, fun b k k' => hd b k ((h4 b).2 (Or.inl k')), fun b => Iff.rfl⟩, h2, ?_, ?_⟩
      · rintro b (k | k) k'
        · exact hd b k ((h4 b).2 (Or.inr k'))
        · exact h3 b k k'
      · intro b; rw [ho, h4, or_assoc]
    · rintro ⟨f, g, ⟨f1, f2, hp, h1, h2, h3⟩, hg, hd, ho⟩
      refine ⟨f1, fun b => f2 b ∨ g b, hp, ih.2 ⟨f2, g, h1, hg, fun b k k' => hd b ((h3 b).2 (Or.inr k)) k', fun b => Iff.rfl⟩, ?_, ?_⟩
      · rintro b k (k' | k')
        · exact h2 b k k'
        · exact hd b ((h3 b).2 (Or.inl k)) k'
      · intro b; rw [ho, h3, or_assoc]

/-- The thing at a place of the list. -/
inductive At : List Ent → Nat → Ent → Prop where
  | z {A : List Ent} {e : Ent} : At (e :: A) 0 e
  | s {A : List Ent} {e x : Ent} {i : Nat} : At A i e → At (x :: A) (i + 1) e
def put : List Ent → Nat → Ent → List Ent
  | [], _, _ => []
  | _ :: A, 0, e => e :: A
  | x :: A, i + 1, e => x :: put A i e
@[simp] theorem put_zero (x e : Ent) (A : List Ent) : put (x :: A) 0 e = e :: A := rfl
@[simp] theorem put_succ (x e : Ent) (A : List Ent) (i : Nat) : put (x :: A) (i + 1) e = x :: put A i e := rfl
theorem At.put {A : List Ent} {i : Nat} {e : Ent} (a : At A i e) (x : Ent) : At (Vc.put A i x) i x := by
  induction a with
  | z => exact .z
  | s _ ih => exact .s ih
@[simp] theorem put_put (A : List Ent) (i : Nat) (x y : Ent) : put (put A i x) i y = put A i y := by
  induction A generalizing i with
  | nil => rfl
  | cons a A ih => cases i with
    | zero => rfl
    | succ i => simp [ih]
theorem At.put_self {A : List Ent} {i : Nat} {e : Ent} (a : At A i e) : Vc.put A i e = A := by
  induction a with
  | z => rfl
  | s _ ih => simp [ih]

/-- A thing taken out of the list, and another one put in its place. -/
theorem SatX.take {A : List Ent} {i : Nat} {e : Ent} (a : At A i e) {h : H} {O : Nat → Prop} (s : SatX A h O) :
    ∃ f g : Nat → Prop, e.P h f ∧ (∀ b, f b → ¬ g b) ∧ (∀ b, O b ↔ f b ∨ g b) ∧
      ∀ (e' : Ent) (h' : H) (f' : Nat → Prop), e'.P h' f' → (∀ b, g b → h'[b]? = h[b]?) → (∀ b, f' b → ¬ g b) → SatX (Vc.put A i e') h' (fun b => f' b ∨ g b) := by
  induction a generalizing O with
  | z =>
    obtain ⟨f, g, hp, hg, hd, ho⟩ := s
    exact ⟨f, g, hp, hd, ho, fun e' h' f' hp' hsame hd' => ⟨f', g, hp', hg.st hsame, hd', fun b => Iff.rfl⟩⟩
  | s a ih =>
    obtain ⟨f, g, hp, hg, hd, ho⟩ := s
    obtain ⟨f1, g1, h1, h2, h3, h4⟩ := ih hg
    refine ⟨f1, fun b => f b ∨ g1 b, h1, ?_, ?_, ?_⟩
    · rintro b k (k' | k')
      · exact hd b k' ((h3 b).2 (Or.inl k))
      · exact h2 b k k'
    · intro b; rw [ho, h3]; constructor
      · rintro (k | k | k) <;> simp [k]
      · rintro (k | k | k) <;> simp [k]
    · intro e' h' f' hp' hsame hd'
      refine ⟨f, fun b => f' b ∨ g1 b, Ent.st _ hp fun b k => hsame b (Or.inl k), h4 e' h' f' hp' (fun b k => hsame b (Or.inr k)) (fun b k k' => hd' b k (Or.inr k')), ?_, ?_⟩
      · rintro b k (k' | k')
        · exact hd' b k' (Or.inl k)
        · exact hd b k ((h3 b).2 (Or.inr k'))
      · intro b; constructor
        · rintro (k | k | k) <;> simp [k]
        · rintro (k | k | k) <;> simp [k]

/-! ### With a base -/
/-- The things lie in new blocks; all blocks of the base heap are as they were. -/
def Sat (h0 : H) (A : List Ent) (h : H) : Prop := Ext none_ h0 h ∧ ∃ O, SatX A h O ∧ ∀ b, O b → h0.size ≤ b

theorem Sat.init (h : H) : Sat h [] h := ⟨Ext.refl _ _, fun _ => False, fun _ x => x, fun _ x => x.elim⟩
theorem Sat.ex {h0 h : H} {A : List Ent} (s : Sat h0 A h) : Ext none_ h0 h := s.1
theorem Sat.ext {h0 h h' : H} {A : List Ent} (s : Sat h0 A h) (x : Ext none_ h h') : Sat h0 A h' := by
  obtain ⟨s1, O, s2, s3⟩ := s
  exact ⟨s1.trans x, O, s2.st fun b hb => x.eq b (s2.lt hb) (fun y => y), s3⟩
theorem Sat.add {h0 h h' : H} {A : List Ent} (s : Sat h0 A h) (x : Ext none_ h h') {e : Ent} {f : Nat → Prop} (p : e.P h' f) (n : ∀ b, f b → h.size ≤ b) : Sat h0 (e :: A) h' := by
  obtain ⟨s1, O, s2, s3⟩ := s
  refine ⟨s1.trans x, fun b => f b ∨ O b, ⟨f, O, p, s2.st fun b hb => x.eq b (s2.lt hb) (fun y => y), ?_, fun b => Iff.rfl⟩, ?_⟩
  · intro b k k'; have := n b k; have := s2.lt k'; omega
  · rintro b (k | k)
    · have := n b k; have := s1.size; omega
    · exact s3 b k
theorem Sat.drop {h0 h : H} {A : List Ent} {e : Ent} (s : Sat h0 (e :: A) h) : Sat h0 A h := by
  obtain ⟨s1, O, ⟨f, g, _, hg, _, ho⟩, s3⟩ := s
  exact ⟨s1, g, hg, fun b hb => s3 b ((ho b).2 (Or.inr hb))⟩
theorem Sat.sub {h0 h : H} {A B : List Ent} (s : Sat h0 A h) (p : B.Sublist A) : Sat h0 B h := by
  obtain ⟨s1, O, s2, s3⟩ := s
  have : ∃ O', SatX B h O' ∧ ∀ b, O' b → O b := by
    clear s3
    induction p generalizing O with
    | slnil => exact ⟨O, s2, fun _ x => x⟩
    | cons a _ ih =>
      obtain ⟨f, g, hp, hg, hd, ho⟩ := s2
      obtain ⟨O', h1, h2⟩ := ih g hg
      exact ⟨O', h1, fun b hb => (ho b).2 (Or.inr (h2 b hb))⟩
    | cons_cons a _ ih =>
      obtain ⟨f, g, hp, hg, hd, ho⟩ := s2
      obtain ⟨O', h1, h2⟩ := ih g hg
      exact ⟨fun b => f b ∨ O' b, ⟨f, O', hp, h1, fun b k k' => hd b k (h2 b k'), fun b => Iff.rfl⟩, fun b hb => (ho b).2 (hb.imp id (h2 b))⟩
  obtain ⟨O', h1, h2⟩ := this
  exact ⟨s1, O', h1, fun b hb => s3 b (h2 b hb)⟩
theorem Sat.nil {h0 h : H} {A : List Ent} (s : Sat h0 A h) : Sat h0 [] h := ⟨s.1, fun _ => False, fun _ x => x, fun _ x => x.elim⟩
theorem Sat.perm {h0 h : H} {A B : List Ent} (s : Sat h0 A h) (p : A.Perm B) : Sat h0 B h := by
  obtain ⟨s1, O, s2, s3⟩ := s
  refine ⟨s1, O, ?_, s3⟩
  clear s3
  induction p generalizing O with
  | nil => exact s2
  | cons x _ ih =>
    obtain ⟨f, g, hp, hg, hd, ho⟩ := s2
    exact ⟨f, g, hp, ih g hg, hd, ho⟩
  | swap x y l =>
    obtain ⟨f, g, hp, ⟨f1, g1, hp1, hg1, hd1, ho1⟩, hd, ho⟩ := s2
    refine ⟨f1, fun b => f b ∨ g1 b, hp1, ⟨f, g1, hp, hg1, fun b k k' => hd b k ((ho1 b).2 (Or.inr k')), fun b => Iff.rfl⟩, ?_, ?_⟩
    · rintro b k (k' | k')
      · exact hd b k' ((ho1 b).2 (Or.inl k))
      · exact hd1 b k k'
    · intro b; rw [ho, ho1]; constructor
      · rintro (k | k | k) <;> simp [k]
      · rintro (k | k | k) <;> simp [k]
  | trans _ _ ih1 ih2 => exact ih2 O (ih1 O s2)
theorem Sat.takeK {h0 h : H} {A : List Ent} (s : Sat h0 A h) {i : Nat} {e : Ent} (a : At A i e) : ∃ f : Nat → Prop, e.P h f ∧ (∀ b, f b → h0.size ≤ b) ∧
    ∀ (h' : H) (e' : Ent) (f' : Nat → Prop), e'.P h' f' → (∀ b, f' b → f b ∨ h.size ≤ b) → Ext f h h' → Sat h0 (Vc.put A i e') h' := by
  obtain ⟨s1, O, s2, s3⟩ := s
  obtain ⟨f, g, hp, hd, ho, hk⟩ := s2.take a
  refine ⟨f, hp, fun b hb => s3 b ((ho b).2 (Or.inl hb)), fun h' e' f' hp' hn hx => ?_⟩
  have hg : ∀ b, g b → b < h.size := fun b hb => s2.lt ((ho b).2 (Or.inr hb))
  refine ⟨s1.comp hx (fun b hb hf => ?_), _, hk e' h' f' hp' (fun b hb => hx.eq b (hg b hb) (fun hf => hd b hf hb)) ?_, ?_⟩
  · have := s3 b ((ho b).2 (Or.inl hf)); omega
  · intro b k1 k2
    rcases hn b k1 with k | k
    · exact hd b k k2
    · have := hg b k2; omega
  · rintro b (k1 | k1)
    · rcases hn b k1 with k | k
      · exact s3 b ((ho b).2 (Or.inl k))
      · have := s1.size; omega
    · exact s3 b ((ho b).2 (Or.inr k1))
theorem Sat.take {h0 h : H} {A : List Ent} (s : Sat h0 A h) {i : Nat} {e : Ent} (a : At A i e) : ∃ f, e.P h f ∧ ∀ b, f b → h0.size ≤ b := by
  obtain ⟨f, h1, h2, _⟩ := s.takeK a
  exact ⟨f, h1, h2⟩
/-- One thing becomes another one: only its own blocks, and new ones, change. -/
theorem Sat.upd {h0 h h' : H} {A : List Ent} (s : Sat h0 A h) {i : Nat} {e e' : Ent} (a : At A i e)
    (k : ∀ f, e.P h f → ∃ f', e'.P h' f' ∧ (∀ b, f' b → f b ∨ h.size ≤ b) ∧ Ext f h h') : Sat h0 (Vc.put A i e') h' := by
  obtain ⟨f, hp, _, hk⟩ := s.takeK a
  obtain ⟨f', h1, h2, h3⟩ := k f hp
  exact hk h' e' f' h1 h2 h3
/-- The same heap, read otherwise. -/
theorem Sat.as {h0 h : H} {A : List Ent} (s : Sat h0 A h) {i : Nat} {e e' : Ent} (a : At A i e) (k : ∀ f, e.P h f → e'.P h f) : Sat h0 (Vc.put A i e') h :=
  s.upd a fun f hp => ⟨f, k f hp, fun _ => Or.inl, Ext.refl _ _⟩

/-! ### A block; a slice -/
@[irreducible] def blkP (b : Nat) (vs : List Value) (h : H) (f : Nat → Prop) : Prop := Blk h b vs ∧ ∀ x, f x ↔ x = b
def blk (b : Nat) (vs : List Value) : Ent where
  tag := .blk b vs
  P := blkP b vs
  st := by unfold blkP; rintro h h' f ⟨k, e⟩ hs; exact ⟨k.of_eq (hs b ((e b).2 rfl)), e⟩
  lt := by unfold blkP; rintro h f x ⟨k, e⟩ hx; rw [(e x).1 hx]; exact k.lt
theorem blk_P {b : Nat} {vs : List Value} {h : H} {f : Nat → Prop} : (blk b vs).P h f ↔ Blk h b vs ∧ ∀ x, f x ↔ x = b := by
  show blkP b vs h f ↔ _; unfold blkP; rfl
@[irreducible] def slP (p : Option Addr) (l c sz : Nat) (vs : List Value) (h : H) (f : Nat → Prop) : Prop := ∃ bs, OwnS h p l c sz vs bs ∧ ∀ x, f x ↔ x ∈ bs
def slE (p : Option Addr) (l c sz : Nat) (vs : List Value) : Ent where
  tag := .sl p l c sz vs
  P := slP p l c sz vs
  st := by
    unfold slP; rintro h h' f ⟨bs, ⟨h1, h2, h3, h4⟩, e⟩ hs
    refine ⟨bs, ⟨h1, h2, h3, ?_⟩, e⟩
    rcases h4 with h4 | ⟨b, rest, e1, rfl, k, e2⟩
    · exact Or.inl h4
    · exact Or.inr ⟨b, rest, e1, rfl, k.of_eq (hs b ((e b).2 (by simp))), e2⟩
  lt := by unfold slP; rintro h f x ⟨bs, o, e⟩ hx; exact o.lt x ((e x).1 hx)
theorem slE_P {p : Option Addr} {l c sz : Nat} {vs : List Value} {h : H} {f : Nat → Prop} : (slE p l c sz vs).P h f ↔ ∃ bs, OwnS h p l c sz vs bs ∧ ∀ x, f x ↔ x ∈ bs := by
  show slP p l c sz vs h f ↔ _; unfold slP; rfl
/-- Moved to the front. -/
def del : List Ent → Nat → List Ent
  | [], _ => []
  | _ :: A, 0 => A
  | x :: A, i + 1 => x :: del A i
theorem At.perm {A : List Ent} {i : Nat} {e : Ent} (a : At A i e) : A.Perm (e :: del A i) := by
  induction a with
  | z => exact .refl _
  | s _ ih => exact (ih.cons _).trans (.swap _ _ _)
theorem At.perm_put {A : List Ent} {i : Nat} {e : Ent} (a : At A i e) (x : Ent) : (x :: del A i).Perm (Vc.put A i x) := by
  induction a with
  | z => exact .refl _
  | s _ ih => exact (List.Perm.swap _ _ _).trans (ih.cons _)
theorem Sat.front {h0 h : H} {A : List Ent} (s : Sat h0 A h) {i : Nat} {e : Ent} (a : At A i e) : Sat h0 (e :: del A i) h := s.perm a.perm
theorem Sat.back {h0 h : H} {A : List Ent} {i : Nat} {e x : Ent} (a : At A i e) (s : Sat h0 (x :: del A i) h) : Sat h0 (Vc.put A i x) h := s.perm (a.perm_put x)

/-! ### Steps -/
theorem Sat.new {h0 h h' : H} {A : List Ent} (s : Sat h0 A h) {b : Nat} {vs : List Value} (n : hnew h b vs h') : Sat h0 (blk b vs :: A) h' :=
  s.add n.ext (blk_P.2 ⟨n.blk, fun _ => Iff.rfl⟩) fun x hx => by rw [hx, n.b]; exact Nat.le_refl _
theorem Blk.mark {h : H} {b o : Nat} {vs : List Value} (k : Blk h b vs) : Blk (hmark h ⟨b, o, none⟩) b vs ∧ ∀ x, x ≠ b → (hmark h ⟨b, o, none⟩)[x]? = h[x]? := by
  obtain ⟨t, lo, n, hb, hf⟩ := k
  have hlt := (Array.getElem?_eq_some_iff.1 hb).1
  unfold hmark
  simp only [hb]
  refine ⟨?_, fun x hx => by rw [Array.getElem?_setIfInBounds, if_neg (fun y => hx y.symm)]⟩
  by_cases c : n = 0
  · subst c
    refine ⟨t, vs.length, 1, ?_, fun i hi' => by omega⟩
    simp [hlt]
  · have h0 := hf lo
    refine ⟨t, vs.length, (max (lo + n) (vs.length + 1)) - vs.length, ?_, fun i hi' => by omega⟩
    have e1 : (lo == lo + n) = false := by rw [beq_eq_false_iff_ne]; omega
    have e2 : min lo vs.length = vs.length := by
      rcases Nat.lt_or_ge lo vs.length with z | z
      · exact absurd ⟨Nat.le_refl _, by omega⟩ (h0 z)
      · omega
    rw [e1]
    simp [hlt]
    omega
theorem Sat.blkOf {h0 h : H} {A : List Ent} (s : Sat h0 A h) {i b : Nat} {vs : List Value} (a : At A i (blk b vs)) : Blk h b vs := by
  obtain ⟨f, hp, _⟩ := s.take a
  exact (blk_P.1 hp).1
theorem Sat.mark {h0 h h' : H} {A : List Ent} (s : Sat h0 A h) {i b o : Nat} {vs : List Value} (a : At A i (blk b vs)) (e : h' = hmark h ⟨b, o, none⟩) : Sat h0 A h' := by
  subst e
  obtain ⟨s1, O, s2, s3⟩ := s
  obtain ⟨f, g, hp, hd, ho, hk⟩ := s2.take a
  obtain ⟨k1, k2⟩ := blk_P.1 hp
  obtain ⟨m1, m2⟩ := k1.mark (o := o)
  have hb : O b := (ho b).2 (Or.inl ((k2 b).2 rfl))
  have hgb : ∀ x, g x → x ≠ b := fun x hx e => hd b ((k2 b).2 rfl) (e ▸ hx)
  have := hk (blk b vs) (hmark h ⟨b, o, none⟩) f (blk_P.2 ⟨m1, k2⟩) (fun x hx => m2 x (hgb x hx)) hd
  rw [a.put_self] at this
  refine ⟨?_, _, this, fun x hx => s3 x ((ho x).2 hx)⟩
  have hbl := s3 b hb
  refine ⟨?_, fun x hx hn => ?_⟩
  · have h1 := s1.size
    have : (hmark h ⟨b, o, none⟩).size = h.size := by unfold hmark; split <;> simp
    omega
  · rw [m2 x (by omega)]
    exact s1.eq x hx hn
theorem Sat.old {h0 h : H} {A : List Ent} (s : Sat h0 A h) {i b : Nat} {vs : List Value} (a : At A i (blk b vs)) : h0.size ≤ b := by
  obtain ⟨f, hp, hl⟩ := s.take a
  exact hl b (((blk_P.1 hp).2 b).2 rfl)
theorem Sat.ld {h0 h : H} {A : List Ent} (s : Sat h0 A h) {i b : Nat} {vs : List Value} (a : At A i (blk b vs)) {o : Nat} {v : Value} (e : vs[o]? = some v) : hc h ⟨b, o, none⟩ = some v := by
  rw [(s.blkOf a).hc, e]
theorem Sat.cs1 {h0 h : H} {A : List Ent} (s : Sat h0 A h) {i b : Nat} {vs : List Value} (a : At A i (blk b vs)) {o : Nat} {xs : List Value} (e : ∀ i, i < xs.length → vs[o + i]? = xs[i]?) : hcs h ⟨b, o, none⟩ xs := (s.blkOf a).hcs e
theorem Sat.cs {h0 h : H} {A : List Ent} (s : Sat h0 A h) {i b : Nat} {vs : List Value} (a : At A i (blk b vs)) {o : Nat} {xs : List Value} (e : (vs.drop o).take xs.length = xs) : hcs h ⟨b, o, none⟩ xs := by
  refine s.cs1 a fun i hi => ?_
  have : ((vs.drop o).take xs.length)[i]? = xs[i]? := by rw [e]
  rw [List.getElem?_take_of_lt hi, List.getElem?_drop] at this
  exact this
theorem Sat.row {h0 h : H} {A : List Ent} (s : Sat h0 A h) {i b : Nat} {vs : List Value} (a : At A i (blk b vs)) {o : Nat} {k : IntKind} {ns : List Int} (e : ∀ i, i < ns.length → vs[o + i]? = ns[i]?.map (Value.int k)) : hrow h ⟨b, o, none⟩ k ns := (s.blkOf a).hrow e
theorem Sat.can {h0 h : H} {A : List Ent} (s : Sat h0 A h) {i b : Nat} {vs : List Value} (a : At A i (blk b vs)) {o n : Nat} (e : o + n ≤ vs.length) : hcan h ⟨b, o, none⟩ n := (s.blkOf a).can e
theorem Sat.wr {h0 h h' : H} {A : List Ent} (s : Sat h0 A h) {i b : Nat} {vs : List Value} (a : At A i (blk b vs)) {o : Nat} {xs : List Value} (e : h' = hwr h ⟨b, o, none⟩ xs) : Sat h0 (Vc.put A i (blk b (splice vs o xs))) h' := by
  subst e
  refine s.upd a fun f hp => ?_
  obtain ⟨k, hf⟩ := blk_P.1 hp
  refine ⟨f, blk_P.2 ⟨k.wr o xs, hf⟩, fun _ => Or.inl, (Ext.wr h b o xs).mono fun x _ hx => (hf x).2 hx⟩
theorem Sat.sv {h0 h : H} {A : List Ent} (s : Sat h0 A h) {i : Nat} {p : Option Addr} {l c sz : Nat} {vs : List Value} (a : At A i (slE p l c sz vs)) : hsv h p sz l vs := by
  obtain ⟨f, hp, _⟩ := s.take a
  obtain ⟨bs, o, _⟩ := slE_P.1 hp
  exact o.hsv
theorem Sat.base {h0 h : H} {A : List Ent} (s : Sat h0 A h) {p : Option Addr} {sz l : Nat} {vs : List Value} (e : hsv h0 p sz l vs) : hsv h p sz l vs := hsv_ext s.1 e fun _ _ x => x
theorem Sat.own {h0 h h' : H} {A : List Ent} (s : Sat h0 A h) (x : Ext none_ h h') {p : Option Addr} {l c sz : Nat} {vs : List Value} {bs : List Nat} (o : OwnS h' p l c sz vs bs) (n : newB h bs) : Sat h0 (slE p l c sz vs :: A) h' :=
  s.add x (f := fun x => x ∈ bs) (slE_P.2 ⟨bs, o, fun _ => Iff.rfl⟩) n
/-- Cells are appended to a slice that is owned. -/
theorem Sat.app {h0 h : H} {A : List Ent} (s : Sat h0 A h) {i : Nat} {p : Option Addr} {l c n sz : Nat} {old vs z : List Value} {B : Nat} (a : At A i (slE p l c sz old)) {K : Option Addr → Nat → Nat → H → Prop}
    (hl : vs.length = n * sz) (hz : z.length = sz) (hv : ∀ v, v ∈ vs → v.oneCell' = true) (hb : (l + n) * B ≤ 2 ^ 47)
    (k : ∀ p' c' h', Sat h0 (Vc.put A i (slE p' (l + n) c' sz (old ++ vs))) h' → K p' (l + n) c' h') : pApp h sz z B p l c n vs K := by
  obtain ⟨f, hp, _, hk⟩ := s.takeK a
  obtain ⟨bs, o, hf⟩ := slE_P.1 hp
  refine pApp_own o hl hz hv hb fun p' c' h' bs' hx ho hn => k _ _ _ ?_
  refine hk h' _ (fun x => x ∈ bs') (slE_P.2 ⟨bs', ho, fun _ => Iff.rfl⟩) (fun b hb => ?_) (hx.mono fun x _ hx => (hf x).2 hx)
  rcases hn b hb with h1 | h1
  · exact Or.inl ((hf b).2 h1)
  · exact Or.inr h1
/-- Cells appended to an empty slice without room. -/
theorem Sat.app_new {h0 h : H} {A : List Ent} (s : Sat h0 A h) {p : Option Addr} {n sz : Nat} {vs z : List Value} {B : Nat} {K : Option Addr → Nat → Nat → H → Prop}
    (hl : vs.length = n * sz) (hz : z.length = sz) (hv : ∀ v, v ∈ vs → v.oneCell' = true) (hb : n * B ≤ 2 ^ 47)
    (k : ∀ p' c' h', Sat h0 (slE p' n c' sz vs :: A) h' → K p' n c' h') : pApp h sz z B p 0 0 n vs K :=
  pApp_empty hl hz hv hb fun p' c' h' bs x o nb => k p' c' h' (s.own x o nb)
theorem At.app {A B : List Ent} {i : Nat} {e : Ent} (a : At A i e) : At (A ++ B) i e := by
  induction a with
  | z => exact .z
  | s _ ih => exact .s ih
theorem At.get {A : List Ent} {i : Nat} {e : Ent} (h : A[i]? = some e) : At A i e := by
  induction A generalizing i with
  | nil => simp at h
  | cons x A ih => cases i with
    | zero => simp at h; subst h; exact .z
    | succ i => exact .s (ih (by simpa using h))
end Go.Vc
end
