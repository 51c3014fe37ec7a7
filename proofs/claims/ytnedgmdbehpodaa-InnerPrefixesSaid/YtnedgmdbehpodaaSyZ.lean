/- Closed facts of the seat program for the canonical machine: printed by facts.py. -/
import Derived.Test.YtnedgmdbehpodaaSyX
import Derived.Test.YtnedgmdbehpodaaRows
import Derived.KernelRfl
namespace Go.Proofs.Ytnedgmdbehpodaa
open Go Go.Sy

theorem mixed : Try.prog.follows .mixedOrders = true := by kernel_rfl
@[go_sem] theorem sz2 : szOf Try.prog 2 = some 1 := by kernel_rfl
@[go_sem] theorem ag2 : aggT Try.prog 2 = false := by kernel_rfl
@[go_sem] theorem by2 : Try.prog.bytesOf 2 = 8 := by kernel_rfl
@[go_sem] theorem un2 : (Try.prog.underlying 2).isNone = false := by kernel_rfl
@[go_sem] theorem zo2 : zerosOf Try.prog 2 = some [.int .i64 0] := by kernel_rfl
attribute [go_sem] Try.underlying2
@[go_sem] theorem eql2 (d : Nat) (k : IntKind) (a b : Int) : eqV Try.prog (d + 1) 2 (.int k a) (.int k b) = some (a == b) := eqV_int Try.underlying2 d k a b
@[go_sem] theorem sz3 : szOf Try.prog 3 = some 1 := by kernel_rfl
@[go_sem] theorem ag3 : aggT Try.prog 3 = false := by kernel_rfl
@[go_sem] theorem by3 : Try.prog.bytesOf 3 = 8 := by kernel_rfl
@[go_sem] theorem un3 : (Try.prog.underlying 3).isNone = false := by kernel_rfl
@[go_sem] theorem zo3 : zerosOf Try.prog 3 = some [.int .i64 0] := by kernel_rfl
attribute [go_sem] Try.underlying3
@[go_sem] theorem eql3 (d : Nat) (k : IntKind) (a b : Int) : eqV Try.prog (d + 1) 3 (.int k a) (.int k b) = some (a == b) := eqV_int Try.underlying3 d k a b
@[go_sem] theorem sz4 : szOf Try.prog 4 = some 1 := by kernel_rfl
@[go_sem] theorem ag4 : aggT Try.prog 4 = false := by kernel_rfl
@[go_sem] theorem by4 : Try.prog.bytesOf 4 = 1 := by kernel_rfl
@[go_sem] theorem un4 : (Try.prog.underlying 4).isNone = false := by kernel_rfl
@[go_sem] theorem zo4 : zerosOf Try.prog 4 = some [.bool false] := by kernel_rfl
attribute [go_sem] Try.underlying4
@[go_sem] theorem eql4 (d : Nat) (a b : Bool) : eqV Try.prog (d + 1) 4 (.bool a) (.bool b) = some (a == b) := eqV_bool Try.underlying4 d a b
@[go_sem] theorem sz5 : szOf Try.prog 5 = some 1 := by kernel_rfl
@[go_sem] theorem ag5 : aggT Try.prog 5 = false := by kernel_rfl
@[go_sem] theorem by5 : Try.prog.bytesOf 5 = 1 := by kernel_rfl
@[go_sem] theorem un5 : (Try.prog.underlying 5).isNone = false := by kernel_rfl
@[go_sem] theorem zo5 : zerosOf Try.prog 5 = some [.int .u8 0] := by kernel_rfl
attribute [go_sem] Try.underlying5
@[go_sem] theorem eql5 (d : Nat) (k : IntKind) (a b : Int) : eqV Try.prog (d + 1) 5 (.int k a) (.int k b) = some (a == b) := eqV_int Try.underlying5 d k a b
@[go_sem] theorem sz6 : szOf Try.prog 6 = some 1 := by kernel_rfl
@[go_sem] theorem ag6 : aggT Try.prog 6 = false := by kernel_rfl
@[go_sem] theorem by6 : Try.prog.bytesOf 6 = 1 := by kernel_rfl
@[go_sem] theorem un6 : (Try.prog.underlying 6).isNone = false := by kernel_rfl
@[go_sem] theorem zo6 : zerosOf Try.prog 6 = some [.int .u8 0] := by kernel_rfl
attribute [go_sem] Try.underlying6
@[go_sem] theorem eql6 (d : Nat) (k : IntKind) (a b : Int) : eqV Try.prog (d + 1) 6 (.int k a) (.int k b) = some (a == b) := eqV_int Try.underlying6 d k a b
@[go_sem] theorem sz7 : szOf Try.prog 7 = some 4 := by kernel_rfl
@[go_sem] theorem ag7 : aggT Try.prog 7 = true := by kernel_rfl
@[go_sem] theorem by7 : Try.prog.bytesOf 7 = 24 := by kernel_rfl
@[go_sem] theorem un7 : (Try.prog.underlying 7).isNone = false := by kernel_rfl
@[go_sem] theorem zo7 : zerosOf Try.prog 7 = some [.int .i64 0, .int .i64 0, .bool false, .int .u8 0] := by kernel_rfl
attribute [go_sem] Try.underlying7
@[go_sem] theorem gd7 : Try.prog.eqGuardType Try.prog.depth 7 = false := by kernel_rfl
@[go_sem] theorem st7 : Try.prog.stoodInHeld 7 = false := by kernel_rfl
@[go_sem] theorem eqs7 (d : Nat) (xs ys : List CV) : eqV Try.prog (d + 1) 7 (.agg xs) (.agg ys) = eqF Try.prog d xs ys (match Try.prog.underlying 7 with | some (.struct fs) => fs.toList | _ => []) := by rw [Try.underlying7]; exact eqV_struct Try.underlying7 st7 d xs ys
@[go_sem] theorem sz8 : szOf Try.prog 8 = some 4 := by kernel_rfl
@[go_sem] theorem ag8 : aggT Try.prog 8 = true := by kernel_rfl
@[go_sem] theorem by8 : Try.prog.bytesOf 8 = 24 := by kernel_rfl
@[go_sem] theorem un8 : (Try.prog.underlying 8).isNone = false := by kernel_rfl
@[go_sem] theorem zo8 : zerosOf Try.prog 8 = some [.int .i64 0, .int .i64 0, .bool false, .int .u8 0] := by kernel_rfl
attribute [go_sem] Try.underlying8
@[go_sem] theorem gd8 : Try.prog.eqGuardType Try.prog.depth 8 = false := by kernel_rfl
@[go_sem] theorem st8 : Try.prog.stoodInHeld 8 = false := by kernel_rfl
@[go_sem] theorem eqs8 (d : Nat) (xs ys : List CV) : eqV Try.prog (d + 1) 8 (.agg xs) (.agg ys) = eqF Try.prog d xs ys (match Try.prog.underlying 8 with | some (.struct fs) => fs.toList | _ => []) := by rw [Try.underlying8]; exact eqV_struct Try.underlying8 st8 d xs ys
@[go_sem] theorem sz9 : szOf Try.prog 9 = some 1 := by kernel_rfl
@[go_sem] theorem ag9 : aggT Try.prog 9 = false := by kernel_rfl
@[go_sem] theorem by9 : Try.prog.bytesOf 9 = 16 := by kernel_rfl
@[go_sem] theorem un9 : (Try.prog.underlying 9).isNone = false := by kernel_rfl
@[go_sem] theorem zo9 : zerosOf Try.prog 9 = some [.str []] := by kernel_rfl
attribute [go_sem] Try.underlying9
@[go_sem] theorem eql9 (d : Nat) (a b : List UInt8) : eqV Try.prog (d + 1) 9 (.str a) (.str b) = some (a == b) := eqV_str Try.underlying9 d a b
@[go_sem] theorem sz10 : szOf Try.prog 10 = some 1 := by kernel_rfl
@[go_sem] theorem ag10 : aggT Try.prog 10 = false := by kernel_rfl
@[go_sem] theorem by10 : Try.prog.bytesOf 10 = 16 := by kernel_rfl
@[go_sem] theorem un10 : (Try.prog.underlying 10).isNone = false := by kernel_rfl
@[go_sem] theorem zo10 : zerosOf Try.prog 10 = some [.str []] := by kernel_rfl
attribute [go_sem] Try.underlying10
@[go_sem] theorem eql10 (d : Nat) (a b : List UInt8) : eqV Try.prog (d + 1) 10 (.str a) (.str b) = some (a == b) := eqV_str Try.underlying10 d a b
@[go_sem] theorem sz11 : szOf Try.prog 11 = some 1 := by kernel_rfl
@[go_sem] theorem ag11 : aggT Try.prog 11 = false := by kernel_rfl
@[go_sem] theorem by11 : Try.prog.bytesOf 11 = 16 := by kernel_rfl
@[go_sem] theorem un11 : (Try.prog.underlying 11).isNone = false := by kernel_rfl
@[go_sem] theorem zo11 : zerosOf Try.prog 11 = some [.str []] := by kernel_rfl
attribute [go_sem] Try.underlying11
@[go_sem] theorem eql11 (d : Nat) (a b : List UInt8) : eqV Try.prog (d + 1) 11 (.str a) (.str b) = some (a == b) := eqV_str Try.underlying11 d a b
@[go_sem] theorem sz12 : szOf Try.prog 12 = some 1 := by kernel_rfl
@[go_sem] theorem ag12 : aggT Try.prog 12 = false := by kernel_rfl
@[go_sem] theorem by12 : Try.prog.bytesOf 12 = 8 := by kernel_rfl
@[go_sem] theorem un12 : (Try.prog.underlying 12).isNone = false := by kernel_rfl
@[go_sem] theorem zo12 : zerosOf Try.prog 12 = some [.int .u64 0] := by kernel_rfl
attribute [go_sem] Try.underlying12
@[go_sem] theorem eql12 (d : Nat) (k : IntKind) (a b : Int) : eqV Try.prog (d + 1) 12 (.int k a) (.int k b) = some (a == b) := eqV_int Try.underlying12 d k a b
@[go_sem] theorem sz13 : szOf Try.prog 13 = some 2 := by kernel_rfl
@[go_sem] theorem ag13 : aggT Try.prog 13 = true := by kernel_rfl
@[go_sem] theorem by13 : Try.prog.bytesOf 13 = 24 := by kernel_rfl
@[go_sem] theorem un13 : (Try.prog.underlying 13).isNone = false := by kernel_rfl
@[go_sem] theorem zo13 : zerosOf Try.prog 13 = some [.str [], .int .u64 0] := by kernel_rfl
attribute [go_sem] Try.underlying13
@[go_sem] theorem gd13 : Try.prog.eqGuardType Try.prog.depth 13 = false := by kernel_rfl
@[go_sem] theorem sz14 : szOf Try.prog 14 = some 2 := by kernel_rfl
@[go_sem] theorem ag14 : aggT Try.prog 14 = true := by kernel_rfl
@[go_sem] theorem by14 : Try.prog.bytesOf 14 = 24 := by kernel_rfl
@[go_sem] theorem un14 : (Try.prog.underlying 14).isNone = false := by kernel_rfl
@[go_sem] theorem zo14 : zerosOf Try.prog 14 = some [.str [], .int .u64 0] := by kernel_rfl
attribute [go_sem] Try.underlying14
@[go_sem] theorem gd14 : Try.prog.eqGuardType Try.prog.depth 14 = false := by kernel_rfl
@[go_sem] theorem sz15 : szOf Try.prog 15 = some 1 := by kernel_rfl
@[go_sem] theorem ag15 : aggT Try.prog 15 = false := by kernel_rfl
@[go_sem] theorem by15 : Try.prog.bytesOf 15 = 8 := by kernel_rfl
@[go_sem] theorem un15 : (Try.prog.underlying 15).isNone = false := by kernel_rfl
@[go_sem] theorem zo15 : zerosOf Try.prog 15 = some [.nilP] := by kernel_rfl
attribute [go_sem] Try.underlying15
@[go_sem] theorem sz16 : szOf Try.prog 16 = some 1 := by kernel_rfl
@[go_sem] theorem ag16 : aggT Try.prog 16 = false := by kernel_rfl
@[go_sem] theorem by16 : Try.prog.bytesOf 16 = 8 := by kernel_rfl
@[go_sem] theorem un16 : (Try.prog.underlying 16).isNone = false := by kernel_rfl
@[go_sem] theorem zo16 : zerosOf Try.prog 16 = some [.nilP] := by kernel_rfl
attribute [go_sem] Try.underlying16
@[go_sem] theorem sz17 : szOf Try.prog 17 = some 1 := by kernel_rfl
@[go_sem] theorem ag17 : aggT Try.prog 17 = false := by kernel_rfl
@[go_sem] theorem by17 : Try.prog.bytesOf 17 = 8 := by kernel_rfl
@[go_sem] theorem un17 : (Try.prog.underlying 17).isNone = false := by kernel_rfl
@[go_sem] theorem zo17 : zerosOf Try.prog 17 = some [.nilP] := by kernel_rfl
attribute [go_sem] Try.underlying17
@[go_sem] theorem sz18 : szOf Try.prog 18 = some 1 := by kernel_rfl
@[go_sem] theorem ag18 : aggT Try.prog 18 = true := by kernel_rfl
@[go_sem] theorem by18 : Try.prog.bytesOf 18 = 8 := by kernel_rfl
@[go_sem] theorem un18 : (Try.prog.underlying 18).isNone = false := by kernel_rfl
@[go_sem] theorem zo18 : zerosOf Try.prog 18 = some [.nilP] := by kernel_rfl
attribute [go_sem] Try.underlying18
@[go_sem] theorem gd18 : Try.prog.eqGuardType Try.prog.depth 18 = false := by kernel_rfl
@[go_sem] theorem sz19 : szOf Try.prog 19 = some 1 := by kernel_rfl
@[go_sem] theorem ag19 : aggT Try.prog 19 = true := by kernel_rfl
@[go_sem] theorem by19 : Try.prog.bytesOf 19 = 8 := by kernel_rfl
@[go_sem] theorem un19 : (Try.prog.underlying 19).isNone = false := by kernel_rfl
@[go_sem] theorem zo19 : zerosOf Try.prog 19 = some [.nilP] := by kernel_rfl
attribute [go_sem] Try.underlying19
@[go_sem] theorem gd19 : Try.prog.eqGuardType Try.prog.depth 19 = false := by kernel_rfl
@[go_sem] theorem sz21 : szOf Try.prog 21 = some 1 := by kernel_rfl
@[go_sem] theorem ag21 : aggT Try.prog 21 = false := by kernel_rfl
@[go_sem] theorem by21 : Try.prog.bytesOf 21 = 4 := by kernel_rfl
@[go_sem] theorem un21 : (Try.prog.underlying 21).isNone = false := by kernel_rfl
@[go_sem] theorem zo21 : zerosOf Try.prog 21 = some [.int .i32 0] := by kernel_rfl
attribute [go_sem] Try.underlying21
@[go_sem] theorem eql21 (d : Nat) (k : IntKind) (a b : Int) : eqV Try.prog (d + 1) 21 (.int k a) (.int k b) = some (a == b) := eqV_int Try.underlying21 d k a b
@[go_sem] theorem sz22 : szOf Try.prog 22 = some 12 := by kernel_rfl
@[go_sem] theorem ag22 : aggT Try.prog 22 = true := by kernel_rfl
@[go_sem] theorem by22 : Try.prog.bytesOf 22 = 12 := by kernel_rfl
@[go_sem] theorem un22 : (Try.prog.underlying 22).isNone = false := by kernel_rfl
@[go_sem] theorem zo22 : zerosOf Try.prog 22 = some [.int .u8 0, .int .u8 0, .int .u8 0, .int .u8 0, .int .u8 0, .int .u8 0, .int .u8 0, .int .u8 0, .int .u8 0, .int .u8 0, .int .u8 0, .int .u8 0] := by kernel_rfl
attribute [go_sem] Try.underlying22
@[go_sem] theorem gd22 : Try.prog.eqGuardType Try.prog.depth 22 = false := by kernel_rfl
@[go_sem] theorem eqb22 (l1 l2 : List UInt8) (h1 : l1.length = 12) (h2 : l2.length = 12) (d : Nat) : eqV Try.prog (d + 2) 22 (.agg (l1.map byteC)) (.agg (l2.map byteC)) = some (l1 == l2) := eqV_bytes Try.underlying22 Try.underlying5 (by kernel_rfl) (by kernel_rfl) l1 l2 h1 h2
@[go_sem] theorem eqz22 (l1 : List UInt8) (h1 : l1.length = 12) (d : Nat) : eqV Try.prog (d + 2) 22 (.agg (l1.map byteC)) (.agg [.int .u8 0, .int .u8 0, .int .u8 0, .int .u8 0, .int .u8 0, .int .u8 0, .int .u8 0, .int .u8 0, .int .u8 0, .int .u8 0, .int .u8 0, .int .u8 0]) = some (l1 == List.replicate 12 0) := eqb22 l1 (List.replicate 12 0) h1 rfl d
@[go_sem] theorem sz23 : szOf Try.prog 23 = some 12 := by kernel_rfl
@[go_sem] theorem ag23 : aggT Try.prog 23 = true := by kernel_rfl
@[go_sem] theorem by23 : Try.prog.bytesOf 23 = 12 := by kernel_rfl
@[go_sem] theorem un23 : (Try.prog.underlying 23).isNone = false := by kernel_rfl
@[go_sem] theorem zo23 : zerosOf Try.prog 23 = some [.int .u8 0, .int .u8 0, .int .u8 0, .int .u8 0, .int .u8 0, .int .u8 0, .int .u8 0, .int .u8 0, .int .u8 0, .int .u8 0, .int .u8 0, .int .u8 0] := by kernel_rfl
attribute [go_sem] Try.underlying23
@[go_sem] theorem gd23 : Try.prog.eqGuardType Try.prog.depth 23 = false := by kernel_rfl
@[go_sem] theorem eqb23 (l1 l2 : List UInt8) (h1 : l1.length = 12) (h2 : l2.length = 12) (d : Nat) : eqV Try.prog (d + 2) 23 (.agg (l1.map byteC)) (.agg (l2.map byteC)) = some (l1 == l2) := eqV_bytes Try.underlying23 Try.underlying5 (by kernel_rfl) (by kernel_rfl) l1 l2 h1 h2
@[go_sem] theorem eqz23 (l1 : List UInt8) (h1 : l1.length = 12) (d : Nat) : eqV Try.prog (d + 2) 23 (.agg (l1.map byteC)) (.agg [.int .u8 0, .int .u8 0, .int .u8 0, .int .u8 0, .int .u8 0, .int .u8 0, .int .u8 0, .int .u8 0, .int .u8 0, .int .u8 0, .int .u8 0, .int .u8 0]) = some (l1 == List.replicate 12 0) := eqb23 l1 (List.replicate 12 0) h1 rfl d
@[go_sem] theorem sz24 : szOf Try.prog 24 = some 1 := by kernel_rfl
@[go_sem] theorem ag24 : aggT Try.prog 24 = false := by kernel_rfl
@[go_sem] theorem by24 : Try.prog.bytesOf 24 = 24 := by kernel_rfl
@[go_sem] theorem un24 : (Try.prog.underlying 24).isNone = false := by kernel_rfl
@[go_sem] theorem zo24 : zerosOf Try.prog 24 = some [.nilS] := by kernel_rfl
attribute [go_sem] Try.underlying24
@[go_sem] theorem el24 : elemT Try.prog 24 = some 5 := by kernel_rfl
@[go_sem] theorem ap24 (B : List Box) (s x : CV) : appendC Try.prog 24 B s x = appendK Try.prog 5 1 B s x := appendC_eq (by kernel_rfl) (by kernel_rfl) (by kernel_rfl) B s x
@[go_sem] theorem sz29 : szOf Try.prog 29 = some 1 := by kernel_rfl
@[go_sem] theorem ag29 : aggT Try.prog 29 = false := by kernel_rfl
@[go_sem] theorem by29 : Try.prog.bytesOf 29 = 24 := by kernel_rfl
@[go_sem] theorem un29 : (Try.prog.underlying 29).isNone = false := by kernel_rfl
@[go_sem] theorem zo29 : zerosOf Try.prog 29 = some [.nilS] := by kernel_rfl
attribute [go_sem] Try.underlying29
@[go_sem] theorem el29 : elemT Try.prog 29 = some 2 := by kernel_rfl
@[go_sem] theorem ap29 (B : List Box) (s x : CV) : appendC Try.prog 29 B s x = appendK Try.prog 2 1 B s x := appendC_eq (by kernel_rfl) (by kernel_rfl) (by kernel_rfl) B s x
@[go_sem] theorem sz31 : szOf Try.prog 31 = some 1 := by kernel_rfl
@[go_sem] theorem ag31 : aggT Try.prog 31 = false := by kernel_rfl
@[go_sem] theorem by31 : Try.prog.bytesOf 31 = 24 := by kernel_rfl
@[go_sem] theorem un31 : (Try.prog.underlying 31).isNone = false := by kernel_rfl
@[go_sem] theorem zo31 : zerosOf Try.prog 31 = some [.nilS] := by kernel_rfl
attribute [go_sem] Try.underlying31
@[go_sem] theorem el31 : elemT Try.prog 31 = some 23 := by kernel_rfl
@[go_sem] theorem ap31 (B : List Box) (s x : CV) : appendC Try.prog 31 B s x = appendK Try.prog 23 12 B s x := appendC_eq (by kernel_rfl) (by kernel_rfl) (by kernel_rfl) B s x
@[go_sem] theorem sz32 : szOf Try.prog 32 = some 1 := by kernel_rfl
@[go_sem] theorem ag32 : aggT Try.prog 32 = false := by kernel_rfl
@[go_sem] theorem by32 : Try.prog.bytesOf 32 = 8 := by kernel_rfl
@[go_sem] theorem un32 : (Try.prog.underlying 32).isNone = false := by kernel_rfl
@[go_sem] theorem zo32 : zerosOf Try.prog 32 = some [.int .i64 0] := by kernel_rfl
attribute [go_sem] Try.underlying32
@[go_sem] theorem eql32 (d : Nat) (k : IntKind) (a b : Int) : eqV Try.prog (d + 1) 32 (.int k a) (.int k b) = some (a == b) := eqV_int Try.underlying32 d k a b
@[go_sem] theorem sz37 : szOf Try.prog 37 = some 1 := by kernel_rfl
@[go_sem] theorem ag37 : aggT Try.prog 37 = false := by kernel_rfl
@[go_sem] theorem by37 : Try.prog.bytesOf 37 = 8 := by kernel_rfl
@[go_sem] theorem un37 : (Try.prog.underlying 37).isNone = false := by kernel_rfl
@[go_sem] theorem zo37 : zerosOf Try.prog 37 = some [.int .u64 0] := by kernel_rfl
attribute [go_sem] Try.underlying37
@[go_sem] theorem eql37 (d : Nat) (k : IntKind) (a b : Int) : eqV Try.prog (d + 1) 37 (.int k a) (.int k b) = some (a == b) := eqV_int Try.underlying37 d k a b
@[go_sem] theorem sz40 : szOf Try.prog 40 = some 1 := by kernel_rfl
@[go_sem] theorem ag40 : aggT Try.prog 40 = false := by kernel_rfl
@[go_sem] theorem by40 : Try.prog.bytesOf 40 = 24 := by kernel_rfl
@[go_sem] theorem un40 : (Try.prog.underlying 40).isNone = false := by kernel_rfl
@[go_sem] theorem zo40 : zerosOf Try.prog 40 = some [.nilS] := by kernel_rfl
attribute [go_sem] Try.underlying40
@[go_sem] theorem el40 : elemT Try.prog 40 = some 3 := by kernel_rfl
@[go_sem] theorem ap40 (B : List Box) (s x : CV) : appendC Try.prog 40 B s x = appendK Try.prog 3 1 B s x := appendC_eq (by kernel_rfl) (by kernel_rfl) (by kernel_rfl) B s x
@[go_sem] theorem sz48 : szOf Try.prog 48 = some 1 := by kernel_rfl
@[go_sem] theorem ag48 : aggT Try.prog 48 = false := by kernel_rfl
@[go_sem] theorem by48 : Try.prog.bytesOf 48 = 2 := by kernel_rfl
@[go_sem] theorem un48 : (Try.prog.underlying 48).isNone = false := by kernel_rfl
@[go_sem] theorem zo48 : zerosOf Try.prog 48 = some [.int .u16 0] := by kernel_rfl
attribute [go_sem] Try.underlying48
@[go_sem] theorem eql48 (d : Nat) (k : IntKind) (a b : Int) : eqV Try.prog (d + 1) 48 (.int k a) (.int k b) = some (a == b) := eqV_int Try.underlying48 d k a b
@[go_sem] theorem sz50 : szOf Try.prog 50 = some 1 := by kernel_rfl
@[go_sem] theorem ag50 : aggT Try.prog 50 = false := by kernel_rfl
@[go_sem] theorem by50 : Try.prog.bytesOf 50 = 24 := by kernel_rfl
@[go_sem] theorem un50 : (Try.prog.underlying 50).isNone = false := by kernel_rfl
@[go_sem] theorem zo50 : zerosOf Try.prog 50 = some [.nilS] := by kernel_rfl
attribute [go_sem] Try.underlying50
@[go_sem] theorem el50 : elemT Try.prog 50 = some 24 := by kernel_rfl
@[go_sem] theorem ap50 (B : List Box) (s x : CV) : appendC Try.prog 50 B s x = appendK Try.prog 24 1 B s x := appendC_eq (by kernel_rfl) (by kernel_rfl) (by kernel_rfl) B s x
@[go_sem] theorem sz51 : szOf Try.prog 51 = some 16 := by kernel_rfl
@[go_sem] theorem ag51 : aggT Try.prog 51 = true := by kernel_rfl
@[go_sem] theorem by51 : Try.prog.bytesOf 51 = 16 := by kernel_rfl
@[go_sem] theorem un51 : (Try.prog.underlying 51).isNone = false := by kernel_rfl
@[go_sem] theorem zo51 : zerosOf Try.prog 51 = some [.int .u8 0, .int .u8 0, .int .u8 0, .int .u8 0, .int .u8 0, .int .u8 0, .int .u8 0, .int .u8 0, .int .u8 0, .int .u8 0, .int .u8 0, .int .u8 0, .int .u8 0, .int .u8 0, .int .u8 0, .int .u8 0] := by kernel_rfl
attribute [go_sem] Try.underlying51
@[go_sem] theorem gd51 : Try.prog.eqGuardType Try.prog.depth 51 = false := by kernel_rfl
@[go_sem] theorem eqb51 (l1 l2 : List UInt8) (h1 : l1.length = 16) (h2 : l2.length = 16) (d : Nat) : eqV Try.prog (d + 2) 51 (.agg (l1.map byteC)) (.agg (l2.map byteC)) = some (l1 == l2) := eqV_bytes Try.underlying51 Try.underlying5 (by kernel_rfl) (by kernel_rfl) l1 l2 h1 h2
@[go_sem] theorem eqz51 (l1 : List UInt8) (h1 : l1.length = 16) (d : Nat) : eqV Try.prog (d + 2) 51 (.agg (l1.map byteC)) (.agg [.int .u8 0, .int .u8 0, .int .u8 0, .int .u8 0, .int .u8 0, .int .u8 0, .int .u8 0, .int .u8 0, .int .u8 0, .int .u8 0, .int .u8 0, .int .u8 0, .int .u8 0, .int .u8 0, .int .u8 0, .int .u8 0]) = some (l1 == List.replicate 16 0) := eqb51 l1 (List.replicate 16 0) h1 rfl d
@[go_sem] theorem sz52 : szOf Try.prog 52 = some 17 := by kernel_rfl
@[go_sem] theorem ag52 : aggT Try.prog 52 = true := by kernel_rfl
@[go_sem] theorem by52 : Try.prog.bytesOf 52 = 17 := by kernel_rfl
@[go_sem] theorem un52 : (Try.prog.underlying 52).isNone = false := by kernel_rfl
@[go_sem] theorem zo52 : zerosOf Try.prog 52 = some [.bool false, .int .u8 0, .int .u8 0, .int .u8 0, .int .u8 0, .int .u8 0, .int .u8 0, .int .u8 0, .int .u8 0, .int .u8 0, .int .u8 0, .int .u8 0, .int .u8 0, .int .u8 0, .int .u8 0, .int .u8 0, .int .u8 0] := by kernel_rfl
attribute [go_sem] Try.underlying52
@[go_sem] theorem gd52 : Try.prog.eqGuardType Try.prog.depth 52 = false := by kernel_rfl
@[go_sem] theorem st52 : Try.prog.stoodInHeld 52 = false := by kernel_rfl
@[go_sem] theorem eqs52 (d : Nat) (xs ys : List CV) : eqV Try.prog (d + 1) 52 (.agg xs) (.agg ys) = eqF Try.prog d xs ys (match Try.prog.underlying 52 with | some (.struct fs) => fs.toList | _ => []) := by rw [Try.underlying52]; exact eqV_struct Try.underlying52 st52 d xs ys
@[go_sem] theorem sz53 : szOf Try.prog 53 = some 17 := by kernel_rfl
@[go_sem] theorem ag53 : aggT Try.prog 53 = true := by kernel_rfl
@[go_sem] theorem by53 : Try.prog.bytesOf 53 = 17 := by kernel_rfl
@[go_sem] theorem un53 : (Try.prog.underlying 53).isNone = false := by kernel_rfl
@[go_sem] theorem zo53 : zerosOf Try.prog 53 = some [.bool false, .int .u8 0, .int .u8 0, .int .u8 0, .int .u8 0, .int .u8 0, .int .u8 0, .int .u8 0, .int .u8 0, .int .u8 0, .int .u8 0, .int .u8 0, .int .u8 0, .int .u8 0, .int .u8 0, .int .u8 0, .int .u8 0] := by kernel_rfl
attribute [go_sem] Try.underlying53
@[go_sem] theorem gd53 : Try.prog.eqGuardType Try.prog.depth 53 = false := by kernel_rfl
@[go_sem] theorem st53 : Try.prog.stoodInHeld 53 = false := by kernel_rfl
@[go_sem] theorem eqs53 (d : Nat) (xs ys : List CV) : eqV Try.prog (d + 1) 53 (.agg xs) (.agg ys) = eqF Try.prog d xs ys (match Try.prog.underlying 53 with | some (.struct fs) => fs.toList | _ => []) := by rw [Try.underlying53]; exact eqV_struct Try.underlying53 st53 d xs ys
@[go_sem] theorem sz54 : szOf Try.prog 54 = some 35 := by kernel_rfl
@[go_sem] theorem ag54 : aggT Try.prog 54 = true := by kernel_rfl
@[go_sem] theorem by54 : Try.prog.bytesOf 54 = 48 := by kernel_rfl
@[go_sem] theorem un54 : (Try.prog.underlying 54).isNone = false := by kernel_rfl
@[go_sem] theorem zo54 : zerosOf Try.prog 54 = some [.bool false, .int .u8 0, .int .u8 0, .int .u8 0, .int .u8 0, .int .u8 0, .int .u8 0, .int .u8 0, .int .u8 0, .int .u8 0, .int .u8 0, .int .u8 0, .int .u8 0, .int .u8 0, .int .u8 0, .int .u8 0, .int .u8 0, .bool false, .int .u8 0, .int .u8 0, .int .u8 0, .int .u8 0, .int .u8 0, .int .u8 0, .int .u8 0, .int .u8 0, .int .u8 0, .int .u8 0, .int .u8 0, .int .u8 0, .int .u8 0, .int .u8 0, .int .u8 0, .int .u8 0, .int .i64 0] := by kernel_rfl
attribute [go_sem] Try.underlying54
@[go_sem] theorem gd54 : Try.prog.eqGuardType Try.prog.depth 54 = false := by kernel_rfl
@[go_sem] theorem st54 : Try.prog.stoodInHeld 54 = false := by kernel_rfl
@[go_sem] theorem eqs54 (d : Nat) (xs ys : List CV) : eqV Try.prog (d + 1) 54 (.agg xs) (.agg ys) = eqF Try.prog d xs ys (match Try.prog.underlying 54 with | some (.struct fs) => fs.toList | _ => []) := by rw [Try.underlying54]; exact eqV_struct Try.underlying54 st54 d xs ys
@[go_sem] theorem sz55 : szOf Try.prog 55 = some 35 := by kernel_rfl
@[go_sem] theorem ag55 : aggT Try.prog 55 = true := by kernel_rfl
@[go_sem] theorem by55 : Try.prog.bytesOf 55 = 48 := by kernel_rfl
@[go_sem] theorem un55 : (Try.prog.underlying 55).isNone = false := by kernel_rfl
@[go_sem] theorem zo55 : zerosOf Try.prog 55 = some [.bool false, .int .u8 0, .int .u8 0, .int .u8 0, .int .u8 0, .int .u8 0, .int .u8 0, .int .u8 0, .int .u8 0, .int .u8 0, .int .u8 0, .int .u8 0, .int .u8 0, .int .u8 0, .int .u8 0, .int .u8 0, .int .u8 0, .bool false, .int .u8 0, .int .u8 0, .int .u8 0, .int .u8 0, .int .u8 0, .int .u8 0, .int .u8 0, .int .u8 0, .int .u8 0, .int .u8 0, .int .u8 0, .int .u8 0, .int .u8 0, .int .u8 0, .int .u8 0, .int .u8 0, .int .i64 0] := by kernel_rfl
attribute [go_sem] Try.underlying55
@[go_sem] theorem gd55 : Try.prog.eqGuardType Try.prog.depth 55 = false := by kernel_rfl
@[go_sem] theorem st55 : Try.prog.stoodInHeld 55 = false := by kernel_rfl
@[go_sem] theorem eqs55 (d : Nat) (xs ys : List CV) : eqV Try.prog (d + 1) 55 (.agg xs) (.agg ys) = eqF Try.prog d xs ys (match Try.prog.underlying 55 with | some (.struct fs) => fs.toList | _ => []) := by rw [Try.underlying55]; exact eqV_struct Try.underlying55 st55 d xs ys
@[go_sem] theorem sz63 : szOf Try.prog 63 = some 1 := by kernel_rfl
@[go_sem] theorem ag63 : aggT Try.prog 63 = false := by kernel_rfl
@[go_sem] theorem by63 : Try.prog.bytesOf 63 = 8 := by kernel_rfl
@[go_sem] theorem un63 : (Try.prog.underlying 63).isNone = false := by kernel_rfl
@[go_sem] theorem zo63 : zerosOf Try.prog 63 = some [.nilP] := by kernel_rfl
attribute [go_sem] Try.underlying63
@[go_sem] theorem sz66 : szOf Try.prog 66 = some 1 := by kernel_rfl
@[go_sem] theorem ag66 : aggT Try.prog 66 = false := by kernel_rfl
@[go_sem] theorem by66 : Try.prog.bytesOf 66 = 8 := by kernel_rfl
@[go_sem] theorem un66 : (Try.prog.underlying 66).isNone = false := by kernel_rfl
@[go_sem] theorem zo66 : zerosOf Try.prog 66 = some [.int .u64 0] := by kernel_rfl
attribute [go_sem] Try.underlying66
@[go_sem] theorem eql66 (d : Nat) (k : IntKind) (a b : Int) : eqV Try.prog (d + 1) 66 (.int k a) (.int k b) = some (a == b) := eqV_int Try.underlying66 d k a b
@[go_sem] theorem sz67 : szOf Try.prog 67 = some 18 := by kernel_rfl
@[go_sem] theorem ag67 : aggT Try.prog 67 = true := by kernel_rfl
@[go_sem] theorem by67 : Try.prog.bytesOf 67 = 32 := by kernel_rfl
@[go_sem] theorem un67 : (Try.prog.underlying 67).isNone = false := by kernel_rfl
@[go_sem] theorem zo67 : zerosOf Try.prog 67 = some [.bool false, .int .u8 0, .int .u8 0, .int .u8 0, .int .u8 0, .int .u8 0, .int .u8 0, .int .u8 0, .int .u8 0, .int .u8 0, .int .u8 0, .int .u8 0, .int .u8 0, .int .u8 0, .int .u8 0, .int .u8 0, .int .u8 0, .int .i64 0] := by kernel_rfl
attribute [go_sem] Try.underlying67
@[go_sem] theorem gd67 : Try.prog.eqGuardType Try.prog.depth 67 = false := by kernel_rfl
@[go_sem] theorem st67 : Try.prog.stoodInHeld 67 = false := by kernel_rfl
@[go_sem] theorem eqs67 (d : Nat) (xs ys : List CV) : eqV Try.prog (d + 1) 67 (.agg xs) (.agg ys) = eqF Try.prog d xs ys (match Try.prog.underlying 67 with | some (.struct fs) => fs.toList | _ => []) := by rw [Try.underlying67]; exact eqV_struct Try.underlying67 st67 d xs ys
@[go_sem] theorem sz68 : szOf Try.prog 68 = some 18 := by kernel_rfl
@[go_sem] theorem ag68 : aggT Try.prog 68 = true := by kernel_rfl
@[go_sem] theorem by68 : Try.prog.bytesOf 68 = 32 := by kernel_rfl
@[go_sem] theorem un68 : (Try.prog.underlying 68).isNone = false := by kernel_rfl
@[go_sem] theorem zo68 : zerosOf Try.prog 68 = some [.bool false, .int .u8 0, .int .u8 0, .int .u8 0, .int .u8 0, .int .u8 0, .int .u8 0, .int .u8 0, .int .u8 0, .int .u8 0, .int .u8 0, .int .u8 0, .int .u8 0, .int .u8 0, .int .u8 0, .int .u8 0, .int .u8 0, .int .i64 0] := by kernel_rfl
attribute [go_sem] Try.underlying68
@[go_sem] theorem gd68 : Try.prog.eqGuardType Try.prog.depth 68 = false := by kernel_rfl
@[go_sem] theorem st68 : Try.prog.stoodInHeld 68 = false := by kernel_rfl
@[go_sem] theorem eqs68 (d : Nat) (xs ys : List CV) : eqV Try.prog (d + 1) 68 (.agg xs) (.agg ys) = eqF Try.prog d xs ys (match Try.prog.underlying 68 with | some (.struct fs) => fs.toList | _ => []) := by rw [Try.underlying68]; exact eqV_struct Try.underlying68 st68 d xs ys
@[go_sem] theorem sz74 : szOf Try.prog 74 = some 1 := by kernel_rfl
@[go_sem] theorem ag74 : aggT Try.prog 74 = false := by kernel_rfl
@[go_sem] theorem by74 : Try.prog.bytesOf 74 = 24 := by kernel_rfl
@[go_sem] theorem un74 : (Try.prog.underlying 74).isNone = false := by kernel_rfl
@[go_sem] theorem zo74 : zerosOf Try.prog 74 = some [.nilS] := by kernel_rfl
attribute [go_sem] Try.underlying74
@[go_sem] theorem el74 : elemT Try.prog 74 = some 68 := by kernel_rfl
@[go_sem] theorem ap74 (B : List Box) (s x : CV) : appendC Try.prog 74 B s x = appendK Try.prog 68 18 B s x := appendC_eq (by kernel_rfl) (by kernel_rfl) (by kernel_rfl) B s x
@[go_sem] theorem sz75 : szOf Try.prog 75 = some 1 := by kernel_rfl
@[go_sem] theorem ag75 : aggT Try.prog 75 = false := by kernel_rfl
@[go_sem] theorem by75 : Try.prog.bytesOf 75 = 24 := by kernel_rfl
@[go_sem] theorem un75 : (Try.prog.underlying 75).isNone = false := by kernel_rfl
@[go_sem] theorem zo75 : zerosOf Try.prog 75 = some [.nilS] := by kernel_rfl
attribute [go_sem] Try.underlying75
@[go_sem] theorem el75 : elemT Try.prog 75 = some 53 := by kernel_rfl
@[go_sem] theorem ap75 (B : List Box) (s x : CV) : appendC Try.prog 75 B s x = appendK Try.prog 53 17 B s x := appendC_eq (by kernel_rfl) (by kernel_rfl) (by kernel_rfl) B s x
@[go_sem] theorem sz78 : szOf Try.prog 78 = some 32 := by kernel_rfl
@[go_sem] theorem ag78 : aggT Try.prog 78 = true := by kernel_rfl
@[go_sem] theorem by78 : Try.prog.bytesOf 78 = 32 := by kernel_rfl
@[go_sem] theorem un78 : (Try.prog.underlying 78).isNone = false := by kernel_rfl
@[go_sem] theorem zo78 : zerosOf Try.prog 78 = some [.int .u8 0, .int .u8 0, .int .u8 0, .int .u8 0, .int .u8 0, .int .u8 0, .int .u8 0, .int .u8 0, .int .u8 0, .int .u8 0, .int .u8 0, .int .u8 0, .int .u8 0, .int .u8 0, .int .u8 0, .int .u8 0, .int .u8 0, .int .u8 0, .int .u8 0, .int .u8 0, .int .u8 0, .int .u8 0, .int .u8 0, .int .u8 0, .int .u8 0, .int .u8 0, .int .u8 0, .int .u8 0, .int .u8 0, .int .u8 0, .int .u8 0, .int .u8 0] := by kernel_rfl
attribute [go_sem] Try.underlying78
@[go_sem] theorem gd78 : Try.prog.eqGuardType Try.prog.depth 78 = false := by kernel_rfl
@[go_sem] theorem eqb78 (l1 l2 : List UInt8) (h1 : l1.length = 32) (h2 : l2.length = 32) (d : Nat) : eqV Try.prog (d + 2) 78 (.agg (l1.map byteC)) (.agg (l2.map byteC)) = some (l1 == l2) := eqV_bytes Try.underlying78 Try.underlying5 (by kernel_rfl) (by kernel_rfl) l1 l2 h1 h2
@[go_sem] theorem eqz78 (l1 : List UInt8) (h1 : l1.length = 32) (d : Nat) : eqV Try.prog (d + 2) 78 (.agg (l1.map byteC)) (.agg [.int .u8 0, .int .u8 0, .int .u8 0, .int .u8 0, .int .u8 0, .int .u8 0, .int .u8 0, .int .u8 0, .int .u8 0, .int .u8 0, .int .u8 0, .int .u8 0, .int .u8 0, .int .u8 0, .int .u8 0, .int .u8 0, .int .u8 0, .int .u8 0, .int .u8 0, .int .u8 0, .int .u8 0, .int .u8 0, .int .u8 0, .int .u8 0, .int .u8 0, .int .u8 0, .int .u8 0, .int .u8 0, .int .u8 0, .int .u8 0, .int .u8 0, .int .u8 0]) = some (l1 == List.replicate 32 0) := eqb78 l1 (List.replicate 32 0) h1 rfl d
@[go_sem] theorem sz79 : szOf Try.prog 79 = some 32 := by kernel_rfl
@[go_sem] theorem ag79 : aggT Try.prog 79 = true := by kernel_rfl
@[go_sem] theorem by79 : Try.prog.bytesOf 79 = 32 := by kernel_rfl
@[go_sem] theorem un79 : (Try.prog.underlying 79).isNone = false := by kernel_rfl
@[go_sem] theorem zo79 : zerosOf Try.prog 79 = some [.int .u8 0, .int .u8 0, .int .u8 0, .int .u8 0, .int .u8 0, .int .u8 0, .int .u8 0, .int .u8 0, .int .u8 0, .int .u8 0, .int .u8 0, .int .u8 0, .int .u8 0, .int .u8 0, .int .u8 0, .int .u8 0, .int .u8 0, .int .u8 0, .int .u8 0, .int .u8 0, .int .u8 0, .int .u8 0, .int .u8 0, .int .u8 0, .int .u8 0, .int .u8 0, .int .u8 0, .int .u8 0, .int .u8 0, .int .u8 0, .int .u8 0, .int .u8 0] := by kernel_rfl
attribute [go_sem] Try.underlying79
@[go_sem] theorem gd79 : Try.prog.eqGuardType Try.prog.depth 79 = false := by kernel_rfl
@[go_sem] theorem eqb79 (l1 l2 : List UInt8) (h1 : l1.length = 32) (h2 : l2.length = 32) (d : Nat) : eqV Try.prog (d + 2) 79 (.agg (l1.map byteC)) (.agg (l2.map byteC)) = some (l1 == l2) := eqV_bytes Try.underlying79 Try.underlying5 (by kernel_rfl) (by kernel_rfl) l1 l2 h1 h2
@[go_sem] theorem eqz79 (l1 : List UInt8) (h1 : l1.length = 32) (d : Nat) : eqV Try.prog (d + 2) 79 (.agg (l1.map byteC)) (.agg [.int .u8 0, .int .u8 0, .int .u8 0, .int .u8 0, .int .u8 0, .int .u8 0, .int .u8 0, .int .u8 0, .int .u8 0, .int .u8 0, .int .u8 0, .int .u8 0, .int .u8 0, .int .u8 0, .int .u8 0, .int .u8 0, .int .u8 0, .int .u8 0, .int .u8 0, .int .u8 0, .int .u8 0, .int .u8 0, .int .u8 0, .int .u8 0, .int .u8 0, .int .u8 0, .int .u8 0, .int .u8 0, .int .u8 0, .int .u8 0, .int .u8 0, .int .u8 0]) = some (l1 == List.replicate 32 0) := eqb79 l1 (List.replicate 32 0) h1 rfl d
@[go_sem] theorem sz83 : szOf Try.prog 83 = some 1 := by kernel_rfl
@[go_sem] theorem ag83 : aggT Try.prog 83 = false := by kernel_rfl
@[go_sem] theorem by83 : Try.prog.bytesOf 83 = 24 := by kernel_rfl
@[go_sem] theorem un83 : (Try.prog.underlying 83).isNone = false := by kernel_rfl
@[go_sem] theorem zo83 : zerosOf Try.prog 83 = some [.nilS] := by kernel_rfl
attribute [go_sem] Try.underlying83
@[go_sem] theorem el83 : elemT Try.prog 83 = some 9 := by kernel_rfl
@[go_sem] theorem ap83 (B : List Box) (s x : CV) : appendC Try.prog 83 B s x = appendK Try.prog 9 1 B s x := appendC_eq (by kernel_rfl) (by kernel_rfl) (by kernel_rfl) B s x
@[go_sem] theorem sz93 : szOf Try.prog 93 = some 2 := by kernel_rfl
@[go_sem] theorem ag93 : aggT Try.prog 93 = true := by kernel_rfl
@[go_sem] theorem by93 : Try.prog.bytesOf 93 = 32 := by kernel_rfl
@[go_sem] theorem un93 : (Try.prog.underlying 93).isNone = false := by kernel_rfl
@[go_sem] theorem zo93 : zerosOf Try.prog 93 = some [.nilS, .int .i64 0] := by kernel_rfl
attribute [go_sem] Try.underlying93
@[go_sem] theorem gd93 : Try.prog.eqGuardType Try.prog.depth 93 = false := by kernel_rfl
@[go_sem] theorem st93 : Try.prog.stoodInHeld 93 = false := by kernel_rfl
@[go_sem] theorem eqs93 (d : Nat) (xs ys : List CV) : eqV Try.prog (d + 1) 93 (.agg xs) (.agg ys) = eqF Try.prog d xs ys (match Try.prog.underlying 93 with | some (.struct fs) => fs.toList | _ => []) := by rw [Try.underlying93]; exact eqV_struct Try.underlying93 st93 d xs ys
@[go_sem] theorem sz94 : szOf Try.prog 94 = some 2 := by kernel_rfl
@[go_sem] theorem ag94 : aggT Try.prog 94 = true := by kernel_rfl
@[go_sem] theorem by94 : Try.prog.bytesOf 94 = 32 := by kernel_rfl
@[go_sem] theorem un94 : (Try.prog.underlying 94).isNone = false := by kernel_rfl
@[go_sem] theorem zo94 : zerosOf Try.prog 94 = some [.nilS, .int .i64 0] := by kernel_rfl
attribute [go_sem] Try.underlying94
@[go_sem] theorem gd94 : Try.prog.eqGuardType Try.prog.depth 94 = false := by kernel_rfl
@[go_sem] theorem st94 : Try.prog.stoodInHeld 94 = false := by kernel_rfl
@[go_sem] theorem eqs94 (d : Nat) (xs ys : List CV) : eqV Try.prog (d + 1) 94 (.agg xs) (.agg ys) = eqF Try.prog d xs ys (match Try.prog.underlying 94 with | some (.struct fs) => fs.toList | _ => []) := by rw [Try.underlying94]; exact eqV_struct Try.underlying94 st94 d xs ys
@[go_sem] theorem sz108 : szOf Try.prog 108 = some 4 := by kernel_rfl
@[go_sem] theorem ag108 : aggT Try.prog 108 = true := by kernel_rfl
@[go_sem] theorem by108 : Try.prog.bytesOf 108 = 40 := by kernel_rfl
@[go_sem] theorem un108 : (Try.prog.underlying 108).isNone = false := by kernel_rfl
@[go_sem] theorem zo108 : zerosOf Try.prog 108 = some [.nilP, .nilP, .nilP, .str []] := by kernel_rfl
attribute [go_sem] Try.underlying108
@[go_sem] theorem gd108 : Try.prog.eqGuardType Try.prog.depth 108 = false := by kernel_rfl
@[go_sem] theorem sz109 : szOf Try.prog 109 = some 4 := by kernel_rfl
@[go_sem] theorem ag109 : aggT Try.prog 109 = true := by kernel_rfl
@[go_sem] theorem by109 : Try.prog.bytesOf 109 = 40 := by kernel_rfl
@[go_sem] theorem un109 : (Try.prog.underlying 109).isNone = false := by kernel_rfl
@[go_sem] theorem zo109 : zerosOf Try.prog 109 = some [.nilP, .nilP, .nilP, .str []] := by kernel_rfl
attribute [go_sem] Try.underlying109
@[go_sem] theorem gd109 : Try.prog.eqGuardType Try.prog.depth 109 = false := by kernel_rfl
@[go_sem] theorem sz110 : szOf Try.prog 110 = some 0 := by kernel_rfl
@[go_sem] theorem ag110 : aggT Try.prog 110 = true := by kernel_rfl
@[go_sem] theorem by110 : Try.prog.bytesOf 110 = 0 := by kernel_rfl
@[go_sem] theorem un110 : (Try.prog.underlying 110).isNone = false := by kernel_rfl
@[go_sem] theorem zo110 : zerosOf Try.prog 110 = some [] := by kernel_rfl
attribute [go_sem] Try.underlying110
@[go_sem] theorem gd110 : Try.prog.eqGuardType Try.prog.depth 110 = false := by kernel_rfl
@[go_sem] theorem sz111 : szOf Try.prog 111 = some 0 := by kernel_rfl
@[go_sem] theorem ag111 : aggT Try.prog 111 = true := by kernel_rfl
@[go_sem] theorem by111 : Try.prog.bytesOf 111 = 0 := by kernel_rfl
@[go_sem] theorem un111 : (Try.prog.underlying 111).isNone = false := by kernel_rfl
@[go_sem] theorem zo111 : zerosOf Try.prog 111 = some [] := by kernel_rfl
attribute [go_sem] Try.underlying111
@[go_sem] theorem gd111 : Try.prog.eqGuardType Try.prog.depth 111 = false := by kernel_rfl
@[go_sem] theorem sz112 : szOf Try.prog 112 = some 0 := by kernel_rfl
@[go_sem] theorem ag112 : aggT Try.prog 112 = true := by kernel_rfl
@[go_sem] theorem by112 : Try.prog.bytesOf 112 = 0 := by kernel_rfl
@[go_sem] theorem un112 : (Try.prog.underlying 112).isNone = false := by kernel_rfl
@[go_sem] theorem zo112 : zerosOf Try.prog 112 = some [] := by kernel_rfl
attribute [go_sem] Try.underlying112
@[go_sem] theorem gd112 : Try.prog.eqGuardType Try.prog.depth 112 = false := by kernel_rfl
@[go_sem] theorem sz114 : szOf Try.prog 114 = some 1 := by kernel_rfl
@[go_sem] theorem ag114 : aggT Try.prog 114 = false := by kernel_rfl
@[go_sem] theorem by114 : Try.prog.bytesOf 114 = 4 := by kernel_rfl
@[go_sem] theorem un114 : (Try.prog.underlying 114).isNone = false := by kernel_rfl
@[go_sem] theorem zo114 : zerosOf Try.prog 114 = some [.int .u32 0] := by kernel_rfl
attribute [go_sem] Try.underlying114
@[go_sem] theorem eql114 (d : Nat) (k : IntKind) (a b : Int) : eqV Try.prog (d + 1) 114 (.int k a) (.int k b) = some (a == b) := eqV_int Try.underlying114 d k a b
@[go_sem] theorem sz115 : szOf Try.prog 115 = some 1 := by kernel_rfl
@[go_sem] theorem ag115 : aggT Try.prog 115 = false := by kernel_rfl
@[go_sem] theorem by115 : Try.prog.bytesOf 115 = 1 := by kernel_rfl
@[go_sem] theorem un115 : (Try.prog.underlying 115).isNone = false := by kernel_rfl
@[go_sem] theorem zo115 : zerosOf Try.prog 115 = some [.int .u8 0] := by kernel_rfl
attribute [go_sem] Try.underlying115
@[go_sem] theorem eql115 (d : Nat) (k : IntKind) (a b : Int) : eqV Try.prog (d + 1) 115 (.int k a) (.int k b) = some (a == b) := eqV_int Try.underlying115 d k a b
@[go_sem] theorem sz116 : szOf Try.prog 116 = some 1 := by kernel_rfl
@[go_sem] theorem ag116 : aggT Try.prog 116 = false := by kernel_rfl
@[go_sem] theorem by116 : Try.prog.bytesOf 116 = 1 := by kernel_rfl
@[go_sem] theorem un116 : (Try.prog.underlying 116).isNone = false := by kernel_rfl
@[go_sem] theorem zo116 : zerosOf Try.prog 116 = some [.int .u8 0] := by kernel_rfl
attribute [go_sem] Try.underlying116
@[go_sem] theorem eql116 (d : Nat) (k : IntKind) (a b : Int) : eqV Try.prog (d + 1) 116 (.int k a) (.int k b) = some (a == b) := eqV_int Try.underlying116 d k a b
@[go_sem] theorem sz118 : szOf Try.prog 118 = some 1 := by kernel_rfl
@[go_sem] theorem ag118 : aggT Try.prog 118 = false := by kernel_rfl
@[go_sem] theorem by118 : Try.prog.bytesOf 118 = 8 := by kernel_rfl
@[go_sem] theorem un118 : (Try.prog.underlying 118).isNone = false := by kernel_rfl
@[go_sem] theorem zo118 : zerosOf Try.prog 118 = some [.nilP] := by kernel_rfl
attribute [go_sem] Try.underlying118
@[go_sem] theorem sz119 : szOf Try.prog 119 = some 1 := by kernel_rfl
@[go_sem] theorem ag119 : aggT Try.prog 119 = false := by kernel_rfl
@[go_sem] theorem by119 : Try.prog.bytesOf 119 = 4 := by kernel_rfl
@[go_sem] theorem un119 : (Try.prog.underlying 119).isNone = false := by kernel_rfl
@[go_sem] theorem zo119 : zerosOf Try.prog 119 = some [.int .i32 0] := by kernel_rfl
attribute [go_sem] Try.underlying119
@[go_sem] theorem eql119 (d : Nat) (k : IntKind) (a b : Int) : eqV Try.prog (d + 1) 119 (.int k a) (.int k b) = some (a == b) := eqV_int Try.underlying119 d k a b
@[go_sem] theorem sz120 : szOf Try.prog 120 = some 1 := by kernel_rfl
@[go_sem] theorem ag120 : aggT Try.prog 120 = false := by kernel_rfl
@[go_sem] theorem by120 : Try.prog.bytesOf 120 = 4 := by kernel_rfl
@[go_sem] theorem un120 : (Try.prog.underlying 120).isNone = false := by kernel_rfl
@[go_sem] theorem zo120 : zerosOf Try.prog 120 = some [.int .i32 0] := by kernel_rfl
attribute [go_sem] Try.underlying120
@[go_sem] theorem eql120 (d : Nat) (k : IntKind) (a b : Int) : eqV Try.prog (d + 1) 120 (.int k a) (.int k b) = some (a == b) := eqV_int Try.underlying120 d k a b
@[go_sem] theorem sz121 : szOf Try.prog 121 = some 11 := by kernel_rfl
@[go_sem] theorem ag121 : aggT Try.prog 121 = true := by kernel_rfl
@[go_sem] theorem by121 : Try.prog.bytesOf 121 = 48 := by kernel_rfl
@[go_sem] theorem un121 : (Try.prog.underlying 121).isNone = false := by kernel_rfl
@[go_sem] theorem zo121 : zerosOf Try.prog 121 = some [.int .u64 0, .int .u64 0, .int .u32 0, .int .u8 0, .int .u8 0, .int .u8 0, .int .u8 0, .nilF, .nilP, .int .i32 0, .int .i32 0] := by kernel_rfl
attribute [go_sem] Try.underlying121
@[go_sem] theorem gd121 : Try.prog.eqGuardType Try.prog.depth 121 = false := by kernel_rfl
@[go_sem] theorem sz122 : szOf Try.prog 122 = some 11 := by kernel_rfl
@[go_sem] theorem ag122 : aggT Try.prog 122 = true := by kernel_rfl
@[go_sem] theorem by122 : Try.prog.bytesOf 122 = 48 := by kernel_rfl
@[go_sem] theorem un122 : (Try.prog.underlying 122).isNone = false := by kernel_rfl
@[go_sem] theorem zo122 : zerosOf Try.prog 122 = some [.int .u64 0, .int .u64 0, .int .u32 0, .int .u8 0, .int .u8 0, .int .u8 0, .int .u8 0, .nilF, .nilP, .int .i32 0, .int .i32 0] := by kernel_rfl
attribute [go_sem] Try.underlying122
@[go_sem] theorem gd122 : Try.prog.eqGuardType Try.prog.depth 122 = false := by kernel_rfl
@[go_sem] theorem sz123 : szOf Try.prog 123 = some 1 := by kernel_rfl
@[go_sem] theorem ag123 : aggT Try.prog 123 = false := by kernel_rfl
@[go_sem] theorem by123 : Try.prog.bytesOf 123 = 8 := by kernel_rfl
@[go_sem] theorem un123 : (Try.prog.underlying 123).isNone = false := by kernel_rfl
@[go_sem] theorem zo123 : zerosOf Try.prog 123 = some [.nilP] := by kernel_rfl
attribute [go_sem] Try.underlying123
-- 0 main.main
-- 1 gosem.cut
-- 2 gosem.cut.init
theorem ca2 : callable Try.prog 2 = true := by kernel_rfl
-- 3 burrow/burrowlaw09.TaiAfter
theorem ca3 : callable Try.prog 3 = true := by kernel_rfl
-- 4 burrow/burrowlaw09.TaiStamps
theorem ca4 : callable Try.prog 4 = true := by kernel_rfl
-- 5 burrow/burrowlaw09.TaiOrders
theorem ca5 : callable Try.prog 5 = true := by kernel_rfl
-- 6 burrow/burrowlaw01.CodecNumbers
theorem ca6 : callable Try.prog 6 = true := by kernel_rfl
-- 7 burrow/burrowlaw01.CodecReturns
theorem ca7 : callable Try.prog 7 = true := by kernel_rfl
-- 8 burrow/burrowlaw01.CodecEqual
theorem ca8 : callable Try.prog 8 = true := by kernel_rfl
-- 9 burrow/burrowlaw10.InnerChecks
theorem ca9 : callable Try.prog 9 = true := by kernel_rfl
-- 10 burrow/burrowlaw10.InnerReturns
theorem ca10 : callable Try.prog 10 = true := by kernel_rfl
-- 11 burrow/burrowlaw10.InnerNests
theorem ca11 : callable Try.prog 11 = true := by kernel_rfl
-- 12 burrow/burrowlaw10.InnerPrefixes
theorem ca12 : callable Try.prog 12 = true := by kernel_rfl
-- 13 burrow/burrowlaw01.CodecTexts
theorem ca13 : callable Try.prog 13 = true := by kernel_rfl
-- 14 burrow/burrowlaw01.CodecTextsReturn
theorem ca14 : callable Try.prog 14 = true := by kernel_rfl
-- 15 burrow/tai.After
theorem ca15 : callable Try.prog 15 = true := by kernel_rfl
-- 16 burrow/burrowref09.After
theorem ca16 : callable Try.prog 16 = true := by kernel_rfl
-- 17 burrow/burrowlaw09.begun
theorem ca17 : callable Try.prog 17 = true := by kernel_rfl
-- 18 burrow/burrowcase.Mod64
theorem ca18 : callable Try.prog 18 = true := by kernel_rfl
-- 19 burrow/burrowref09.Of
theorem ca19 : callable Try.prog 19 = true := by kernel_rfl
-- 20 burrow/tai.Of
theorem ca20 : callable Try.prog 20 = true := by kernel_rfl
-- 21 burrow/tai.Tick
theorem ca21 : callable Try.prog 21 = true := by kernel_rfl
-- 22 burrow/burrowref09.Tick
theorem ca22 : callable Try.prog 22 = true := by kernel_rfl
-- 23 burrow/burrowcase.Cut
theorem ca23 : callable Try.prog 23 = true := by kernel_rfl
-- 24 burrow/burrowcase.Mod
theorem ca24 : callable Try.prog 24 = true := by kernel_rfl
-- 25 burrow/codec.Little
theorem ca25 : callable Try.prog 25 = true := by kernel_rfl
-- 26 burrow/burrowref01.Little
theorem ca26 : callable Try.prog 26 = true := by kernel_rfl
-- 27 burrow/codec.Big
theorem ca27 : callable Try.prog 27 = true := by kernel_rfl
-- 28 burrow/burrowref01.Big
theorem ca28 : callable Try.prog 28 = true := by kernel_rfl
-- 29 burrow/codec.ReadLittle
theorem ca29 : callable Try.prog 29 = true := by kernel_rfl
-- 30 burrow/burrowref01.ReadLittle
theorem ca30 : callable Try.prog 30 = true := by kernel_rfl
-- 31 burrow/codec.ReadBig
theorem ca31 : callable Try.prog 31 = true := by kernel_rfl
-- 32 burrow/burrowref01.ReadBig
theorem ca32 : callable Try.prog 32 = true := by kernel_rfl
-- 33 burrow/burrowlaw01.begun
theorem ca33 : callable Try.prog 33 = true := by kernel_rfl
-- 34 burrow/codec.Equal
theorem ca34 : callable Try.prog 34 = true := by kernel_rfl
-- 35 burrow/codec.Join
theorem ca35 : callable Try.prog 35 = true := by kernel_rfl
-- 36 burrow/burrowlaw10.packet
theorem ca36 : callable Try.prog 36 = true := by kernel_rfl
-- 37 burrow/inner.Check
theorem ca37 : callable Try.prog 37 = true := by kernel_rfl
-- 38 burrow/burrowref09.Check
theorem ca38 : callable Try.prog 38 = true := by kernel_rfl
-- 39 burrow/inner.Trim
theorem ca39 : callable Try.prog 39 = true := by kernel_rfl
-- 40 burrow/burrowref09.Trim
theorem ca40 : callable Try.prog 40 = true := by kernel_rfl
-- 41 burrow/inner.Pad
theorem ca41 : callable Try.prog 41 = true := by kernel_rfl
-- 42 burrow/burrowref09.Pad
theorem ca42 : callable Try.prog 42 = true := by kernel_rfl
-- 43 burrow/burrowlaw10.begun
theorem ca43 : callable Try.prog 43 = true := by kernel_rfl
-- 44 burrow/burrowcase.New
theorem ca44 : callable Try.prog 44 = true := by kernel_rfl
-- 45 (*burrow/burrowcase.Codes).Addr
theorem ca45 : callable Try.prog 45 = true := by kernel_rfl
-- 46 burrow/burrowcase.Masked
theorem ca46 : callable Try.prog 46 = true := by kernel_rfl
-- 47 burrow/inner.Valid
theorem ca47 : callable Try.prog 47 = true := by kernel_rfl
-- 48 burrow/inner.Contains
theorem ca48 : callable Try.prog 48 = true := by kernel_rfl
-- 49 (*burrow/burrowcase.Codes).Prefix
theorem ca49 : callable Try.prog 49 = true := by kernel_rfl
-- 50 burrow/burrowref09.Contains
theorem ca50 : callable Try.prog 50 = true := by kernel_rfl
-- 51 burrow/burrowref09.Valid
theorem ca51 : callable Try.prog 51 = true := by kernel_rfl
-- 52 burrow/inner.Less
theorem ca52 : callable Try.prog 52 = true := by kernel_rfl
-- 53 burrow/burrowref09.Less
theorem ca53 : callable Try.prog 53 = true := by kernel_rfl
-- 54 burrow/burrowcase.Short
theorem ca54 : callable Try.prog 54 = true := by kernel_rfl
-- 55 burrow/burrowref01.Hex
theorem ca55 : callable Try.prog 55 = true := by kernel_rfl
-- 56 burrow/burrowref01.Text
theorem ca56 : callable Try.prog 56 = true := by kernel_rfl
-- 57 burrow/codec.Hex
theorem ca57 : callable Try.prog 57 = true := by kernel_rfl
-- 58 burrow/codec.Text
theorem ca58 : callable Try.prog 58 = true := by kernel_rfl
-- 59 burrow/codec.ParseHex
theorem ca59 : callable Try.prog 59 = true := by kernel_rfl
-- 60 burrow/burrowref01.ParseHex
theorem ca60 : callable Try.prog 60 = true := by kernel_rfl
-- 61 burrow/codec.ParseKey
theorem ca61 : callable Try.prog 61 = true := by kernel_rfl
-- 62 burrow/burrowref01.ParseKey
theorem ca62 : callable Try.prog 62 = true := by kernel_rfl
-- 63 burrow/burrowcase.Packet
theorem ca63 : callable Try.prog 63 = true := by kernel_rfl
-- 64 burrow/burrowcase.Host
theorem ca64 : callable Try.prog 64 = true := by kernel_rfl
-- 65 burrow/inner.four
theorem ca65 : callable Try.prog 65 = true := by kernel_rfl
-- 66 burrow/inner.six
theorem ca66 : callable Try.prog 66 = true := by kernel_rfl
-- 67 burrow/burrowref09.address
theorem ca67 : callable Try.prog 67 = true := by kernel_rfl
-- 68 burrow/burrowref09.number
theorem ca68 : callable Try.prog 68 = true := by kernel_rfl
-- 69 slices.Clone[[]byte,byte]
theorem ca69 : callable Try.prog 69 = true := by kernel_rfl
-- 70 (*burrow/burrowcase.Codes).Next
theorem ca70 : callable Try.prog 70 = true := by kernel_rfl
-- 71 (*burrow/burrowcase.Codes).Bytes
theorem ca71 : callable Try.prog 71 = true := by kernel_rfl
-- 72 burrow/inner.valid
theorem ca72 : callable Try.prog 72 = true := by kernel_rfl
-- 73 burrow/inner.cut
theorem ca73 : callable Try.prog 73 = true := by kernel_rfl
-- 74 burrow/burrowref09.Sound
theorem ca74 : callable Try.prog 74 = true := by kernel_rfl
-- 75 burrow/burrowref09.bit
theorem ca75 : callable Try.prog 75 = true := by kernel_rfl
-- 76 burrow/burrowref09.width
theorem ca76 : callable Try.prog 76 = true := by kernel_rfl
-- 77 bytes.Compare
theorem ca77 : callable Try.prog 77 = true := by kernel_rfl
-- 78 burrow/codec.digit
theorem ca78 : callable Try.prog 78 = true := by kernel_rfl
-- 79 burrow/burrowref01.Digit
theorem ca79 : callable Try.prog 79 = true := by kernel_rfl
-- 80 burrow/codec.mark
theorem ca80 : callable Try.prog 80 = true := by kernel_rfl
-- 81 burrow/burrowref01.value
theorem ca81 : callable Try.prog 81 = true := by kernel_rfl
-- 82 (*burrow/burrowcase.Codes).Left
theorem ca82 : callable Try.prog 82 = true := by kernel_rfl
-- 83 internal/bytealg.Compare
-- 84 (runtime.boundsError).Error
-- 85 (runtime.boundsError).RuntimeError
-- 86 (runtime.errorString).Error
-- 87 (runtime.errorString).RuntimeError
-- 88 (runtime.plainError).Error
-- 89 (runtime.plainError).RuntimeError
-- 90 (runtime.errorAddressString).Error
-- 91 (runtime.errorAddressString).RuntimeError
-- 92 (*runtime.TypeAssertionError).Error
-- 93 (*runtime.TypeAssertionError).RuntimeError
-- 94 (*runtime.PanicNilError).Error
-- 95 (*runtime.PanicNilError).RuntimeError
-- 96 (*internal/abi.Type).Align
-- 97 (internal/runtime/maps.unhashableTypeError).Error
-- 98 (internal/runtime/maps.unhashableTypeError).RuntimeError
-- 99 (*burrow/burrowcase.Codes).Bool
-- 100 (internal/abi.Kind).String

end Go.Proofs.Ytnedgmdbehpodaa
