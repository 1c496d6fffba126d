/- TopTrace: part 16 of the proof: for every input the law returns true, and its arguments read behind the call as they read before; where the library's table is as its own text lays it. -/
import Derived.Test.YtefjfjfcjihcpaaGreatDoorQ15
set_option maxRecDepth 10000
set_option maxHeartbeats 400000000
set_option linter.unusedSectionVars false
namespace Go.PM
open Go.Proofs
theorem div10:tE 10 10:=dvS
theorem div11:tE 11 11:=dvS
theorem div12:tE 12 12:=dvS
theorem div13:tE 13 13:=dvS
theorem div14:tE 14 14:=dvS
theorem div15:tE 15 15:=dvS
theorem div16:tE 16 16:=dvS
theorem div17:tE 17 17:=dvS
theorem divN (m:List Int) (d:Nat) (l:List Br) (y:Int) (hY:1<=y/\y<=17) (hm:m[d]? =some y) (hne:l≠[]) (hl:l.length<=4096) (hd:d<100) (hx0:∀x∈l,x.c.length<=8/\d<x.c.length/\∃n:Nat,x.c[d]? =some (n:Int)/\(n:Int)<y) (ih:∀j:Nat,(j:Int)<y->XU m (d+1) (l.filter λx=>decide (x.c[d]? =some (j:Int)))):XU m d l:=by
 have hyc:y=1∨y=2∨y=3∨y=4∨y=5∨y=6∨y=7∨y=8∨y=9∨y=10∨y=11∨y=12∨y=13∨y=14∨y=15∨y=16∨y=17:=by omega
 clear hY
 rcases hyc with rfl|rfl|rfl|rfl|rfl|rfl|rfl|rfl|rfl|rfl|rfl|rfl|rfl|rfl|rfl|rfl|rfl
 ·exact div1 _ rfl m d l hm hne hl hd hx0 ih
 ·exact div2 _ rfl m d l hm hne hl hd hx0 ih
 ·exact div3 _ rfl m d l hm hne hl hd hx0 ih
 ·exact div4 _ rfl m d l hm hne hl hd hx0 ih
 ·exact div5 _ rfl m d l hm hne hl hd hx0 ih
 ·exact div6 _ rfl m d l hm hne hl hd hx0 ih
 ·exact div7 _ rfl m d l hm hne hl hd hx0 ih
 ·exact div8 _ rfl m d l hm hne hl hd hx0 ih
 ·exact div9 _ rfl m d l hm hne hl hd hx0 ih
 ·exact div10 _ rfl m d l hm hne hl hd hx0 ih
 ·exact div11 _ rfl m d l hm hne hl hd hx0 ih
 ·exact div12 _ rfl m d l hm hne hl hd hx0 ih
 ·exact div13 _ rfl m d l hm hne hl hd hx0 ih
 ·exact div14 _ rfl m d l hm hne hl hd hx0 ih
 ·exact div15 _ rfl m d l hm hne hl hd hx0 ih
 ·exact div16 _ rfl m d l hm hne hl hd hx0 ih
 ·exact div17 _ rfl m d l hm hne hl hd hx0 ih
end Go.PM
